/- check.Line: what is asked for, of a package; whether one is it. · Edges as the program has them, the graph that they are, and how its rings are put in order, in plain Lean. -/
import Derived.Test.YtnfnebfioibndaaGreatDoorM12
import Derived.Deep.RegionHeld3
import Derived.Test.YtnfnebfioibndaaGreatDoorM17
namespace Go.Proofs.YtnfnebfioibndaaGreatDoor
open Go.RowKit
set_option maxRecDepth 100000
set_option maxHeartbeats 4000000

theorem depsOf_calls (p : PackD) (dv av gv bv rv pv sv lv : Value) (pa : Option Addr) (pn pc : Nat) (w : World) (h : ∃ a n c, dv = .slice a n c) :
    Calls Tryz.prog 50 #[.agg #[.string p.name, .int .i64 p.ep, .string p.up, .string p.rv, dv, av, gv, bv, rv, pv, sv, lv, .slice pa pn pc]] w fun e w' => e = .returned dv ∧ Below w.heap.size w w' := by
  obtain ⟨a, n, c, rfl⟩ := h
  go_enter Tryz.func50, Tryz.ntmps50
  go_wp2
  go_returns
  exact ⟨rfl, by go_grown⟩
theorem enters_depsOf : ∀ args w, (callFunc 50 args).run Tryz.prog w = .ok (.enter 50 args) w := enters_of Tryz.func50 (by kernel_rfl) rfl
theorem aheadOf_calls (p : PackD) (dv av gv bv rv pv sv lv : Value) (pa : Option Addr) (pn pc : Nat) (w : World) (h : ∃ a n c, av = .slice a n c) :
    Calls Tryz.prog 51 #[.agg #[.string p.name, .int .i64 p.ep, .string p.up, .string p.rv, dv, av, gv, bv, rv, pv, sv, lv, .slice pa pn pc]] w fun e w' => e = .returned av ∧ Below w.heap.size w w' := by
  obtain ⟨a, n, c, rfl⟩ := h
  go_enter Tryz.func51, Tryz.ntmps51
  go_wp2
  go_returns
  exact ⟨rfl, by go_grown⟩
theorem enters_aheadOf : ∀ args w, (callFunc 51 args).run Tryz.prog w = .ok (.enter 51 args) w := enters_of Tryz.func51 (by kernel_rfl) rfl

/-- Of the packages that are known one is what is asked for. -/
theorem hit_calls (t : TermD) (k : Nat) (ks : List KnownD) (kv : Value) (Bl Bk : Nat) (w : World) (hl : w.cell? ⟨Bl, 0, none⟩ = some kv) (hk : w.cell? ⟨Bk, 0, none⟩ = some (.int .i64 ((k : Nat) : Int))) (hK : Knowns w kv ks) (hkl : k < ks.length) (hF : FitK ks) (ht : SmallT t) :
    Calls Tryz.prog 47 #[.agg #[.string t.name, .int .i64 t.op, .int .i64 t.ep, .string t.up, .string t.rv], .pointer (some ⟨Bl, 0, none⟩), .pointer (some ⟨Bk, 0, none⟩)] w fun e w' => e = .returned (.bool (bareB t (ks.getD k KnownD.none).bare)) ∧ Below w.heap.size w w' := by
  have lBl := World.block_lt_of_cell? w _ hl
  have lBk := World.block_lt_of_cell? w _ hk
  obtain ⟨R, ⟨a, cap, rfl, hcap, hmax, hcell⟩, hO⟩ := hK
  unfold maxLen at hmax
  obtain ⟨bp, op, rfl, hbp, hcp⟩ := hcell.resolve_left (by omega)
  obtain ⟨q, hq⟩ : ∃ q, ks.getD k KnownD.none = q := ⟨_, rfl⟩
  have hkn := hO k hkl
  have hmem : ks.getD k KnownD.none ∈ ks := mem_getD _ hkl
  rw [hq] at hkn hmem
  have hsm := hF.small _ hmem
  have HR0 : w.rangeAt bp (op + k * 20) (row20 (R k)) := rangeAt_row20 fun j hj => hcp k j hkl hj
  obtain ⟨m, hm⟩ : ∃ m, ks.length = m := ⟨_, rfl⟩
  rw [hm] at hcap hkl hl
  obtain ⟨s, e, u, r, hd, wl, tl, kp⟩ := q
  obtain ⟨fw, nw, qw, ft, nt, qt, f4, n4, q4, f5, n5, q5, f6, n6, q6, f7, n7, q7, f8, n8, q8, f9, n9, q9, f10, n10, q10, f11, n11, q11, fa, fn, fc, eR, hV, -, -⟩ := hkn.cells
  dsimp only at eR hV hsm
  rw [eR] at HR0
  obtain ⟨w0, hw0⟩ : ∃ w0 : World, w0 = w.alloc (.cells #[.string t.name, .int .i64 t.op, .int .i64 t.ep, .string t.up, .string t.rv] 98) := ⟨_, rfl⟩
  have hB0 : Below w.heap.size w w0 := by rw [hw0]; go_grown
  have hz0 : w0.heap.size = w.heap.size + 1 := by rw [hw0]; simp
  have hTB : w0.rangeAt w.heap.size 0 [.string t.name, .int .i64 t.op, .int .i64 t.ep, .string t.up, .string t.rv] := by rw [hw0]; exact rangeAt_new w [.string t.name, .int .i64 t.op, .int .i64 t.ep, .string t.up, .string t.rv] _
  have HR7 := Lib.hid (rangeAt_at7 HR0)
  have HTB := Lib.hid hTB
  have HB0 := Lib.hid hB0
  have Hl := Lib.hid hl
  have Hk := Lib.hid hk
  have HV := Lib.hid hV
  have Hsm := Lib.hid hsm
  have Hw := Lib.hid hw0
  have Ht := Lib.hid ht
  have hwl : w.heap.size < w0.heap.size := by omega
  have HQ : Hid (bareB t (ks.getD k KnownD.none).bare = meetsB kp.name kp.ep kp.up kp.rv kp.provides t) := by show _ = _; rw [hq]; rfl
  have HH : Hid (∀ w', Below w0.heap.size w0 w' → w'.cell? ⟨bp, op + k * 20 + 7, none⟩ = some (.string kp.name) ∧ w'.cell? ⟨bp, op + k * 20 + 8, none⟩ = some (.int .i64 kp.ep) ∧ w'.cell? ⟨bp, op + k * 20 + 9, none⟩ = some (.string kp.up) ∧ w'.cell? ⟨bp, op + k * 20 + 10, none⟩ = some (.string kp.rv) ∧ w'.cell? ⟨bp, op + k * 20 + 11, none⟩ = some (.slice f4 n4 q4) ∧ w'.cell? ⟨bp, op + k * 20 + 12, none⟩ = some (.slice f5 n5 q5) ∧ w'.cell? ⟨bp, op + k * 20 + 13, none⟩ = some (.slice f6 n6 q6) ∧ w'.cell? ⟨bp, op + k * 20 + 14, none⟩ = some (.slice f7 n7 q7) ∧ w'.cell? ⟨bp, op + k * 20 + 15, none⟩ = some (.slice f8 n8 q8) ∧ w'.cell? ⟨bp, op + k * 20 + 16, none⟩ = some (.slice f9 n9 q9) ∧ w'.cell? ⟨bp, op + k * 20 + 17, none⟩ = some (.slice f10 n10 q10) ∧ w'.cell? ⟨bp, op + k * 20 + 18, none⟩ = some (.slice f11 n11 q11) ∧ w'.cell? ⟨bp, op + k * 20 + 19, none⟩ = some (.slice fa fn fc) ∧ w'.cell? ⟨Bl, 0, none⟩ = some (.slice (some ⟨bp, op, none⟩) m cap) ∧ w'.cell? ⟨Bk, 0, none⟩ = some (.int .i64 ((k : Nat) : Int)) ∧ w'.cell? ⟨w.heap.size, 0, none⟩ = some (.string t.name) ∧ w'.cell? ⟨w.heap.size, 1, none⟩ = some (.int .i64 t.op) ∧ w'.cell? ⟨w.heap.size, 2, none⟩ = some (.int .i64 t.ep) ∧ w'.cell? ⟨w.heap.size, 3, none⟩ = some (.string t.up) ∧ w'.cell? ⟨w.heap.size, 4, none⟩ = some (.string t.rv)) := by
    intro w' hb
    have hb0 := HB0.out.trans (hb.mono HB0.out.size)
    have h7 := rangeAt_below HR7.out hb0 hbp
    have hT := rangeAt_below HTB.out hb hwl
    exact ⟨h7 0 _ rfl, h7 1 _ rfl, h7 2 _ rfl, h7 3 _ rfl, h7 4 _ rfl, h7 5 _ rfl, h7 6 _ rfl, h7 7 _ rfl, h7 8 _ rfl, h7 9 _ rfl, h7 10 _ rfl, h7 11 _ rfl, h7 12 _ rfl, (hb0.cell (p := ⟨Bl, 0, none⟩) lBl).trans Hl.out, (hb0.cell (p := ⟨Bk, 0, none⟩) lBk).trans Hk.out, hT 0 _ rfl, hT 1 _ rfl, hT 2 _ rfl, hT 3 _ rfl, hT 4 _ rfl⟩
  have hBr : Below w0.heap.size w0 w0 := Below.refl _ _
  have HS0 : Hid ((fun w' => Below w0.heap.size w0 w' ∧ w'.cell? ⟨bp, op + k * 20 + 7, none⟩ = some (.string kp.name) ∧ w'.cell? ⟨bp, op + k * 20 + 8, none⟩ = some (.int .i64 kp.ep) ∧ w'.cell? ⟨bp, op + k * 20 + 9, none⟩ = some (.string kp.up) ∧ w'.cell? ⟨bp, op + k * 20 + 10, none⟩ = some (.string kp.rv) ∧ w'.cell? ⟨bp, op + k * 20 + 11, none⟩ = some (.slice f4 n4 q4) ∧ w'.cell? ⟨bp, op + k * 20 + 12, none⟩ = some (.slice f5 n5 q5) ∧ w'.cell? ⟨bp, op + k * 20 + 13, none⟩ = some (.slice f6 n6 q6) ∧ w'.cell? ⟨bp, op + k * 20 + 14, none⟩ = some (.slice f7 n7 q7) ∧ w'.cell? ⟨bp, op + k * 20 + 15, none⟩ = some (.slice f8 n8 q8) ∧ w'.cell? ⟨bp, op + k * 20 + 16, none⟩ = some (.slice f9 n9 q9) ∧ w'.cell? ⟨bp, op + k * 20 + 17, none⟩ = some (.slice f10 n10 q10) ∧ w'.cell? ⟨bp, op + k * 20 + 18, none⟩ = some (.slice f11 n11 q11) ∧ w'.cell? ⟨bp, op + k * 20 + 19, none⟩ = some (.slice fa fn fc) ∧ w'.cell? ⟨Bl, 0, none⟩ = some (.slice (some ⟨bp, op, none⟩) m cap) ∧ w'.cell? ⟨Bk, 0, none⟩ = some (.int .i64 ((k : Nat) : Int)) ∧ w'.cell? ⟨w.heap.size, 0, none⟩ = some (.string t.name) ∧ w'.cell? ⟨w.heap.size, 1, none⟩ = some (.int .i64 t.op) ∧ w'.cell? ⟨w.heap.size, 2, none⟩ = some (.int .i64 t.ep) ∧ w'.cell? ⟨w.heap.size, 3, none⟩ = some (.string t.up) ∧ w'.cell? ⟨w.heap.size, 4, none⟩ = some (.string t.rv)) w0.drew) := ⟨hBr.drew, HH.out _ hBr.drew⟩
  clear hl hk hcell hO hq hkn hmem hsm HR0 hm eR hV hw0 hB0 hz0 hTB hF ht hBr hcp
  go_enter Tryz.func47, Tryz.ntmps47
  go_upto_region 1 with fail
  rw [← Hw.out]
  refine wp_region_held_drew (S := (fun w' => Below w0.heap.size w0 w' ∧ w'.cell? ⟨bp, op + k * 20 + 7, none⟩ = some (.string kp.name) ∧ w'.cell? ⟨bp, op + k * 20 + 8, none⟩ = some (.int .i64 kp.ep) ∧ w'.cell? ⟨bp, op + k * 20 + 9, none⟩ = some (.string kp.up) ∧ w'.cell? ⟨bp, op + k * 20 + 10, none⟩ = some (.string kp.rv) ∧ w'.cell? ⟨bp, op + k * 20 + 11, none⟩ = some (.slice f4 n4 q4) ∧ w'.cell? ⟨bp, op + k * 20 + 12, none⟩ = some (.slice f5 n5 q5) ∧ w'.cell? ⟨bp, op + k * 20 + 13, none⟩ = some (.slice f6 n6 q6) ∧ w'.cell? ⟨bp, op + k * 20 + 14, none⟩ = some (.slice f7 n7 q7) ∧ w'.cell? ⟨bp, op + k * 20 + 15, none⟩ = some (.slice f8 n8 q8) ∧ w'.cell? ⟨bp, op + k * 20 + 16, none⟩ = some (.slice f9 n9 q9) ∧ w'.cell? ⟨bp, op + k * 20 + 17, none⟩ = some (.slice f10 n10 q10) ∧ w'.cell? ⟨bp, op + k * 20 + 18, none⟩ = some (.slice f11 n11 q11) ∧ w'.cell? ⟨bp, op + k * 20 + 19, none⟩ = some (.slice fa fn fc) ∧ w'.cell? ⟨Bl, 0, none⟩ = some (.slice (some ⟨bp, op, none⟩) m cap) ∧ w'.cell? ⟨Bk, 0, none⟩ = some (.int .i64 ((k : Nat) : Int)) ∧ w'.cell? ⟨w.heap.size, 0, none⟩ = some (.string t.name) ∧ w'.cell? ⟨w.heap.size, 1, none⟩ = some (.int .i64 t.op) ∧ w'.cell? ⟨w.heap.size, 2, none⟩ = some (.int .i64 t.ep) ∧ w'.cell? ⟨w.heap.size, 3, none⟩ = some (.string t.up) ∧ w'.cell? ⟨w.heap.size, 4, none⟩ = some (.string t.rv))) (by kernel_rfl) ?_ (fun hHeld => ?_)
  · exact HS0.out
  refine wpAnyH_take (i := 0) (oi := _) (v := .slice (some ⟨bp, op, none⟩) m cap) rfl (by kernel_rfl) (by kernel_rfl) (by kernel_rfl) (fun _ _ _ h => h) (Or.inl ⟨by kernel_rfl, fun w hSw => ?_⟩) hHeld ?_
  · (try dsimp only at hSw); go_simp
  try simp only [Act.put, List.getElem_toArray, List.getElem_cons_succ, List.getElem_cons_zero, List.setIfInBounds_toArray, List.set_cons_zero, List.set_cons_succ]
  refine wpAnyH_take (i := 1) (oi := _) (v := .int .i64 ((k : Nat) : Int)) rfl (by kernel_rfl) (by kernel_rfl) (by kernel_rfl) (fun _ _ _ h => h) (Or.inl ⟨by kernel_rfl, fun w hSw => ?_⟩) hHeld ?_
  · (try dsimp only at hSw); go_simp
  try simp only [Act.put, List.getElem_toArray, List.getElem_cons_succ, List.getElem_cons_zero, List.setIfInBounds_toArray, List.set_cons_zero, List.set_cons_succ]
  refine wpAnyH_take (i := 2) (oi := _) (v := .pointer (some ⟨bp, op + k * 20, none⟩)) rfl (by kernel_rfl) (by kernel_rfl) (by kernel_rfl) (fun _ _ _ h => h) (Or.inl ⟨by kernel_rfl, fun w hSw => ?_⟩) hHeld ?_
  · (try dsimp only at hSw); go_simp
  try simp only [Act.put, List.getElem_toArray, List.getElem_cons_succ, List.getElem_cons_zero, List.setIfInBounds_toArray, List.set_cons_zero, List.set_cons_succ]
  refine wpAnyH_take (i := 3) (oi := _) (v := .pointer (some ⟨bp, op + k * 20 + 7, none⟩)) rfl (by kernel_rfl) (by kernel_rfl) (by kernel_rfl) (fun _ _ _ h => h) (Or.inl ⟨by kernel_rfl, fun w hSw => ?_⟩) hHeld ?_
  · (try dsimp only at hSw); go_simp
  try simp only [Act.put, List.getElem_toArray, List.getElem_cons_succ, List.getElem_cons_zero, List.setIfInBounds_toArray, List.set_cons_zero, List.set_cons_succ]
  refine wpAnyH_take (i := 4) (oi := _) (v := .agg #[.string kp.name, .int .i64 kp.ep, .string kp.up, .string kp.rv, .slice f4 n4 q4, .slice f5 n5 q5, .slice f6 n6 q6, .slice f7 n7 q7, .slice f8 n8 q8, .slice f9 n9 q9, .slice f10 n10 q10, .slice f11 n11 q11, .slice fa fn fc]) rfl (by kernel_rfl) (by kernel_rfl) (by kernel_rfl) (fun _ _ _ h => h) (Or.inl ⟨by kernel_rfl, fun w hSw => ?_⟩) hHeld ?_
  · (try dsimp only at hSw); go_simp
  try simp only [Act.put, List.getElem_toArray, List.getElem_cons_succ, List.getElem_cons_zero, List.setIfInBounds_toArray, List.set_cons_zero, List.set_cons_succ]
  refine wpAnyH_take (i := 6) (oi := _) (v := .agg #[.string t.name, .int .i64 t.op, .int .i64 t.ep, .string t.up, .string t.rv]) rfl (by kernel_rfl) (by kernel_rfl) (by kernel_rfl) (fun _ _ _ h => h) (Or.inl ⟨by kernel_rfl, fun w hSw => ?_⟩) hHeld ?_
  · (try dsimp only at hSw); go_simp
  try simp only [Act.put, List.getElem_toArray, List.getElem_cons_succ, List.getElem_cons_zero, List.setIfInBounds_toArray, List.set_cons_zero, List.set_cons_succ]
  refine wpAnyH_ready (rs := [5]) (by kernel_rfl) (by simp) ?_
  refine AllReadyH.cons (o := _) rfl (fun K hK => ?_) AllReadyH.nil
  go_simp
  go_at_call 29
  refine (offer_of_calls kp (.slice f4 n4 q4) (.slice f5 n5 q5) (.slice f6 n6 q6) (.slice f7 n7 q7) (.slice f8 n8 q8) (.slice f9 n9 q9) (.slice f10 n10 q10) (.slice f11 n11 q11) fa fn fc _ ⟨_, _, _, rfl⟩).mono ?_
  rintro e w' ⟨rfl, hb⟩
  refine hK.out _ _ (held_next HH.out hHeld.1 hb) (fun hHeld2 => ?_)
  clear hK K hb hHeld
  have hHeld := hHeld2
  clear hHeld2
  try simp only [Act.put, List.getElem_toArray, List.getElem_cons_succ, List.getElem_cons_zero, List.setIfInBounds_toArray, List.set_cons_zero, List.set_cons_succ]
  refine wpAnyH_ready (rs := [7]) (by kernel_rfl) (by simp) ?_
  refine AllReadyH.cons (o := _) rfl (fun K hK => ?_) AllReadyH.nil
  go_simp
  go_at_call 48
  refine (meets_calls kp.name kp.ep kp.up kp.rv (.slice f9 n9 q9) kp.provides t _ (HV.out.provides.below (HB0.out.trans (hHeld.1.mono HB0.out.size)) (Nat.le_refl _)) Ht.out Hsm.out.sm Hsm.out.provides).mono ?_
  rintro e w' ⟨rfl, hb⟩
  refine hK.out _ _ (held_next HH.out hHeld.1 hb) (fun hHeld2 => ?_)
  clear hK K hb hHeld
  have hHeld := hHeld2
  clear hHeld2
  try simp only [Act.put, List.getElem_toArray, List.getElem_cons_succ, List.getElem_cons_zero, List.setIfInBounds_toArray, List.set_cons_zero, List.set_cons_succ]
  refine wpAnyH_take (i := 8) (oi := _) (v := .bool (meetsB kp.name kp.ep kp.up kp.rv kp.provides t)) rfl (by kernel_rfl) (by kernel_rfl) (by kernel_rfl) (fun _ _ _ h => h) (Or.inl ⟨by kernel_rfl, fun w hSw => ?_⟩) hHeld ?_
  · (try dsimp only at hSw); go_simp
  try simp only [Act.put, List.getElem_toArray, List.getElem_cons_succ, List.getElem_cons_zero, List.setIfInBounds_toArray, List.set_cons_zero, List.set_cons_succ]
  refine wpAnyH_done (by kernel_rfl) ?_ _
  have HF := Lib.hid (HB0.out.trans (hHeld.1.mono HB0.out.size))
  clear hHeld
  go_wp2_with fail
  go_ret
  exact ⟨ret_bool HQ.out.symm, HF.out⟩
theorem enters_hit : ∀ args w, (callFunc 47 args).run Tryz.prog w = .ok (.enter 47 args) w := enters_of Tryz.func47 (by kernel_rfl) rfl
end Go.Proofs.YtnfnebfioibndaaGreatDoor
namespace Go.Proofs.YtnfnebfioibndaaGreatDoor
set_option maxRecDepth 10000

theorem nodup_len {α : Type} [DecidableEq α] {l l' : List α} (h : l.Nodup) (hs : ∀ x ∈ l, x ∈ l') : l.length ≤ l'.length := by
  induction l generalizing l' with
  | nil => exact Nat.zero_le _
  | cons a l ih =>
    rw [List.nodup_cons] at h
    have ha := hs a (List.mem_cons_self ..)
    have h1 := ih h.2 (l' := l'.erase a) (fun x hx => (List.mem_erase_of_ne (fun e => h.1 (by rw [← e]; exact hx))).2 (hs x (List.mem_cons_of_mem _ hx)))
    rw [List.length_erase_of_mem ha] at h1
    have := List.length_pos_of_mem ha
    simp
    omega

/-! ### the graph -/
def EdL (l : List EdgeD) (a b : Nat) : Prop := (((a : Nat) : Int), ((b : Nat) : Int)) ∈ l
def GoodE (n : Nat) (l : List EdgeD) : Prop := ∀ e ∈ l, 0 ≤ e.1 ∧ e.1 < n ∧ 0 ≤ e.2 ∧ e.2 < n
theorem firstBad_fine {n : Int} {l : List EdgeD} {i : Int} (h : firstBad n l i = (0, -1)) : ∀ e ∈ l, badE n e = false := by
  induction l generalizing i with
  | nil => intro e he; cases he
  | cons a l ih =>
    rw [firstBad] at h
    cases hb : badE n a with
    | true => rw [hb] at h; simp at h
    | false =>
      rw [hb] at h
      intro e he
      rcases List.mem_cons.1 he with rfl | he
      · exact hb
      · exact ih h e he
theorem right_fine {n : Int} {l : List EdgeD} (h : rightR n l = (0, -1)) : ∃ m : Nat, n = m ∧ m ≤ 40 ∧ GoodE m l := by
  unfold rightR at h
  split at h
  · simp at h
  · refine ⟨n.toNat, by omega, by omega, fun e he => ?_⟩
    have := firstBad_fine h e he
    unfold badE at this
    simp at this
    omega
theorem GoodE.lt {n : Nat} {l : List EdgeD} (h : GoodE n l) {a b : Nat} (he : EdL l a b) : a < n ∧ b < n := by
  have := h _ he
  simp only at this
  omega
def adjOf (l : List EdgeD) (a : Nat) : List Nat := (l.filter fun e => e.1 == ((a : Nat) : Int)).map fun e => e.2.toNat
theorem adjOf_snoc (l : List EdgeD) (x y a : Nat) : adjOf (l ++ [(((x : Nat) : Int), ((y : Nat) : Int))]) a = if a = x then adjOf l a ++ [y] else adjOf l a := by
  unfold adjOf
  rw [List.filter_append, List.map_append]
  by_cases h : a = x
  · subst h
    simp
  · rw [if_neg h]
    have : (((x : Nat) : Int) == ((a : Nat) : Int)) = false := by rw [beq_eq_false_iff_ne]; omega
    simp [List.filter_cons, this]
theorem adjOf_mem {n : Nat} {l : List EdgeD} (h : GoodE n l) {a b : Nat} : b ∈ adjOf l a ↔ EdL l a b := by
  unfold adjOf EdL
  simp only [List.mem_map, List.mem_filter, beq_iff_eq]
  constructor
  · rintro ⟨⟨x, y⟩, ⟨hm, hx⟩, hy⟩
    have hg := h _ hm
    simp only at hx hy hg
    have e2 : y = ((b : Nat) : Int) := by omega
    rw [hx, e2] at hm
    exact hm
  · intro hm
    exact ⟨_, ⟨hm, rfl⟩, by simp⟩
theorem edgeOf_eq {n : Nat} {l : List EdgeD} (h : GoodE n l) : EdgeOf n (adjOf l) = EdL l := by
  funext a b
  apply propext
  unfold EdgeOf
  rw [adjOf_mem h]
  exact ⟨fun x => x.2, fun x => ⟨(h.lt x).1, x⟩⟩
theorem adjOf_len (l : List EdgeD) (a : Nat) : (adjOf l a).length ≤ l.length := by
  unfold adjOf
  rw [List.length_map]
  exact List.length_filter_le _ _

/-! ### rings, as they were found -/
def ringAt (sets : List (List Nat)) (i : Nat) : List Nat := sets.getD i []
structure SetsOk (E : Nat → Nat → Prop) (n : Nat) (sets : List (List Nat)) : Prop where
  rings : ∀ S ∈ sets, Ring E S
  lt : ∀ S ∈ sets, ∀ a ∈ S, a < n
  apart : sets.Pairwise (fun S T => ∀ a ∈ S, a ∉ T)
  all : AllTold n sets
theorem ringAt_mem {sets : List (List Nat)} {i : Nat} (h : i < sets.length) : ringAt sets i ∈ sets := mem_getD' _ h
theorem ringAt_get {sets : List (List Nat)} {i : Nat} (h : i < sets.length) : ringAt sets i = sets[i] := by simp [ringAt, List.getD, List.getElem?_eq_getElem h]
theorem mem_ringAt {sets : List (List Nat)} {S : List Nat} (h : S ∈ sets) : ∃ i, i < sets.length ∧ ringAt sets i = S := by
  obtain ⟨i, hi, rfl⟩ := List.getElem_of_mem h
  exact ⟨i, hi, ringAt_get hi⟩
theorem apart_uniq {sets : List (List Nat)} (h : sets.Pairwise (fun S T => ∀ a ∈ S, a ∉ T)) {i j a : Nat} (hi : i < sets.length) (hj : j < sets.length) (h1 : a ∈ ringAt sets i) (h2 : a ∈ ringAt sets j) : i = j := by
  rw [ringAt_get hi] at h1
  rw [ringAt_get hj] at h2
  have hp := List.pairwise_iff_getElem.1 h
  rcases Nat.lt_trichotomy i j with hlt | he | hgt
  · exact absurd h2 (hp i j hi hj hlt a h1)
  · exact he
  · exact absurd h1 (hp j i hj hi hgt a h2)
theorem setsOk_of_scc {n : Nat} {E : Nat → Nat → Prop} {s : St} (h : Scc n E [] s) (hn : ∀ a b, E a b → a < n ∧ b < n) (hall : ∀ v, v < n → s.at_ v ≠ 0) : SetsOk E n s.sets := by
  have ho : s.opn = [] := by
    cases e : s.opn with
    | nil => rfl
    | cons a t =>
      obtain ⟨g, hg, _⟩ := h.down a (by rw [e]; exact List.mem_cons_self ..)
      cases hg
  refine ⟨h.rings, fun S hS a ha => ?_, h.apart, fun i hi => ?_⟩
  · exact h.dom a ((h.told a).2 ⟨S, hS, ha⟩).1
  · exact (h.told i).1 ⟨hall i hi, by rw [ho]; simp⟩

def OfSets (sets : List (List Nat)) (of_ : Nat → Nat) : Prop := ∀ i, i < sets.length → ∀ v ∈ ringAt sets i, of_ v = i
def updB (f : Nat → Bool) (v : Nat) : Nat → Bool := fun u => if u = v then true else f u
structure Settle (E : Nat → Nat → Prop) (n : Nat) (sets outs : List (List Nat)) (done : Nat → Bool) : Prop where
  ord : InOrder E n outs
  idx : ∃ ix : List Nat, ix.Nodup ∧ (∀ i ∈ ix, i < sets.length) ∧ outs = ix.map (ringAt sets) ∧ ∀ i, i < sets.length → (done i = true ↔ i ∈ ix)
theorem Settle.start (E : Nat → Nat → Prop) (n : Nat) (sets : List (List Nat)) : Settle E n sets [] (fun _ => false) :=
  ⟨.nil E n, [], List.nodup_nil, by simp, rfl, by simp⟩
theorem Settle.told {E : Nat → Nat → Prop} {n : Nat} {sets outs : List (List Nat)} {done : Nat → Bool} (h : Settle E n sets outs done) (hs : SetsOk E n sets) {i a : Nat} (hi : i < sets.length) (ha : a ∈ ringAt sets i) : ToldIn outs a ↔ done i = true := by
  obtain ⟨ix, h1, h2, rfl, h4⟩ := h.idx
  rw [h4 i hi]
  constructor
  · rintro ⟨S, hS, haS⟩
    obtain ⟨j, hj, rfl⟩ := List.mem_map.1 hS
    rw [apart_uniq hs.apart hi (h2 j hj) ha haS]
    exact hj
  · intro hm
    exact ⟨ringAt sets i, List.mem_map_of_mem hm, ha⟩

def waitE (of_ : Nat → Nat) (done : Nat → Bool) (i : Nat) (e : EdgeD) : Bool := of_ e.2.toNat == i && (!(of_ e.1.toNat == i) && !done (of_ e.1.toNat))
def waitsB (l : List EdgeD) (of_ : Nat → Nat) (done : Nat → Bool) (i : Nat) : Bool := l.any (waitE of_ done i)
theorem ring_of {E : Nat → Nat → Prop} {n : Nat} {sets : List (List Nat)} (hs : SetsOk E n sets) {of_ : Nat → Nat} (ho : OfSets sets of_) {a : Nat} (ha : a < n) : of_ a < sets.length ∧ a ∈ ringAt sets (of_ a) := by
  obtain ⟨S, hS, haS⟩ := hs.all a ha
  obtain ⟨j, hj, rfl⟩ := mem_ringAt hS
  rw [ho j hj a haS]
  exact ⟨hj, haS⟩
theorem waits_iff {n : Nat} {l : List EdgeD} (hG : GoodE n l) {sets outs : List (List Nat)} {done : Nat → Bool} (h : Settle (EdL l) n sets outs done) (hs : SetsOk (EdL l) n sets) {of_ : Nat → Nat} (ho : OfSets sets of_) {i : Nat} (hi : i < sets.length) :
    waitsB l of_ done i = true ↔ Waits (EdL l) outs (ringAt sets i) := by
  unfold waitsB
  rw [List.any_eq_true]
  constructor
  · rintro ⟨⟨x, y⟩, hm, hw⟩
    have hg := hG _ hm
    unfold waitE at hw
    simp only [Bool.and_eq_true, beq_iff_eq, Bool.not_eq_true', beq_eq_false_iff_ne] at hw
    simp only at hg
    have ex : ((x.toNat : Nat) : Int) = x := by omega
    have ey : ((y.toNat : Nat) : Int) = y := by omega
    obtain ⟨p1, p2⟩ := ring_of hs ho (a := x.toNat) (by omega)
    obtain ⟨q1, q2⟩ := ring_of hs ho (a := y.toNat) (by omega)
    refine ⟨x.toNat, y.toNat, by unfold EdL; rw [ex, ey]; exact hm, by rw [← hw.1]; exact q2, fun hp => hw.2.1 (ho i hi _ hp), fun ht => ?_⟩
    have := (h.told hs p1 p2).1 ht
    rw [hw.2.2] at this
    cases this
  · rintro ⟨p, q, he, hq, hp, hu⟩
    refine ⟨_, he, ?_⟩
    obtain ⟨p1, p2⟩ := ring_of hs ho (a := p) (hG.lt he).1
    unfold waitE
    simp only [Bool.and_eq_true, beq_iff_eq, Bool.not_eq_true', beq_eq_false_iff_ne, Int.toNat_natCast]
    refine ⟨ho i hi _ hq, fun e => hp (by rw [← e]; exact p2), ?_⟩
    cases hd : done (of_ p) with
    | false => rfl
    | true => exact absurd ((h.told hs p1 p2).2 hd) hu

def hd (S : List Nat) : Nat := S.getD 0 0
theorem hd_of {S : List Nat} {a : Nat} (h : S.head? = some a) : hd S = a := by
  cases S with
  | nil => cases h
  | cons b S => simpa [hd] using h
def candB (l : List EdgeD) (of_ : Nat → Nat) (done : Nat → Bool) (i : Nat) : Bool := !done i && !waitsB l of_ done i
/-- The best of the first k. -/
def BestR (sets : List (List Nat)) (c : Nat → Bool) (k : Nat) (best : Int) : Prop :=
  (best = -1 ∧ ∀ i, i < k → c i = false) ∨ ∃ b : Nat, best = ((b : Nat) : Int) ∧ b < k ∧ c b = true ∧ ∀ i, i < k → c i = true → hd (ringAt sets b) ≤ hd (ringAt sets i)
theorem BestR.start (sets : List (List Nat)) (c : Nat → Bool) : BestR sets c 0 (-1) := Or.inl ⟨rfl, fun i hi => absurd hi (Nat.not_lt_zero _)⟩
theorem BestR.keep {sets : List (List Nat)} {c : Nat → Bool} {k : Nat} {best : Int} (h : BestR sets c k best) (hk : c k = false ∨ (0 ≤ best ∧ hd (ringAt sets best.toNat) ≤ hd (ringAt sets k))) : BestR sets c (k + 1) best := by
  rcases h with ⟨rfl, h1⟩ | ⟨b, rfl, hb, hc, hl⟩
  · refine Or.inl ⟨rfl, fun i hi => ?_⟩
    rcases Nat.lt_or_ge i k with h' | h'
    · exact h1 i h'
    · rw [show i = k by omega]
      rcases hk with hk | ⟨hk, _⟩
      · exact hk
      · omega
  · refine Or.inr ⟨b, rfl, by omega, hc, fun i hi hci => ?_⟩
    rcases Nat.lt_or_ge i k with h' | h'
    · exact hl i h' hci
    · have e : i = k := by omega
      rw [e] at hci ⊢
      rcases hk with hk | ⟨_, hk⟩
      · rw [hk] at hci; cases hci
      · simpa using hk
theorem BestR.take {sets : List (List Nat)} {c : Nat → Bool} {k : Nat} {best : Int} (h : BestR sets c k best) (hc : c k = true) (hk : best < 0 ∨ hd (ringAt sets k) < hd (ringAt sets best.toNat)) : BestR sets c (k + 1) ((k : Nat) : Int) := by
  refine Or.inr ⟨k, rfl, by omega, hc, fun i hi hci => ?_⟩
  rcases Nat.lt_or_ge i k with h' | h'
  · rcases h with ⟨rfl, h1⟩ | ⟨b, rfl, hb, hcb, hl⟩
    · rw [h1 i h'] at hci; cases hci
    · have := hl i h' hci
      rcases hk with hk | hk
      · omega
      · rw [Int.toNat_natCast] at hk; omega
  · rw [show i = k by omega]
    exact Nat.le_refl _
theorem BestR.bound {sets : List (List Nat)} {c : Nat → Bool} {k : Nat} {best : Int} (h : BestR sets c k best) : -1 ≤ best ∧ best < ((k : Nat) : Int) := by
  rcases h with ⟨rfl, h1⟩ | ⟨b, rfl, hb, hcb, hl⟩ <;> omega
theorem best_end {n : Nat} {l : List EdgeD} (hG : GoodE n l) {sets outs : List (List Nat)} {done : Nat → Bool} (h : Settle (EdL l) n sets outs done) (hs : SetsOk (EdL l) n sets) {of_ : Nat → Nat} (ho : OfSets sets of_) (hlt : outs.length < sets.length)
    {best : Int} (hb : BestR sets (candB l of_ done) sets.length best) :
    ∃ b : Nat, best = ((b : Nat) : Int) ∧ b < sets.length ∧ Settle (EdL l) n sets (outs ++ [ringAt sets b]) (updB done b) := by
  have cand_iff : ∀ i, i < sets.length → (candB l of_ done i = true ↔ (∀ a ∈ ringAt sets i, ¬ ToldIn outs a) ∧ ¬ Waits (EdL l) outs (ringAt sets i)) := by
    intro i hi
    have hw := waits_iff hG h hs ho hi
    obtain ⟨a, _, ha, _⟩ := (hs.rings _ (ringAt_mem hi)).head
    unfold candB
    simp only [Bool.and_eq_true, Bool.not_eq_true']
    constructor
    · rintro ⟨h1, h2⟩
      refine ⟨fun x hx ht => ?_, fun hW => ?_⟩
      · have := (h.told hs hi hx).1 ht
        rw [h1] at this; cases this
      · have := hw.2 hW
        rw [h2] at this; cases this
    · rintro ⟨h1, h2⟩
      constructor
      · cases hd : done i with
        | false => rfl
        | true => exact absurd ((h.told hs hi ha).2 hd) (h1 a ha)
      · cases hd : waitsB l of_ done i with
        | false => rfl
        | true => exact absurd (hw.1 hd) h2
  have hE : ∀ a b, EdL l a b → a < n := fun a b he => (hG.lt he).1
  rcases hb with ⟨_, hno⟩ | ⟨b, rfl, hbl, hcb, hmin⟩
  · exfalso
    -- one is not told; one of those is free
    obtain ⟨ix, n1, n2, n3, n4⟩ := h.idx
    have hex : ∃ i, i < sets.length ∧ i ∉ ix := Classical.byContradiction fun hn => by
      have hsub : ∀ i, i < sets.length → i ∈ ix := fun i hi => Classical.byContradiction fun hni => hn ⟨i, hi, hni⟩
      have : (List.range sets.length).length ≤ ix.length := nodup_len List.nodup_range (fun i hi => hsub i (List.mem_range.1 hi))
      rw [n3] at hlt
      simp at this hlt
      omega
    obtain ⟨i, hi, hni⟩ := hex
    obtain ⟨a, _, ha, _⟩ := (hs.rings _ (ringAt_mem hi)).head
    have hua : ¬ ToldIn outs a := fun ht => hni ((n4 i hi).1 ((h.told hs hi ha).1 ht))
    obtain ⟨j, hj⟩ := free_exists (E := EdL l) (hs.lt _ (ringAt_mem hi) a ha) hua
    obtain ⟨T, hT, hjT⟩ := hs.all j hj.lt
    obtain ⟨k, hk, rfl⟩ := mem_ringAt hT
    have hc : candB l of_ done k = true := (cand_iff k hk).2 ⟨fun x hx ht => hj.un ((h.told hs hk hjT).2 ((h.told hs hk hx).1 ht)), hj.not_waits hE (hs.rings _ hT) hjT⟩
    rw [hno k hk] at hc
    cases hc
  · refine ⟨b, rfl, hbl, ?_, ?_⟩
    · obtain ⟨c1, c2⟩ := (cand_iff b hbl).1 hcb
      refine h.ord.snoc (nxt_of_best h.ord hE hs.rings hs.lt hs.all (ringAt_mem hbl) c1 c2 fun T hT hTu hTw x y hx hy => ?_)
      obtain ⟨k, hk, rfl⟩ := mem_ringAt hT
      have := hmin k hk ((cand_iff k hk).2 ⟨hTu, hTw⟩)
      rw [hd_of hx, hd_of hy] at this
      exact this
    · obtain ⟨ix, n1, n2, rfl, n4⟩ := h.idx
      have hnb : b ∉ ix := by
        intro hm
        have hdn := (n4 b hbl).2 hm
        unfold candB at hcb
        rw [hdn] at hcb
        cases hcb
      refine ⟨ix ++ [b], ?_, ?_, by simp, ?_⟩
      · rw [List.nodup_append]
        exact ⟨n1, by simp, fun x hx y hy e => hnb (by rw [List.mem_singleton.1 hy] at e; rw [← e]; exact hx)⟩
      · intro i hi
        rcases List.mem_append.1 hi with hi | hi
        · exact n2 i hi
        · rw [List.mem_singleton.1 hi]; exact hbl
      · intro i hi
        unfold updB
        by_cases e : i = b
        · simp [e]
        · rw [if_neg e, n4 i hi]
          simp [e]
theorem settle_end {E : Nat → Nat → Prop} {n : Nat} {sets outs : List (List Nat)} {done : Nat → Bool} (h : Settle E n sets outs done) (hs : SetsOk E n sets) (hlen : sets.length ≤ outs.length) : InOrder E n outs ∧ AllTold n outs := by
  refine ⟨h.ord, fun i hi => ?_⟩
  obtain ⟨ix, n1, n2, n3, n4⟩ := h.idx
  obtain ⟨S, hS, hiS⟩ := hs.all i hi
  obtain ⟨k, hk, rfl⟩ := mem_ringAt hS
  have hm : k ∈ ix := Classical.byContradiction fun hn => by
    have : (k :: ix).length ≤ (List.range sets.length).length := nodup_len (List.nodup_cons.2 ⟨hn, n1⟩) (fun x hx => by
      rcases List.mem_cons.1 hx with rfl | hx
      · exact List.mem_range.2 hk
      · exact List.mem_range.2 (n2 x hx))
    rw [n3] at hlen
    simp at this hlen
    omega
  rw [n3]
  exact ⟨ringAt sets k, List.mem_map_of_mem hm, hiS⟩
theorem Settle.len {E : Nat → Nat → Prop} {n : Nat} {sets outs : List (List Nat)} {done : Nat → Bool} (h : Settle E n sets outs done) : outs.length ≤ sets.length := by
  obtain ⟨ix, n1, n2, n3, n4⟩ := h.idx
  have := nodup_len n1 (l' := List.range sets.length) (fun i hi => List.mem_range.2 (n2 i hi))
  rw [n3]
  simpa using this

/-! ### the document's -/
def freeB (T : Nat → Nat → Bool) (told : Nat → Bool) (n i : Nat) : Bool := !told i && (List.range n).all fun j => told j || (!T j i || T i j)
structure DocR (E : Nat → Nat → Prop) (n : Nat) (outs : List (List Nat)) (told : Nat → Bool) : Prop where
  ord : InOrder E n outs
  told : ∀ i, i < n → (told i = true ↔ ToldIn outs i)
theorem free_iff {E : Nat → Nat → Prop} {n : Nat} {T : Nat → Nat → Bool} (hT : ∀ i j, i < n → j < n → (T i j = true ↔ Rch E i j)) {outs : List (List Nat)} {told : Nat → Bool} (h : DocR E n outs told) {i : Nat} (hi : i < n) :
    freeB T told n i = true ↔ Free E n outs i := by
  unfold freeB
  simp only [Bool.and_eq_true, Bool.not_eq_true', List.all_eq_true, Bool.or_eq_true]
  constructor
  · rintro ⟨h1, h2⟩
    refine ⟨hi, fun ht => ?_, fun j hj hju hr => ?_⟩
    · have := (h.told i hi).2 ht
      rw [h1] at this; cases this
    · rcases h2 j (List.mem_range.2 hj) with ht | ht | ht
      · exact absurd ((h.told j hj).1 ht) hju
      · have := (hT j i hj hi).2 hr
        rw [ht] at this; cases this
      · exact (hT i j hi hj).1 ht
  · intro hf
    constructor
    · cases e : told i with
      | false => rfl
      | true => exact absurd ((h.told i hi).1 e) hf.un
    · intro j hj
      have hj := List.mem_range.1 hj
      cases e : told j with
      | true => exact Or.inl rfl
      | false =>
        refine Or.inr ?_
        cases e2 : T j i with
        | false => exact Or.inl rfl
        | true =>
          refine Or.inr ((hT i j hi hj).2 (hf.ahead j hj (fun ht => ?_) ((hT j i hj hi).1 e2)))
          rw [(h.told j hj).2 ht] at e
          cases e
def setOf (T : Nat → Nat → Bool) (n i : Nat) : List Nat := (List.range n).filter fun j => T i j && T j i
def tellB (T : Nat → Nat → Bool) (told : Nat → Bool) (i m : Nat) : Nat → Bool := fun j => told j || (decide (j < m) && (T i j && T j i))
theorem doc_step {E : Nat → Nat → Prop} {n : Nat} {T : Nat → Nat → Bool} (hE : ∀ a b, E a b → a < n ∧ b < n) (hT : ∀ i j, i < n → j < n → (T i j = true ↔ Rch E i j)) {outs : List (List Nat)} {told : Nat → Bool} (h : DocR E n outs told) {i : Nat} (hi : i < n)
    (hf : freeB T told n i = true) (hl : ∀ j, j < i → freeB T told n j = false) : DocR E n (outs ++ [setOf T n i]) (tellB T told i n) := by
  have hm : ∀ j, j ∈ setOf T n i ↔ (j < n ∧ Rch E i j ∧ Rch E j i) := by
    intro j
    unfold setOf
    rw [List.mem_filter, List.mem_range, Bool.and_eq_true]
    constructor
    · rintro ⟨h1, h2, h3⟩
      exact ⟨h1, (hT i j hi h1).1 h2, (hT j i h1 hi).1 h3⟩
    · rintro ⟨h1, h2, h3⟩
      exact ⟨h1, (hT i j hi h1).2 h2, (hT j i h1 hi).2 h3⟩
  have hN : Nxt E n outs (setOf T n i) := by
    refine nxt_of_least hE ((free_iff hT h hi).1 hf) (fun j hj hF => ?_) ?_ hm h.ord.both
    · have := (free_iff hT h (by omega)).2 hF
      rw [hl j hj] at this
      cases this
    · exact List.Pairwise.filter _ List.pairwise_lt_range
  refine ⟨h.ord.snoc hN, fun j hj => ?_⟩
  rw [told_snoc, hm j, ← h.told j hj]
  unfold tellB
  rw [Bool.or_eq_true, Bool.and_eq_true, Bool.and_eq_true, decide_eq_true_eq, hT i j hi hj, hT j i hj hi]
def toldCnt (told : Nat → Bool) (n : Nat) : Nat := ((List.range n).filter told).length
theorem told_more {T : Nat → Nat → Bool} {told : Nat → Bool} {n i : Nat} (hi : i < n) (hr : T i i = true) (hf : freeB T told n i = true) : toldCnt told n + 1 ≤ toldCnt (tellB T told i n) n := by
  unfold toldCnt
  refine filter_lt (y := i) (fun x _ hx => by unfold tellB; rw [hx]; rfl) (List.mem_range.2 hi) ?_ ?_
  · unfold tellB
    simp [hr, hi]
  · unfold freeB at hf
    simp only [Bool.and_eq_true, Bool.not_eq_true'] at hf
    exact hf.1
theorem told_all {E : Nat → Nat → Prop} {n : Nat} {outs : List (List Nat)} {told : Nat → Bool} (h : DocR E n outs told) (hc : n ≤ toldCnt told n) : AllTold n outs := by
  intro i hi
  have hall : ∀ x ∈ List.range n, told x = true := by
    unfold toldCnt at hc
    have : ((List.range n).filter told).length = (List.range n).length := Nat.le_antisymm (List.length_filter_le _ _) (by simpa using hc)
    exact List.length_filter_eq_length_iff.1 this
  exact (h.told i hi).1 (hall i (List.mem_range.2 hi))
theorem told_none {E : Nat → Nat → Prop} {n : Nat} {T : Nat → Nat → Bool} (hT : ∀ i j, i < n → j < n → (T i j = true ↔ Rch E i j)) {outs : List (List Nat)} {told : Nat → Bool} (h : DocR E n outs told) (hno : ∀ i, i < n → freeB T told n i = false) : AllTold n outs := by
  intro i hi
  refine Classical.byContradiction fun hu => ?_
  obtain ⟨j, hj⟩ := free_exists (E := E) hi hu
  have := (free_iff hT h hj.lt).2 hj
  rw [hno j hj.lt] at this
  cases this
end Go.Proofs.YtnfnebfioibndaaGreatDoor
