/- stevedorelaw.CheckJudges: the law's own walk. -/
import Derived.Test.YtnfnebfioibndaaGreatDoorKnownL
namespace Go.Proofs.YtnfnebfioibndaaGreatDoor
open Go.RowKit
set_option maxRecDepth 100000
set_option maxHeartbeats 80000000

theorem checkJudges_calls (kv bv : Value) (ks : List KnownD) (p : PackD) (dv av gv bv' rv pv sv lv : Value) (pa : Option Addr) (pn pc : Nat) (which : Int) (ws : List Int) (w : World) (hK : Knowns w kv ks) (hP : PackV w p dv av gv bv' rv pv sv lv pa pn pc) (hI : Ints w bv ws) (hA : TabA w) (hR : TabR w) (hE : ErrVar w) (hN : FineR w) :
    Calls Tryz.prog 3 #[kv, .agg #[.string p.name, .int .i64 p.ep, .string p.up, .string p.rv, dv, av, gv, bv', rv, pv, sv, lv, .slice pa pn pc], .int .i64 which, bv] w fun e w' => e = .returned (.bool true) ∧ Below w.heap.size w w' := by
  obtain ⟨w0, hw0⟩ : ∃ w0 : World, w0 = w.alloc (.cells #[.string p.name, .int .i64 p.ep, .string p.up, .string p.rv, dv, av, gv, bv', rv, pv, sv, lv, .slice pa pn pc] 30) := ⟨_, rfl⟩
  have hB0 : Below w.heap.size w w0 := by rw [hw0]; go_grown
  have hz0 : w0.heap.size = w.heap.size + 1 := by rw [hw0]; simp
  have hPB : w0.rangeAt w.heap.size 0 [.string p.name, .int .i64 p.ep, .string p.up, .string p.rv, dv, av, gv, bv', rv, pv, sv, lv, .slice pa pn pc] := by rw [hw0]; exact rangeAt_new w [.string p.name, .int .i64 p.ep, .string p.up, .string p.rv, dv, av, gv, bv', rv, pv, sv, lv, .slice pa pn pc] _
  have HI := Lib.hid (hI.below hB0 (Nat.le_refl _))
  obtain ⟨⟨ai, capi, rfl, hcapi, hmaxi, hcelli⟩, -⟩ := hI
  unfold maxLen at hmaxi
  obtain ⟨n, hn⟩ : ∃ n, ws.length = n := ⟨_, rfl⟩
  rw [hn] at hcapi HI ⊢
  have HK := Lib.hid (hK.below hB0 (Nat.le_refl _))
  have HP := Lib.hid (hP.below hB0 (Nat.le_refl _))
  have HA := Lib.hid (hA.below hB0)
  have HR := Lib.hid (hR.below hB0)
  have HE := Lib.hid (hE.below hB0)
  have HN := Lib.hid (hN.below hB0 (Nat.le_refl _))
  have hwl : w.heap.size < w0.heap.size := by omega
  have HPB := Lib.hid hPB
  have Hn := Lib.hid hn
  have Hw := Lib.hid hw0
  have HB0 := Lib.hid hB0
  have CK : Hid (Calls Tryz.prog 5 #[kv] w0 (KnownsR w0 ks)) := known_calls _ _ _ HK.out
  clear hcelli hn hPB hw0 hB0 hK hP hA hR hE hN
  go_enter Tryz.func3, Tryz.ntmps3
  go_wp2_with fail
  rw [← Hw.out]
  go_wp2_with fail
  refine CK.out.mono ?_
  rintro e1 w1 ⟨kx, rfl, hkx, hb1⟩
  have Hb1 := Lib.hid hb1
  have HKX := Lib.hid hkx
  have h01 := hb1.size
  clear CK hkx hb1
  cases hok : knownsB ks
  case' false =>
    clear hok
    go_wp2_with fail
    go_ret
    exact ⟨rfl, HB0.out.trans (Hb1.out.mono HB0.out.size)⟩
  have HK1 := Lib.hid (HKX.out hok)
  have HF1 := Lib.hid (fit_of_knowns hok)
  have HF2 := Lib.hid (fit_of_knowns' hok)
  clear hok HKX
  have HPB1 : Hid (w1.rangeAt w.heap.size 0 [.string p.name, .int .i64 p.ep, .string p.up, .string p.rv, dv, av, gv, bv', rv, pv, sv, lv, .slice pa pn pc]) := rangeAt_below HPB.out Hb1.out hwl
  have p0 : w1.cell? ⟨w.heap.size, 0, none⟩ = some _ := HPB1.out 0 _ rfl
  have p1 : w1.cell? ⟨w.heap.size, 1, none⟩ = some _ := HPB1.out 1 _ rfl
  have p2 : w1.cell? ⟨w.heap.size, 2, none⟩ = some _ := HPB1.out 2 _ rfl
  have p3 : w1.cell? ⟨w.heap.size, 3, none⟩ = some _ := HPB1.out 3 _ rfl
  have p4 : w1.cell? ⟨w.heap.size, 4, none⟩ = some _ := HPB1.out 4 _ rfl
  have p5 : w1.cell? ⟨w.heap.size, 5, none⟩ = some _ := HPB1.out 5 _ rfl
  have p6 : w1.cell? ⟨w.heap.size, 6, none⟩ = some _ := HPB1.out 6 _ rfl
  have p7 : w1.cell? ⟨w.heap.size, 7, none⟩ = some _ := HPB1.out 7 _ rfl
  have p8 : w1.cell? ⟨w.heap.size, 8, none⟩ = some _ := HPB1.out 8 _ rfl
  have p9 : w1.cell? ⟨w.heap.size, 9, none⟩ = some _ := HPB1.out 9 _ rfl
  have p10 : w1.cell? ⟨w.heap.size, 10, none⟩ = some _ := HPB1.out 10 _ rfl
  have p11 : w1.cell? ⟨w.heap.size, 11, none⟩ = some _ := HPB1.out 11 _ rfl
  have p12 : w1.cell? ⟨w.heap.size, 12, none⟩ = some _ := HPB1.out 12 _ rfl
  have CS := Lib.hid (says_calls p dv av gv bv' rv pv sv lv pa pn pc w1 (HP.out.below Hb1.out (Nat.le_refl _)))
  go_wp2_with fail
  refine CS.out.mono ?_
  rintro e2 w2 ⟨rfl, hb2⟩
  have hB2 := Hb1.out.trans (hb2.mono h01)
  have HPB2 : Hid (w2.rangeAt w.heap.size 0 [.string p.name, .int .i64 p.ep, .string p.up, .string p.rv, dv, av, gv, bv', rv, pv, sv, lv, .slice pa pn pc]) := rangeAt_below HPB.out hB2 hwl
  clear p0 p1 p2 p3 p4 p5 p6 p7 p8 p9 p10 p11 p12 CS
  cases hsay : saysB p
  case' false =>
    clear hsay
    go_wp2_with fail
    go_ret
    exact ⟨rfl, HB0.out.trans (hB2.mono HB0.out.size)⟩
  have HS := Lib.hid (smallP_of_says hsay)
  clear hsay
  by_cases h30 : 30 < n
  case' pos =>
    have e30 : decide (30 < (n : Int)) = true := decide_eq_true (by omega)
    go_wp2_with fail
    go_ret
    exact ⟨rfl, HB0.out.trans (hB2.mono HB0.out.size)⟩
  have e30 : decide (30 < (n : Int)) = false := decide_eq_false (by omega)
  have HK2 := Lib.hid (HK1.out.below hb2 (Nat.le_refl _))
  have HB2 := Lib.hid hB2
  have h02 := hB2.size
  clear hb2 hB2 HK1 Hb1
  obtain ⟨w1, rfl⟩ : ∃ w1 : World, w1 = w2 := ⟨_, rfl⟩
  have HH : Hid (∀ w', Below w1.heap.size w1 w' → w'.cell? ⟨w.heap.size, 0, none⟩ = some (.string p.name) ∧ w'.cell? ⟨w.heap.size, 1, none⟩ = some (.int .i64 p.ep) ∧ w'.cell? ⟨w.heap.size, 2, none⟩ = some (.string p.up) ∧ w'.cell? ⟨w.heap.size, 3, none⟩ = some (.string p.rv) ∧ w'.cell? ⟨w.heap.size, 4, none⟩ = some (dv) ∧ w'.cell? ⟨w.heap.size, 5, none⟩ = some (av) ∧ w'.cell? ⟨w.heap.size, 6, none⟩ = some (gv) ∧ w'.cell? ⟨w.heap.size, 7, none⟩ = some (bv') ∧ w'.cell? ⟨w.heap.size, 8, none⟩ = some (rv) ∧ w'.cell? ⟨w.heap.size, 9, none⟩ = some (pv) ∧ w'.cell? ⟨w.heap.size, 10, none⟩ = some (sv) ∧ w'.cell? ⟨w.heap.size, 11, none⟩ = some (lv) ∧ w'.cell? ⟨w.heap.size, 12, none⟩ = some (.slice pa pn pc)) := by
    intro w' hb
    have hp := rangeAt_below HPB2.out hb (Nat.lt_of_lt_of_le hwl h02)
    exact ⟨hp 0 _ rfl, hp 1 _ rfl, hp 2 _ rfl, hp 3 _ rfl, hp 4 _ rfl, hp 5 _ rfl, hp 6 _ rfl, hp 7 _ rfl, hp 8 _ rfl, hp 9 _ rfl, hp 10 _ rfl, hp 11 _ rfl, hp 12 _ rfl⟩
  have hBr : Below w1.heap.size w1 w1 := Below.refl _ _
  have hup : ∀ w', Below w1.heap.size w1 w' → Below w0.heap.size w0 w' := fun w' hb => HB2.out.trans (hb.mono HB2.out.size)
  have Hup := Lib.hid hup
  have Hws : Hid (ws.length ≤ 30) := by show ws.length ≤ 30; rw [Hn.out]; omega
  have HS0 : Hid ((fun w' => Below w1.heap.size w1 w' ∧ w'.cell? ⟨w.heap.size, 0, none⟩ = some (.string p.name) ∧ w'.cell? ⟨w.heap.size, 1, none⟩ = some (.int .i64 p.ep) ∧ w'.cell? ⟨w.heap.size, 2, none⟩ = some (.string p.up) ∧ w'.cell? ⟨w.heap.size, 3, none⟩ = some (.string p.rv) ∧ w'.cell? ⟨w.heap.size, 4, none⟩ = some (dv) ∧ w'.cell? ⟨w.heap.size, 5, none⟩ = some (av) ∧ w'.cell? ⟨w.heap.size, 6, none⟩ = some (gv) ∧ w'.cell? ⟨w.heap.size, 7, none⟩ = some (bv') ∧ w'.cell? ⟨w.heap.size, 8, none⟩ = some (rv) ∧ w'.cell? ⟨w.heap.size, 9, none⟩ = some (pv) ∧ w'.cell? ⟨w.heap.size, 10, none⟩ = some (sv) ∧ w'.cell? ⟨w.heap.size, 11, none⟩ = some (lv) ∧ w'.cell? ⟨w.heap.size, 12, none⟩ = some (.slice pa pn pc)) w1.drew) := ⟨hBr.drew, HH.out _ hBr.drew⟩
  clear hup hBr
  go_upto_region 4 with fail
  refine wp_region_held_drew (S := (fun w' => Below w1.heap.size w1 w' ∧ w'.cell? ⟨w.heap.size, 0, none⟩ = some (.string p.name) ∧ w'.cell? ⟨w.heap.size, 1, none⟩ = some (.int .i64 p.ep) ∧ w'.cell? ⟨w.heap.size, 2, none⟩ = some (.string p.up) ∧ w'.cell? ⟨w.heap.size, 3, none⟩ = some (.string p.rv) ∧ w'.cell? ⟨w.heap.size, 4, none⟩ = some (dv) ∧ w'.cell? ⟨w.heap.size, 5, none⟩ = some (av) ∧ w'.cell? ⟨w.heap.size, 6, none⟩ = some (gv) ∧ w'.cell? ⟨w.heap.size, 7, none⟩ = some (bv') ∧ w'.cell? ⟨w.heap.size, 8, none⟩ = some (rv) ∧ w'.cell? ⟨w.heap.size, 9, none⟩ = some (pv) ∧ w'.cell? ⟨w.heap.size, 10, none⟩ = some (sv) ∧ w'.cell? ⟨w.heap.size, 11, none⟩ = some (lv) ∧ w'.cell? ⟨w.heap.size, 12, none⟩ = some (.slice pa pn pc))) (by kernel_rfl) ?_ (fun hHeld => ?_)
  · exact HS0.out
  refine wpAnyH_take (i := 0) (oi := _) (v := kx) rfl (by kernel_rfl) (by kernel_rfl) (by kernel_rfl) (fun _ _ _ h => h) (Or.inl ⟨by kernel_rfl, fun w hSw => ?_⟩) hHeld ?_
  · (try dsimp only at hSw); go_simp
  try simp only [Act.put, List.getElem_toArray, List.getElem_cons_succ, List.getElem_cons_zero, List.setIfInBounds_toArray, List.set_cons_zero, List.set_cons_succ]
  refine wpAnyH_take (i := 1) (oi := _) (v := .agg #[.string p.name, .int .i64 p.ep, .string p.up, .string p.rv, dv, av, gv, bv', rv, pv, sv, lv, .slice pa pn pc]) rfl (by kernel_rfl) (by kernel_rfl) (by kernel_rfl) (fun _ _ _ h => h) (Or.inl ⟨by kernel_rfl, fun w hSw => ?_⟩) hHeld ?_
  · (try dsimp only at hSw); go_simp
  try simp only [Act.put, List.getElem_toArray, List.getElem_cons_succ, List.getElem_cons_zero, List.setIfInBounds_toArray, List.set_cons_zero, List.set_cons_succ]
  refine wpAnyH_take (i := 3) (oi := _) (v := kv) rfl (by kernel_rfl) (by kernel_rfl) (by kernel_rfl) (fun _ _ _ h => h) (Or.inl ⟨by kernel_rfl, fun w hSw => ?_⟩) hHeld ?_
  · (try dsimp only at hSw); go_simp
  try simp only [Act.put, List.getElem_toArray, List.getElem_cons_succ, List.getElem_cons_zero, List.setIfInBounds_toArray, List.set_cons_zero, List.set_cons_succ]
  refine wpAnyH_take (i := 4) (oi := _) (v := .agg #[.string p.name, .int .i64 p.ep, .string p.up, .string p.rv, dv, av, gv, bv', rv, pv, sv, lv, .slice pa pn pc]) rfl (by kernel_rfl) (by kernel_rfl) (by kernel_rfl) (fun _ _ _ h => h) (Or.inl ⟨by kernel_rfl, fun w hSw => ?_⟩) hHeld ?_
  · (try dsimp only at hSw); go_simp
  try simp only [Act.put, List.getElem_toArray, List.getElem_cons_succ, List.getElem_cons_zero, List.setIfInBounds_toArray, List.set_cons_zero, List.set_cons_succ]
  refine wpAnyH_ready (rs := [2]) (by kernel_rfl) (by simp) ?_
  refine AllReadyH.cons (o := _) rfl (fun K hK => ?_) AllReadyH.nil
  go_simp
  go_at_call 8
  refine (unpack_calls kx (ks.map KnownD.strip) p dv av gv bv' rv pv sv lv pa pn pc _ (HK2.out.below hHeld.1 (Nat.le_refl _)) (HP.out.below (Hup.out _ hHeld.1) (Nat.le_refl _)) HF1.out HS.out).mono ?_
  rintro e3 w3 ⟨ev, rfl, hev, hb3⟩
  have HEV := Lib.hid hev
  clear hev
  refine hK.out _ _ (held_next HH.out hHeld.1 hb3) (fun hHeld2 => ?_)
  clear hK K hHeld
  have hHeld := hHeld2
  clear hHeld2
  try simp only [Act.put, List.getElem_toArray, List.getElem_cons_succ, List.getElem_cons_zero, List.setIfInBounds_toArray, List.set_cons_zero, List.set_cons_succ]
  refine wpAnyH_ready (rs := [5]) (by kernel_rfl) (by simp) ?_
  refine AllReadyH.cons (o := _) rfl (fun K hK => ?_) AllReadyH.nil
  go_simp
  go_at_call 9
  refine (checkUnpackRef_calls kv ks p dv av gv bv' rv pv sv lv pa pn pc _ (HK.out.below (Hup.out _ hHeld.1) (Nat.le_refl _)) (HP.out.below (Hup.out _ hHeld.1) (Nat.le_refl _)) HF2.out HS.out (HN.out.below (Hup.out _ hHeld.1) (Nat.le_refl _))).mono ?_
  rintro e4 w4 ⟨rfl, hb4⟩
  have HEV4 := Lib.hid (HEV.out.below hb4)
  rw [judgeU_strip] at HEV4
  refine hK.out _ _ (held_next HH.out hHeld.1 hb4) (fun hHeld2 => ?_)
  clear hK K hHeld
  have hHeld := hHeld2
  clear hHeld2
  try simp only [Act.put, List.getElem_toArray, List.getElem_cons_succ, List.getElem_cons_zero, List.setIfInBounds_toArray, List.set_cons_zero, List.set_cons_succ]
  refine wpAnyH_ready (rs := [6]) (by kernel_rfl) (by simp) ?_
  refine AllReadyH.cons (o := _) rfl (fun K hK => ?_) AllReadyH.nil
  go_simp
  go_at_call 7
  refine (is_calls _ _ _ _ _ _ (HE.out.below (Hup.out _ hHeld.1)) HEV4.out).mono ?_
  rintro e5 w5 ⟨rfl, hb5⟩
  rw [show ((judgeU ks p).1 == (judgeU ks p).1 && (judgeU ks p).2 == (judgeU ks p).2) = true by simp]
  refine hK.out _ _ (held_next HH.out hHeld.1 hb5) (fun hHeld2 => ?_)
  clear hK K hHeld
  have hHeld := hHeld2
  clear hHeld2
  try simp only [Act.put, List.getElem_toArray, List.getElem_cons_succ, List.getElem_cons_zero, List.setIfInBounds_toArray, List.set_cons_zero, List.set_cons_succ]
  refine wpAnyH_take (i := 7) (oi := _) (v := .bool true) rfl (by kernel_rfl) (by kernel_rfl) (by kernel_rfl) (fun _ _ _ h => h) (Or.inl ⟨by kernel_rfl, fun w hSw => ?_⟩) hHeld ?_
  · (try dsimp only at hSw); go_simp
  try simp only [Act.put, List.getElem_toArray, List.getElem_cons_succ, List.getElem_cons_zero, List.setIfInBounds_toArray, List.set_cons_zero, List.set_cons_succ]
  refine wpAnyH_take (i := 8) (oi := _) (v := kx) rfl (by kernel_rfl) (by kernel_rfl) (by kernel_rfl) (fun _ _ _ h => h) (Or.inl ⟨by kernel_rfl, fun w hSw => ?_⟩) hHeld ?_
  · (try dsimp only at hSw); go_simp
  try simp only [Act.put, List.getElem_toArray, List.getElem_cons_succ, List.getElem_cons_zero, List.setIfInBounds_toArray, List.set_cons_zero, List.set_cons_succ]
  refine wpAnyH_take (i := 9) (oi := _) (v := .int .i64 which) rfl (by kernel_rfl) (by kernel_rfl) (by kernel_rfl) (fun _ _ _ h => h) (Or.inl ⟨by kernel_rfl, fun w hSw => ?_⟩) hHeld ?_
  · (try dsimp only at hSw); go_simp
  try simp only [Act.put, List.getElem_toArray, List.getElem_cons_succ, List.getElem_cons_zero, List.setIfInBounds_toArray, List.set_cons_zero, List.set_cons_succ]
  refine wpAnyH_take (i := 10) (oi := _) (v := .slice ai n capi) rfl (by kernel_rfl) (by kernel_rfl) (by kernel_rfl) (fun _ _ _ h => h) (Or.inl ⟨by kernel_rfl, fun w hSw => ?_⟩) hHeld ?_
  · (try dsimp only at hSw); go_simp
  try simp only [Act.put, List.getElem_toArray, List.getElem_cons_succ, List.getElem_cons_zero, List.setIfInBounds_toArray, List.set_cons_zero, List.set_cons_succ]
  refine wpAnyH_take (i := 12) (oi := _) (v := kv) rfl (by kernel_rfl) (by kernel_rfl) (by kernel_rfl) (fun _ _ _ h => h) (Or.inl ⟨by kernel_rfl, fun w hSw => ?_⟩) hHeld ?_
  · (try dsimp only at hSw); go_simp
  try simp only [Act.put, List.getElem_toArray, List.getElem_cons_succ, List.getElem_cons_zero, List.setIfInBounds_toArray, List.set_cons_zero, List.set_cons_succ]
  refine wpAnyH_take (i := 13) (oi := _) (v := .int .i64 which) rfl (by kernel_rfl) (by kernel_rfl) (by kernel_rfl) (fun _ _ _ h => h) (Or.inl ⟨by kernel_rfl, fun w hSw => ?_⟩) hHeld ?_
  · (try dsimp only at hSw); go_simp
  try simp only [Act.put, List.getElem_toArray, List.getElem_cons_succ, List.getElem_cons_zero, List.setIfInBounds_toArray, List.set_cons_zero, List.set_cons_succ]
  refine wpAnyH_take (i := 14) (oi := _) (v := .slice ai n capi) rfl (by kernel_rfl) (by kernel_rfl) (by kernel_rfl) (fun _ _ _ h => h) (Or.inl ⟨by kernel_rfl, fun w hSw => ?_⟩) hHeld ?_
  · (try dsimp only at hSw); go_simp
  try simp only [Act.put, List.getElem_toArray, List.getElem_cons_succ, List.getElem_cons_zero, List.setIfInBounds_toArray, List.set_cons_zero, List.set_cons_succ]
  refine wpAnyH_ready (rs := [11]) (by kernel_rfl) (by simp) ?_
  refine AllReadyH.cons (o := _) rfl (fun K hK => ?_) AllReadyH.nil
  go_simp
  go_at_call 10
  refine (configure_calls kx (.slice ai n capi) (ks.map KnownD.strip) which ws _ (HK2.out.below hHeld.1 (Nat.le_refl _)) (HI.out.below (Hup.out _ hHeld.1) (Nat.le_refl _)) HF1.out (HA.out.below (Hup.out _ hHeld.1)) Hws.out).mono ?_
  rintro e6 w6 ⟨ev6, rfl, hev6, hb6⟩
  have HEV6 := Lib.hid hev6
  clear hev6
  refine hK.out _ _ (held_next HH.out hHeld.1 hb6) (fun hHeld2 => ?_)
  clear hK K hHeld
  have hHeld := hHeld2
  clear hHeld2
  try simp only [Act.put, List.getElem_toArray, List.getElem_cons_succ, List.getElem_cons_zero, List.setIfInBounds_toArray, List.set_cons_zero, List.set_cons_succ]
  refine wpAnyH_ready (rs := [15]) (by kernel_rfl) (by simp) ?_
  refine AllReadyH.cons (o := _) rfl (fun K hK => ?_) AllReadyH.nil
  go_simp
  go_at_call 11
  refine (checkConfigureRef_calls kv (.slice ai n capi) ks which ws _ (HK.out.below (Hup.out _ hHeld.1) (Nat.le_refl _)) (HI.out.below (Hup.out _ hHeld.1) (Nat.le_refl _)) HF2.out (HN.out.below (Hup.out _ hHeld.1) (Nat.le_refl _)) (HR.out.below (Hup.out _ hHeld.1))).mono ?_
  rintro e7 w7 ⟨rfl, hb7⟩
  have HEV7 := Lib.hid (HEV6.out.below hb7)
  rw [judgeC_strip] at HEV7
  refine hK.out _ _ (held_next HH.out hHeld.1 hb7) (fun hHeld2 => ?_)
  clear hK K hHeld
  have hHeld := hHeld2
  clear hHeld2
  try simp only [Act.put, List.getElem_toArray, List.getElem_cons_succ, List.getElem_cons_zero, List.setIfInBounds_toArray, List.set_cons_zero, List.set_cons_succ]
  refine wpAnyH_ready (rs := [16]) (by kernel_rfl) (by simp) ?_
  refine AllReadyH.cons (o := _) rfl (fun K hK => ?_) AllReadyH.nil
  go_simp
  go_at_call 7
  refine (is_calls _ _ _ _ _ _ (HE.out.below (Hup.out _ hHeld.1)) HEV7.out).mono ?_
  rintro e8 w8 ⟨rfl, hb8⟩
  rw [show ((judgeC ks which ws).1 == (judgeC ks which ws).1 && (judgeC ks which ws).2 == (judgeC ks which ws).2) = true by simp]
  refine hK.out _ _ (held_next HH.out hHeld.1 hb8) (fun hHeld2 => ?_)
  clear hK K hHeld
  have hHeld := hHeld2
  clear hHeld2
  try simp only [Act.put, List.getElem_toArray, List.getElem_cons_succ, List.getElem_cons_zero, List.setIfInBounds_toArray, List.set_cons_zero, List.set_cons_succ]
  refine wpAnyH_take (i := 17) (oi := _) (v := .bool true) rfl (by kernel_rfl) (by kernel_rfl) (by kernel_rfl) (fun _ _ _ h => h) (Or.inl ⟨by kernel_rfl, fun w hSw => ?_⟩) hHeld ?_
  · (try dsimp only at hSw); go_simp
  try simp only [Act.put, List.getElem_toArray, List.getElem_cons_succ, List.getElem_cons_zero, List.setIfInBounds_toArray, List.set_cons_zero, List.set_cons_succ]
  refine wpAnyH_take (i := 18) (oi := _) (v := .bool true) rfl (by kernel_rfl) (by kernel_rfl) (by kernel_rfl) (fun _ _ _ h => h) (Or.inl ⟨by kernel_rfl, fun w hSw => ?_⟩) hHeld ?_
  · (try dsimp only at hSw); go_simp
  try simp only [Act.put, List.getElem_toArray, List.getElem_cons_succ, List.getElem_cons_zero, List.setIfInBounds_toArray, List.set_cons_zero, List.set_cons_succ]
  refine wpAnyH_done (by kernel_rfl) ?_ _
  have HF := Lib.hid (HB0.out.trans ((Hup.out _ hHeld.1).mono HB0.out.size))
  clear hHeld
  go_wp2_with fail
  go_ret
  exact ⟨rfl, HF.out⟩
end Go.Proofs.YtnfnebfioibndaaGreatDoor
