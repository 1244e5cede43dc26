/- Keep's lines: all that a book has, as one text. -/
import Derived.Test.YtodmnogoacghpaaGreatDoorM33
namespace Go.Proofs.YtodmnogoacghpaaGreatDoor
open Go.RowKit
set_option maxRecDepth 100000
set_option maxHeartbeats 4000000

def sayN (m : FS) (n : ByteArray) : ByteArray := n ++ ⟨#[61]⟩ ++ nowOf m n ++ ⟨#[59]⟩
def sayT (m : FS) : List ByteArray → ByteArray → ByteArray
  | [], t => t
  | n :: ns, t => sayT m ns (t ++ sayN m n)
/-- What lines answers. -/
def linesM (m : FS) : ByteArray := sayT m (sortB (m.map (·.1))) ⟨#[]⟩
theorem sayT_snoc (m : FS) (ns : List ByteArray) (n t : ByteArray) : sayT m (ns ++ [n]) t = sayT m ns t ++ sayN m n := by
  induction ns generalizing t with
  | nil => rfl
  | cons a ns ih => exact ih _
theorem sayT_take (m : FS) (ns : List ByteArray) (i : Nat) (h : i < ns.length) : sayT m (ns.take (i + 1)) ⟨#[]⟩ = sayT m (ns.take i) ⟨#[]⟩ ++ sayN m (ns.getD i ⟨#[]⟩) := by
  rw [List.take_succ_eq_append_getElem h, sayT_snoc]
  have e : ns.getD i ⟨#[]⟩ = ns[i] := by simp [List.getD_eq_getElem?_getD, h]
  rw [e]
theorem lines_calls (w : World) (F : List Nat) (a bb : Nat) (s : BkS) (h : BkW w F a bb s) (hok : LinesOk s.m) (hl : s.m.length ≤ 100) :
    Calls Tryz.prog 19 #[.pointer (some ⟨bb, 0, none⟩)] w fun e w' => e = .returned (.string (linesM s.m)) ∧ Below w.heap.size w w' := by
  obtain ⟨d, m, t, dn⟩ := s
  unfold BkW at h
  dsimp only at h hok hl ⊢
  have BN := Lib.hid (bnames_calls w F a bb d m t dn h (by omega))
  have HB := Lib.hid h
  obtain ⟨ns, hns⟩ : ∃ ns, sortB (m.map (·.1)) = ns := ⟨_, rfl⟩
  have HL : Hid (linesM m = sayT m ns ⟨#[]⟩) := by show _ = _; unfold linesM; rw [hns]
  have HS : Hid (∀ x ∈ ns, x.size ≤ 24 ∧ (nowOf m x).size ≤ 300) := fun x hx => by
    rw [← hns] at hx
    have hn' : x ∈ m.map (·.1) := sortB_mem.1 hx
    cases hx2 : fget m x with
    | none => exact absurd hn' (fget_none.1 hx2)
    | some z =>
      have h2 := rightB_size (hok.each x z hx2).1
      refine ⟨h2.2.1, ?_⟩
      unfold nowOf nowG
      rw [hx2]
      exact h2.2.2
  have hlen : ns.length ≤ 100 := by rw [← hns, sortB_len, List.length_map]; exact hl
  rw [hns] at BN
  clear hns h hok
  obtain ⟨n, hn⟩ : ∃ n, ns.length = n := ⟨_, rfl⟩
  have Hn := Lib.hid hn
  rw [hn] at hlen
  clear hn
  go_enter Tryz.func19, Tryz.ntmps19
  go_wp2_with fail
  refine BN.out.mono ?_
  rintro e1 w1 ⟨v1, rfl, hS1, -, hb1⟩
  obtain ⟨av, cv, rfl, hcv, hmv, hcell⟩ := hS1.1
  rw [Hn.out] at hcv hcell ⊢
  unfold maxLen at hmv
  have HC := Lib.hid hcell
  have HB1 := Lib.hid (HB.out.below hb1)
  have Hb1 := Lib.hid hb1
  have hz1 := hb1.size
  clear hS1 hcell hb1 BN
  go_wp2_with fail
  go_loopg [3, 5] n (fun k v3 v5 wr => ∃ (i : Nat) (acc : ByteArray), v3 = .string acc ∧ v5 = .int .i64 ((i : Nat) : Int) ∧ i ≤ n ∧ k = n - i ∧ acc = sayT m (ns.take i) ⟨#[]⟩ ∧ acc.size ≤ 330 * i ∧ Below w1.heap.size w1 wr)
  case atStart => exact ⟨0, ⟨#[]⟩, rfl, rfl, Nat.zero_le _, rfl, rfl, Nat.zero_le _, Below.refl _ _⟩
  case round =>
    obtain ⟨i, acc, rfl, rfl, hi, hk, hacc, hsz, hBr⟩ := hrel
    have Hk := Lib.hid hk
    have Hacc := Lib.hid hacc
    have HBr := Lib.hid hBr
    clear hk hacc
    by_cases hlt : i < n
    · obtain ⟨b1, o1, rfl, hb1, hc1⟩ := HC.out.resolve_left (by omega)
      obtain ⟨x, hx⟩ : ∃ x, ns.getD i ⟨#[]⟩ = x := ⟨_, rfl⟩
      have hi' : i < ns.length := by rw [Hn.out]; exact hlt
      have hxm : x ∈ ns := by
        rw [← hx, List.getD_eq_getElem?_getD, List.getElem?_eq_getElem hi']
        exact List.getElem_mem hi'
      obtain ⟨hx1, hy1⟩ := HS.out x hxm
      obtain ⟨y, hy⟩ : ∃ y, nowOf m x = y := ⟨_, rfl⟩
      have HTK : Hid (sayT m (ns.take (i + 1)) ⟨#[]⟩ = acc ++ (x ++ ⟨#[61]⟩ ++ y ++ ⟨#[59]⟩)) := by
        have h1 := sayT_take m ns i hi'
        rw [hx, ← Hacc.out] at h1
        rw [← hy]
        exact h1
      rw [hy] at hy1
      have HD : Hid (∀ U, Below w1.heap.size w1 U → U.cell? ⟨b1, o1 + i, none⟩ = some (.string x)) := fun U hU => (hU.cell (p := ⟨b1, o1 + i, none⟩) hb1).trans (by
        have h1 : w1.cell? ⟨b1, o1 + i * 1 + 0, none⟩ = some (.string (ns.getD i ⟨#[]⟩)) := hc1 i 0 hlt (by decide)
        rw [hx] at h1
        simpa using h1)
      have GT : Hid (∀ U, Below w1.heap.size w1 U → Calls Tryz.prog 14 #[.pointer (some ⟨bb, 0, none⟩), .string x] U fun e w' => e = .returned (.string y) ∧ U = w') := fun U hU => by
        rw [← hy]
        exact get_calls U F a bb d m t dn x (HB1.out.below hU) (by unfold maxLen; omega)
      have hnew : (acc ++ (x ++ ⟨#[61]⟩ ++ y ++ ⟨#[59]⟩)).size ≤ 330 * (i + 1) := by
        rw [ByteArray.size_append, ByteArray.size_append, ByteArray.size_append, ByteArray.size_append]
        have e1 : (ByteArray.mk #[61]).size = 1 := rfl
        have e2 : (ByteArray.mk #[59]).size = 1 := rfl
        omega
      have Hnew := Lib.hid hnew
      have z1 : (x ++ ⟨#[61]⟩).size ≤ 25 := by
        rw [ByteArray.size_append]
        have e1 : (ByteArray.mk #[61]).size = 1 := rfl
        omega
      have z2 : (x ++ ⟨#[61]⟩ ++ y).size ≤ 325 := by
        rw [ByteArray.size_append]
        omega
      have z3 : (x ++ ⟨#[61]⟩ ++ y ++ ⟨#[59]⟩).size ≤ 326 := by
        rw [ByteArray.size_append]
        have e1 : (ByteArray.mk #[59]).size = 1 := rfl
        omega
      clear hc1 hx hxm hy hBr hnew
      go_wp2_with fail
      refine wp_region_held_drew (S := fun w' => Below w1.heap.size w1 w') (by kernel_rfl) ?_ (fun hHeld => ?_)
      · exact HBr.out.drew
      refine wpAnyH_take (i := 0) (oi := _) (v := .string acc) rfl (by kernel_rfl) (by kernel_rfl) (by kernel_rfl) (fun _ _ _ h => h) (Or.inl ⟨by kernel_rfl, fun w hSw => ?_⟩) hHeld ?_
      · (try dsimp only at hSw); go_simp
      try simp only [Act.put, List.getElem_toArray, List.getElem_cons_zero, List.setIfInBounds_toArray, List.set_cons_zero, List.set_cons_succ]
      refine wpAnyH_take (i := 1) (oi := _) (v := .slice (some ⟨b1, o1, none⟩) n cv) rfl (by kernel_rfl) (by kernel_rfl) (by kernel_rfl) (fun _ _ _ h => h) (Or.inl ⟨by kernel_rfl, fun w hSw => ?_⟩) hHeld ?_
      · (try dsimp only at hSw); go_simp
      try simp only [Act.put, List.getElem_toArray, List.getElem_cons_succ, List.getElem_cons_zero, List.setIfInBounds_toArray, List.set_cons_zero, List.set_cons_succ]
      refine wpAnyH_take (i := 2) (oi := _) (v := .int .i64 ((i : Nat) : Int)) rfl (by kernel_rfl) (by kernel_rfl) (by kernel_rfl) (fun _ _ _ h => h) (Or.inl ⟨by kernel_rfl, fun w hSw => ?_⟩) hHeld ?_
      · (try dsimp only at hSw); go_simp
      try simp only [Act.put, List.getElem_toArray, List.getElem_cons_succ, List.getElem_cons_zero, List.setIfInBounds_toArray, List.set_cons_zero, List.set_cons_succ]
      refine wpAnyH_take (i := 3) (oi := _) (v := .pointer (some ⟨b1, o1 + i, none⟩)) rfl (by kernel_rfl) (by kernel_rfl) (by kernel_rfl) (fun _ _ _ h => h) (Or.inl ⟨by kernel_rfl, fun w hSw => ?_⟩) hHeld ?_
      · (try dsimp only at hSw); go_simp
      try simp only [Act.put, List.getElem_toArray, List.getElem_cons_succ, List.getElem_cons_zero, List.setIfInBounds_toArray, List.set_cons_zero, List.set_cons_succ]
      refine wpAnyH_take (i := 4) (oi := _) (v := .string x) rfl (by kernel_rfl) (by kernel_rfl) (by kernel_rfl) (fun _ _ _ h => h) (Or.inl ⟨by kernel_rfl, fun w hSw => ?_⟩) hHeld ?_
      · (try dsimp only at hSw); have hh := HD.out _ hSw; go_simp
      try simp only [Act.put, List.getElem_toArray, List.getElem_cons_succ, List.getElem_cons_zero, List.setIfInBounds_toArray, List.set_cons_zero, List.set_cons_succ]
      refine wpAnyH_take (i := 5) (oi := _) (v := .string (x ++ ⟨#[61]⟩)) rfl (by kernel_rfl) (by kernel_rfl) (by kernel_rfl) (fun _ _ _ h => h) (Or.inl ⟨by kernel_rfl, fun w hSw => ?_⟩) hHeld ?_
      · (try dsimp only at hSw); go_simp; omega
      try simp only [Act.put, List.getElem_toArray, List.getElem_cons_succ, List.getElem_cons_zero, List.setIfInBounds_toArray, List.set_cons_zero, List.set_cons_succ]
      refine wpAnyH_take (i := 6) (oi := _) (v := .pointer (some ⟨bb, 0, none⟩)) rfl (by kernel_rfl) (by kernel_rfl) (by kernel_rfl) (fun _ _ _ h => h) (Or.inl ⟨by kernel_rfl, fun w hSw => ?_⟩) hHeld ?_
      · (try dsimp only at hSw); go_simp
      try simp only [Act.put, List.getElem_toArray, List.getElem_cons_succ, List.getElem_cons_zero, List.setIfInBounds_toArray, List.set_cons_zero, List.set_cons_succ]
      refine wpAnyH_take (i := 7) (oi := _) (v := .slice (some ⟨b1, o1, none⟩) n cv) rfl (by kernel_rfl) (by kernel_rfl) (by kernel_rfl) (fun _ _ _ h => h) (Or.inl ⟨by kernel_rfl, fun w hSw => ?_⟩) hHeld ?_
      · (try dsimp only at hSw); go_simp
      try simp only [Act.put, List.getElem_toArray, List.getElem_cons_succ, List.getElem_cons_zero, List.setIfInBounds_toArray, List.set_cons_zero, List.set_cons_succ]
      refine wpAnyH_take (i := 8) (oi := _) (v := .int .i64 ((i : Nat) : Int)) rfl (by kernel_rfl) (by kernel_rfl) (by kernel_rfl) (fun _ _ _ h => h) (Or.inl ⟨by kernel_rfl, fun w hSw => ?_⟩) hHeld ?_
      · (try dsimp only at hSw); go_simp
      try simp only [Act.put, List.getElem_toArray, List.getElem_cons_succ, List.getElem_cons_zero, List.setIfInBounds_toArray, List.set_cons_zero, List.set_cons_succ]
      refine wpAnyH_take (i := 9) (oi := _) (v := .pointer (some ⟨b1, o1 + i, none⟩)) rfl (by kernel_rfl) (by kernel_rfl) (by kernel_rfl) (fun _ _ _ h => h) (Or.inl ⟨by kernel_rfl, fun w hSw => ?_⟩) hHeld ?_
      · (try dsimp only at hSw); go_simp
      try simp only [Act.put, List.getElem_toArray, List.getElem_cons_succ, List.getElem_cons_zero, List.setIfInBounds_toArray, List.set_cons_zero, List.set_cons_succ]
      refine wpAnyH_take (i := 10) (oi := _) (v := .string x) rfl (by kernel_rfl) (by kernel_rfl) (by kernel_rfl) (fun _ _ _ h => h) (Or.inl ⟨by kernel_rfl, fun w hSw => ?_⟩) hHeld ?_
      · (try dsimp only at hSw); have hh := HD.out _ hSw; go_simp
      try simp only [Act.put, List.getElem_toArray, List.getElem_cons_succ, List.getElem_cons_zero, List.setIfInBounds_toArray, List.set_cons_zero, List.set_cons_succ]
      refine wpAnyH_ready (rs := [11]) (by kernel_rfl) (by simp) ?_
      refine AllReadyH.cons (o := _) rfl (fun K hK => ?_) AllReadyH.nil
      go_simp
      go_at_call 14
      refine (GT.out _ hHeld).mono ?_
      rintro e2 w2 ⟨rfl, rfl⟩
      refine hK.out _ _ hHeld (fun hHeld2 => ?_)
      clear hK K hHeld
      have hHeld := hHeld2
      clear hHeld2
      try simp only [Act.put, List.getElem_toArray, List.getElem_cons_succ, List.getElem_cons_zero, List.setIfInBounds_toArray, List.set_cons_zero, List.set_cons_succ]
      refine wpAnyH_take (i := 12) (oi := _) (v := .string (x ++ ⟨#[61]⟩ ++ y)) rfl (by kernel_rfl) (by kernel_rfl) (by kernel_rfl) (fun _ _ _ h => h) (Or.inl ⟨by kernel_rfl, fun w hSw => ?_⟩) hHeld ?_
      · (try dsimp only at hSw); go_simp; omega
      try simp only [Act.put, List.getElem_toArray, List.getElem_cons_succ, List.getElem_cons_zero, List.setIfInBounds_toArray, List.set_cons_zero, List.set_cons_succ]
      refine wpAnyH_take (i := 13) (oi := _) (v := .string (x ++ ⟨#[61]⟩ ++ y ++ ⟨#[59]⟩)) rfl (by kernel_rfl) (by kernel_rfl) (by kernel_rfl) (fun _ _ _ h => h) (Or.inl ⟨by kernel_rfl, fun w hSw => ?_⟩) hHeld ?_
      · (try dsimp only at hSw); go_simp; omega
      try simp only [Act.put, List.getElem_toArray, List.getElem_cons_succ, List.getElem_cons_zero, List.setIfInBounds_toArray, List.set_cons_zero, List.set_cons_succ]
      refine wpAnyH_take (i := 14) (oi := _) (v := .string (acc ++ (x ++ ⟨#[61]⟩ ++ y ++ ⟨#[59]⟩))) rfl (by kernel_rfl) (by kernel_rfl) (by kernel_rfl) (fun _ _ _ h => h) (Or.inl ⟨by kernel_rfl, fun w hSw => ?_⟩) hHeld ?_
      · (try dsimp only at hSw); go_simp; omega
      try simp only [Act.put, List.getElem_toArray, List.getElem_cons_succ, List.getElem_cons_zero, List.setIfInBounds_toArray, List.set_cons_zero, List.set_cons_succ]
      refine wpAnyH_take (i := 15) (oi := _) (v := .string (acc ++ (x ++ ⟨#[61]⟩ ++ y ++ ⟨#[59]⟩))) rfl (by kernel_rfl) (by kernel_rfl) (by kernel_rfl) (fun _ _ _ h => h) (Or.inl ⟨by kernel_rfl, fun w hSw => ?_⟩) hHeld ?_
      · (try dsimp only at hSw); go_simp
      try simp only [Act.put, List.getElem_toArray, List.getElem_cons_succ, List.getElem_cons_zero, List.setIfInBounds_toArray, List.set_cons_zero, List.set_cons_succ]
      refine wpAnyH_done (by kernel_rfl) ?_ _
      have HBE := Lib.hid hHeld
      clear hHeld
      go_wp2_with fail
      go_roundg (n - (i + 1))
      case rel => exact ⟨i + 1, _, rfl, by go_num, by omega, rfl, HTK.out.symm, Hnew.out, HBE.out⟩
      case measure => have := Hk.out; omega
    · obtain rfl : i = n := by omega
      have HA : Hid (acc = linesM m) := by
        show _ = _
        have h := Hacc.out
        rw [← Hn.out, List.take_length] at h
        rw [HL.out]
        exact h
      clear Hacc
      go_wp2_with fail
      go_ret
      rw [HA.out]
      exact ⟨rfl, Hb1.out.trans (HBr.out.mono hz1)⟩
end Go.Proofs.YtodmnogoacghpaaGreatDoor
