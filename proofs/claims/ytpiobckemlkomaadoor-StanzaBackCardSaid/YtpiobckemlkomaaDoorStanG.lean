/- StanzaPrints: the law's walk. (Written by gen_stang.py.) -/
import Derived.Test.YtpiobckemlkomaaDoorStanF
namespace Go.Proofs.YtpiobckemlkomaaDoor
open Go.RowKit
set_option maxRecDepth 100000
set_option maxHeartbeats 4000000

/-- Rows of fields of any size. -/
def FldsM (w : World) (v : Value) (l : List FieldD) : Prop := Sl w v l.length 2 (fun i j => fRow (l.getD i default) j) ∧ ∀ f ∈ l, f.1.size ≤ maxLen ∧ f.2.size ≤ maxLen
theorem FldsM.below {w w' : World} {v : Value} {l : List FieldD} (h : FldsM w v l) {B : Nat} (hb : Below B w w') (hB : w.heap.size ≤ B) : FldsM w' v l := ⟨h.1.below hb hB, h.2⟩
def shortF (f : FieldD) : Bool := decide (f.1.size ≤ 100) && decide (f.2.size ≤ 400)
def fieldsB (l : List FieldD) : Bool := decide (l.length ≤ 60) && l.all shortF
theorem fieldsB_yes {w : World} {v : Value} {l : List FieldD} (h : FldsM w v l) (hf : fieldsB l = true) : Flds w v l ∧ l.length ≤ 60 ∧ ∀ f ∈ l, f.1.size ≤ 100 ∧ f.2.size ≤ 400 := by
  unfold fieldsB at hf
  rw [Bool.and_eq_true, decide_eq_true_iff, List.all_eq_true] at hf
  have h2 : ∀ f ∈ l, f.1.size ≤ 100 ∧ f.2.size ≤ 400 := fun f hm => by
    have := hf.2 f hm
    unfold shortF at this
    rw [Bool.and_eq_true, decide_eq_true_iff, decide_eq_true_iff] at this
    exact this
  exact ⟨⟨h.1, fun f hm => ⟨by have := (h2 f hm).1; omega, by have := (h2 f hm).2; omega⟩⟩, hf.1, h2⟩
theorem lens_at {l : List FieldD} (h : ∀ f ∈ l, f.1.size ≤ maxLen ∧ f.2.size ≤ maxLen) (i : Nat) : (l.getD i default).1.size ≤ maxLen ∧ (l.getD i default).2.size ≤ maxLen := by
  rcases Nat.lt_or_ge i l.length with h' | h'
  · exact h _ (mem_getD _ h')
  · rw [List.getD_eq_getElem?_getD, List.getElem?_eq_none h']
    exact ⟨Nat.zero_le _, Nat.zero_le _⟩

theorem lfields_calls (v : Value) (l : List FieldD) (w : World) (hT : FldsM w v l) :
    Calls Tryd.prog 10 #[v] w fun e w' => e = .returned (.bool (fieldsB l)) ∧ w = w' := by
  obtain ⟨⟨a, cap, rfl, hcap, hmax, hcell⟩, hsz⟩ := hT
  unfold maxLen at hmax
  obtain ⟨m, hm⟩ : ∃ m, l.length = m := ⟨_, rfl⟩
  have Hcell := Lib.hid hcell
  have Hsz := Lib.hid hsz
  clear hcell hsz
  rw [hm] at hcap Hcell ⊢
  have Hm := Lib.hid hm
  clear hm
  by_cases h0 : 60 < m
  case' pos =>
    have HF : Hid (fieldsB l = false) := by
      show _ = _
      unfold fieldsB
      rw [decide_eq_false (by rw [Hm.out]; omega)]
      rfl
    have q1 : decide ((60 : Int) < m) = true := decide_eq_true (by omega)
    have q2 : decide ((m : Int) > 60) = true := decide_eq_true (by omega)
    go_enter Tryd.func10, Tryd.ntmps10
    go_wp2_with fail
    go_ret
    rw [HF.out]
    exact ⟨rfl, rfl⟩
  have q1 : decide ((60 : Int) < m) = false := decide_eq_false (by omega)
  have q2 : decide ((m : Int) > 60) = false := decide_eq_false (by omega)
  go_enter Tryd.func10, Tryd.ntmps10
  go_wp2_with fail
  go_loopg [3] m (fun k vk wr => ∃ i : Nat, vk = .int .i64 i ∧ i ≤ m ∧ k = m - i ∧ (l.take i).all shortF = true ∧ wr = w)
  case atStart => exact ⟨0, rfl, Nat.zero_le _, rfl, rfl, rfl⟩
  case round =>
    obtain ⟨i, rfl, hi, hk, hall, hw⟩ := hrel
    obtain rfl : w = wr := hw.symm
    have Hk := Lib.hid hk
    have Hall := Lib.hid hall
    clear hk hall
    by_cases hlt : i < m
    · obtain ⟨b, o, rfl, hb, hc⟩ := Hcell.out.resolve_left (by omega)
      obtain ⟨t, ht⟩ : ∃ t, l.getD i default = t := ⟨_, rfl⟩
      have hs := lens_at Hsz.out i
      have c0 : w.cell? ⟨b, o + i * 2, none⟩ = some (.string t.1) := by have := hc i 0 hlt (by decide); rw [ht] at this; exact this
      have c1 : w.cell? ⟨b, o + i * 2 + 1, none⟩ = some (.string t.2) := by have := hc i 1 hlt (by decide); rw [ht] at this; exact this
      rw [ht] at hs
      obtain ⟨x, y⟩ := t
      dsimp only at c0 c1 hs
      unfold maxLen at hs
      obtain ⟨hs1, hs2⟩ := hs
      have HAT : Hid (l[i]'(by rw [Hm.out]; exact hlt) = (x, y)) := by
        show _ = _
        rw [← ht]
        simp [List.getD, List.getElem?_eq_getElem (show i < l.length by rw [Hm.out]; exact hlt)]
      have NO : Hid (shortF (x, y) = false → fieldsB l = false) := fun h => by
        unfold fieldsB
        have : l.all shortF = false := by
          rw [List.all_eq_false]
          exact ⟨(x, y), by rw [← HAT.out]; exact List.getElem_mem _, by simp [h]⟩
        rw [this, Bool.and_false]
      clear hc ht
      by_cases h1 : 100 < x.size
      · have HF := Lib.hid (NO.out (by unfold shortF; rw [decide_eq_false (show ¬ x.size ≤ 100 by omega)]; rfl))
        have p1 : decide ((100 : Int) < x.size) = true := decide_eq_true (by omega)
        go_wp2_with fail
        go_ret
        rw [HF.out]
        exact ⟨rfl, rfl⟩
      · have p1 : decide ((100 : Int) < x.size) = false := decide_eq_false (by omega)
        by_cases h2 : 400 < y.size
        · have HF := Lib.hid (NO.out (by unfold shortF; rw [decide_eq_false (show ¬ y.size ≤ 400 by omega)]; simp))
          have p2 : decide ((400 : Int) < y.size) = true := decide_eq_true (by omega)
          go_wp2_with fail
          go_ret
          rw [HF.out]
          exact ⟨rfl, rfl⟩
        · have p2 : decide ((400 : Int) < y.size) = false := decide_eq_false (by omega)
          have HA : Hid ((l.take (i + 1)).all shortF = true) := by
            show _ = _
            rw [List.take_succ_eq_append_getElem (show i < l.length by rw [Hm.out]; exact hlt), List.all_append, Hall.out, HAT.out]
            simp only [List.all_cons, List.all_nil, Bool.and_true, Bool.true_and]
            unfold shortF
            rw [decide_eq_true (show x.size ≤ 100 by omega), decide_eq_true (show y.size ≤ 400 by omega)]
            rfl
          go_wp2_with fail
          go_roundg (m - (i + 1))
          case rel => exact ⟨i + 1, by go_num, by omega, rfl, HA.out, rfl⟩
          case measure => have := Hk.out; omega
    · obtain rfl : i = m := by omega
      have HF : Hid (fieldsB l = true) := by
        show _ = _
        unfold fieldsB
        have := Hall.out
        rw [← Hm.out, List.take_length] at this
        rw [this, decide_eq_true (show l.length ≤ 60 by rw [Hm.out]; omega)]
        rfl
      go_wp2_with fail
      go_ret
      rw [HF.out]
      exact ⟨rfl, rfl⟩

theorem kfields_calls (v : Value) (l : List FieldD) (w : World) (hT : FldsM w v l) :
    Calls Tryd.prog 20 #[v] w fun e w' => e = .returned (.bool (fieldsB l)) ∧ w = w' := by
  obtain ⟨⟨a, cap, rfl, hcap, hmax, hcell⟩, hsz⟩ := hT
  unfold maxLen at hmax
  obtain ⟨m, hm⟩ : ∃ m, l.length = m := ⟨_, rfl⟩
  have Hcell := Lib.hid hcell
  have Hsz := Lib.hid hsz
  clear hcell hsz
  rw [hm] at hcap Hcell ⊢
  have Hm := Lib.hid hm
  clear hm
  by_cases h0 : 60 < m
  case' pos =>
    have HF : Hid (fieldsB l = false) := by
      show _ = _
      unfold fieldsB
      rw [decide_eq_false (by rw [Hm.out]; omega)]
      rfl
    have q1 : decide ((60 : Int) < m) = true := decide_eq_true (by omega)
    have q2 : decide ((m : Int) > 60) = true := decide_eq_true (by omega)
    go_enter Tryd.func20, Tryd.ntmps20
    go_wp2_with fail
    go_ret
    rw [HF.out]
    exact ⟨rfl, rfl⟩
  have q1 : decide ((60 : Int) < m) = false := decide_eq_false (by omega)
  have q2 : decide ((m : Int) > 60) = false := decide_eq_false (by omega)
  go_enter Tryd.func20, Tryd.ntmps20
  go_wp2_with fail
  go_loopg [3] m (fun k vk wr => ∃ i : Nat, vk = .int .i64 i ∧ i ≤ m ∧ k = m - i ∧ (l.take i).all shortF = true ∧ wr = w)
  case atStart => exact ⟨0, rfl, Nat.zero_le _, rfl, rfl, rfl⟩
  case round =>
    obtain ⟨i, rfl, hi, hk, hall, hw⟩ := hrel
    obtain rfl : w = wr := hw.symm
    have Hk := Lib.hid hk
    have Hall := Lib.hid hall
    clear hk hall
    by_cases hlt : i < m
    · obtain ⟨b, o, rfl, hb, hc⟩ := Hcell.out.resolve_left (by omega)
      obtain ⟨t, ht⟩ : ∃ t, l.getD i default = t := ⟨_, rfl⟩
      have hs := lens_at Hsz.out i
      have c0 : w.cell? ⟨b, o + i * 2, none⟩ = some (.string t.1) := by have := hc i 0 hlt (by decide); rw [ht] at this; exact this
      have c1 : w.cell? ⟨b, o + i * 2 + 1, none⟩ = some (.string t.2) := by have := hc i 1 hlt (by decide); rw [ht] at this; exact this
      rw [ht] at hs
      obtain ⟨x, y⟩ := t
      dsimp only at c0 c1 hs
      unfold maxLen at hs
      obtain ⟨hs1, hs2⟩ := hs
      have HAT : Hid (l[i]'(by rw [Hm.out]; exact hlt) = (x, y)) := by
        show _ = _
        rw [← ht]
        simp [List.getD, List.getElem?_eq_getElem (show i < l.length by rw [Hm.out]; exact hlt)]
      have NO : Hid (shortF (x, y) = false → fieldsB l = false) := fun h => by
        unfold fieldsB
        have : l.all shortF = false := by
          rw [List.all_eq_false]
          exact ⟨(x, y), by rw [← HAT.out]; exact List.getElem_mem _, by simp [h]⟩
        rw [this, Bool.and_false]
      clear hc ht
      by_cases h1 : 100 < x.size
      · have HF := Lib.hid (NO.out (by unfold shortF; rw [decide_eq_false (show ¬ x.size ≤ 100 by omega)]; rfl))
        have p1 : decide ((100 : Int) < x.size) = true := decide_eq_true (by omega)
        go_wp2_with fail
        go_ret
        rw [HF.out]
        exact ⟨rfl, rfl⟩
      · have p1 : decide ((100 : Int) < x.size) = false := decide_eq_false (by omega)
        by_cases h2 : 400 < y.size
        · have HF := Lib.hid (NO.out (by unfold shortF; rw [decide_eq_false (show ¬ y.size ≤ 400 by omega)]; simp))
          have p2 : decide ((400 : Int) < y.size) = true := decide_eq_true (by omega)
          go_wp2_with fail
          go_ret
          rw [HF.out]
          exact ⟨rfl, rfl⟩
        · have p2 : decide ((400 : Int) < y.size) = false := decide_eq_false (by omega)
          have HA : Hid ((l.take (i + 1)).all shortF = true) := by
            show _ = _
            rw [List.take_succ_eq_append_getElem (show i < l.length by rw [Hm.out]; exact hlt), List.all_append, Hall.out, HAT.out]
            simp only [List.all_cons, List.all_nil, Bool.and_true, Bool.true_and]
            unfold shortF
            rw [decide_eq_true (show x.size ≤ 100 by omega), decide_eq_true (show y.size ≤ 400 by omega)]
            rfl
          go_wp2_with fail
          go_roundg (m - (i + 1))
          case rel => exact ⟨i + 1, by go_num, by omega, rfl, HA.out, rfl⟩
          case measure => have := Hk.out; omega
    · obtain rfl : i = m := by omega
      have HF : Hid (fieldsB l = true) := by
        show _ = _
        unfold fieldsB
        have := Hall.out
        rw [← Hm.out, List.take_length] at this
        rw [this, decide_eq_true (show l.length ≤ 60 by rw [Hm.out]; omega)]
        rfl
      go_wp2_with fail
      go_ret
      rw [HF.out]
      exact ⟨rfl, rfl⟩

theorem stanzaPrints_calls (v : Value) (l : List FieldD) (n : ByteArray) (w : World) (hT : FldsM w v l) (hn : n.size ≤ maxLen) (hm : MaxV w) (hv : ErrVar w) :
    Calls Tryd.prog 4 #[v, .string n] w fun e w' => e = .returned (.bool true) ∧ Below w.heap.size w w' := by
  unfold maxLen at hn
  have FC := Lib.hid (lfields_calls v l w hT)
  cases hf : fieldsB l
  case' false =>
    rw [hf] at FC
    clear hf
    go_enter Tryd.func4, Tryd.ntmps4
    go_wp2_with fail
    refine FC.out.mono ?_
    rintro e0 w0 ⟨rfl, rfl⟩
    clear FC
    go_wp2_with fail
    go_ret
    exact ⟨rfl, Below.refl _ _⟩
  rw [hf] at FC
  obtain ⟨hF, hl, _⟩ := fieldsB_yes hT hf
  by_cases hn1 : 100 < n.size
  case' pos =>
    have q1 : decide ((100 : Int) < n.size) = true := decide_eq_true (by omega)
    clear hf
    go_enter Tryd.func4, Tryd.ntmps4
    go_wp2_with fail
    refine FC.out.mono ?_
    rintro e0 w0 ⟨rfl, rfl⟩
    clear FC
    go_wp2_with fail
    go_ret
    exact ⟨rfl, Below.refl _ _⟩
  have q1 : decide ((100 : Int) < n.size) = false := decide_eq_false (by omega)
  have hn2 : n.size ≤ 1000000 := by omega
  have HN : Hid (n.size ≤ 100000) := by show _ ≤ _; omega
  have HN2 := Lib.hid hn2
  have HF := Lib.hid hF
  have HMx := Lib.hid hm
  have HE := Lib.hid hv
  have HL := Lib.hid hl
  obtain ⟨R, hR⟩ : ∃ R, rightF l = R := ⟨_, rfl⟩
  obtain ⟨T, hTx⟩ : ∃ T, ofL (textL l) = T := ⟨_, rfl⟩
  obtain ⟨gx, hgx⟩ : ∃ gx, (getF l n).1 = gx := ⟨_, rfl⟩
  obtain ⟨gb, hgb⟩ : ∃ gb, (getF l n).2 = gb := ⟨_, rfl⟩
  obtain ⟨sm, hsm⟩ : ∃ sm, smallB n = sm := ⟨_, rfl⟩
  obtain ⟨z, hz⟩ : ∃ z, w.heap.size = z := ⟨_, rfl⟩
  have C1 : Hid (∀ w', Below z w w' → Calls Tryd.prog 11 #[v] w' fun e w'' => e = .returned (if R = true then .tuple #[.string T, .int .i64 0] else .tuple #[.string ⟨#[]⟩, .int .i64 1]) ∧ Below w'.heap.size w' w'') := fun w' hb => by
    rw [← hR, ← hTx]
    exact rprint_calls v l w' (HF.out.below hb (by rw [hz]; exact Nat.le_refl _)) (HMx.out.below hb (by rw [← hz]; exact HMx.out.lt)) HL.out
  have C2 : Hid (∀ w', Below z w w' → Calls Tryd.prog 12 #[v] w' fun e w'' => e = .returned (if R = true then .tuple #[.string T, .nilIface] else .tuple #[.string ⟨#[]⟩, .iface 23 (.int .i64 1)]) ∧ Below w'.heap.size w' w'') := fun w' hb => by
    rw [← hR, ← hTx]
    exact print_calls v l w' (HF.out.below hb (by rw [hz]; exact Nat.le_refl _)) (HMx.out.below hb (by rw [← hz]; exact HMx.out.lt)) HL.out
  have C3 : Hid (∀ w', Below z w w' → Calls Tryd.prog 13 #[v, .string n] w' fun e w'' => e = .returned (.tuple #[.string gx, .bool gb]) ∧ Below w'.heap.size w' w'') := fun w' hb => by
    rw [← hgx, ← hgb]
    exact rget_calls v l n w' (HF.out.below hb (by rw [hz]; exact Nat.le_refl _)) HN.out
  have C4 : Hid (∀ w', Below z w w' → Calls Tryd.prog 14 #[v, .string n] w' fun e w'' => e = .returned (.tuple #[.string gx, .bool gb]) ∧ Below w'.heap.size w' w'') := fun w' hb => by
    rw [← hgx, ← hgb]
    exact get_calls v l n w' (HF.out.below hb (by rw [hz]; exact Nat.le_refl _)) HN.out
  have C5 : Hid (∀ w', Below z w w' → Calls Tryd.prog 16 #[v] w' fun e w'' => e = .returned (.bool R) ∧ Below w'.heap.size w' w'') := fun w' hb => by
    rw [← hR]
    exact right_calls v l w' (HF.out.below hb (by rw [hz]; exact Nat.le_refl _)) (HMx.out.below hb (by rw [← hz]; exact HMx.out.lt)) HL.out
  have C6 : Hid (∀ w', Below z w w' → Calls Tryd.prog 17 #[v] w' fun e w'' => e = .returned (.bool R) ∧ Below w'.heap.size w' w'') := fun w' hb => by
    rw [← hR]
    exact rright_calls v l w' (HF.out.below hb (by rw [hz]; exact Nat.le_refl _)) (HMx.out.below hb (by rw [← hz]; exact HMx.out.lt)) HL.out
  have C7 : Hid (∀ w', Calls Tryd.prog 18 #[.string n] w' fun e w'' => e = .returned (.string sm) ∧ Below w'.heap.size w' w'') := fun w' => by
    rw [← hsm]
    exact small_calls n w' HN2.out
  have C8 : Hid (∀ w', Calls Tryd.prog 19 #[.string n] w' fun e w'' => e = .returned (.string sm) ∧ Below w'.heap.size w' w'') := fun w' => by
    rw [← hsm]
    exact rsmall_calls n w' HN2.out
  have B1 : Hid (∀ w' ev k, Below z w w' → ErrV w' ev k (-1) → Calls Tryd.prog 15 #[ev, .int .i64 k] w' fun e w'' => e = .returned (.bool true) ∧ Below w'.heap.size w' w'') := fun w' ev k hb he => by
    refine (bare_calls ev k (-1) k w' ((HE.out.below (hb.mono (by omega)))) he).mono ?_
    rintro e w'' ⟨rfl, h⟩
    exact ⟨by simp, h⟩
  have HZ : Hid (∀ w', Below z w w' → z ≤ w'.heap.size) := fun w' hb => by have := hb.size; omega
  have HB0 : Hid (Below z w w) := Below.refl _ _
  have tT : (T.toList == T.toList) = true := by simp
  have tG : (gx.toList == gx.toList) = true := by simp
  have tS : (sm.toList == sm.toList) = true := by simp
  have tR : (R == R) = true := by simp
  have tB : (gb == gb) = true := by simp
  rw [hz]
  clear hT hm hv hF hl hf hR hTx hgx hgb hsm hz
  go_enter Tryd.func4, Tryd.ntmps4
  go_wp2_with fail
  refine FC.out.mono ?_
  rintro e0 w0 ⟨rfl, hw⟩
  subst hw
  clear FC
  go_wp2_with fail
  refine (C1.out w HB0.out).mono ?_
  rintro e1 w1 ⟨rfl, hb1⟩
  have HB1 : Hid (Below z w w1) := HB0.out.trans (hb1.mono (HZ.out _ HB0.out))
  clear hb1
  cases R
  · rw [if_neg (by decide)]
    go_wp2_with fail
    refine (C2.out w1 HB1.out).mono ?_
    rintro e2 w2 ⟨rfl, hb2⟩
    have HB2 : Hid (Below z w w2) := HB1.out.trans (hb2.mono (HZ.out _ HB1.out))
    clear hb2
    rw [if_neg (by decide)]
    go_wp2_with fail
    refine (C3.out w2 HB2.out).mono ?_
    rintro e3 w3 ⟨rfl, hb3⟩
    have HB3 : Hid (Below z w w3) := HB2.out.trans (hb3.mono (HZ.out _ HB2.out))
    clear hb3
    go_wp2_with fail
    refine (C4.out w3 HB3.out).mono ?_
    rintro e4 w4 ⟨rfl, hb4⟩
    have HB4 : Hid (Below z w w4) := HB3.out.trans (hb4.mono (HZ.out _ HB3.out))
    clear hb4
    go_wp2_with fail
    refine (B1.out w4 _ _ HB4.out (.no 1)).mono ?_
    rintro e5 w5 ⟨rfl, hb5⟩
    have HB5 : Hid (Below z w w5) := HB4.out.trans (hb5.mono (HZ.out _ HB4.out))
    clear hb5
    go_wp2_with fail
    refine (C5.out w5 HB5.out).mono ?_
    rintro e6 w6 ⟨rfl, hb6⟩
    have HB6 : Hid (Below z w w6) := HB5.out.trans (hb6.mono (HZ.out _ HB5.out))
    clear hb6
    go_wp2_with fail
    refine (C6.out w6 HB6.out).mono ?_
    rintro e7 w7 ⟨rfl, hb7⟩
    have HB7 : Hid (Below z w w7) := HB6.out.trans (hb7.mono (HZ.out _ HB6.out))
    clear hb7
    go_wp2_with fail
    refine (C7.out w7).mono ?_
    rintro e8 w8 ⟨rfl, hb8⟩
    have HB8 : Hid (Below z w w8) := HB7.out.trans (hb8.mono (HZ.out _ HB7.out))
    clear hb8
    go_wp2_with fail
    refine (C8.out w8).mono ?_
    rintro e9 w9 ⟨rfl, hb9⟩
    have HB9 : Hid (Below z w w9) := HB8.out.trans (hb9.mono (HZ.out _ HB8.out))
    clear hb9
    go_wp2_with fail
    go_ret
    exact ⟨by simp, HB9.out⟩
  · first | rw [if_pos rfl] | rw [if_pos trivial]
    go_wp2_with fail
    refine (C2.out w1 HB1.out).mono ?_
    rintro e2 w2 ⟨rfl, hb2⟩
    have HB2 : Hid (Below z w w2) := HB1.out.trans (hb2.mono (HZ.out _ HB1.out))
    clear hb2
    first | rw [if_pos rfl] | rw [if_pos trivial]
    go_wp2_with fail
    refine (C3.out w2 HB2.out).mono ?_
    rintro e3 w3 ⟨rfl, hb3⟩
    have HB3 : Hid (Below z w w3) := HB2.out.trans (hb3.mono (HZ.out _ HB2.out))
    clear hb3
    go_wp2_with fail
    refine (C4.out w3 HB3.out).mono ?_
    rintro e4 w4 ⟨rfl, hb4⟩
    have HB4 : Hid (Below z w w4) := HB3.out.trans (hb4.mono (HZ.out _ HB3.out))
    clear hb4
    go_wp2_with fail
    refine (B1.out w4 _ _ HB4.out .nil).mono ?_
    rintro e5 w5 ⟨rfl, hb5⟩
    have HB5 : Hid (Below z w w5) := HB4.out.trans (hb5.mono (HZ.out _ HB4.out))
    clear hb5
    go_wp2_with fail
    refine (C5.out w5 HB5.out).mono ?_
    rintro e6 w6 ⟨rfl, hb6⟩
    have HB6 : Hid (Below z w w6) := HB5.out.trans (hb6.mono (HZ.out _ HB5.out))
    clear hb6
    go_wp2_with fail
    refine (C6.out w6 HB6.out).mono ?_
    rintro e7 w7 ⟨rfl, hb7⟩
    have HB7 : Hid (Below z w w7) := HB6.out.trans (hb7.mono (HZ.out _ HB6.out))
    clear hb7
    go_wp2_with fail
    refine (C7.out w7).mono ?_
    rintro e8 w8 ⟨rfl, hb8⟩
    have HB8 : Hid (Below z w w8) := HB7.out.trans (hb8.mono (HZ.out _ HB7.out))
    clear hb8
    go_wp2_with fail
    refine (C8.out w8).mono ?_
    rintro e9 w9 ⟨rfl, hb9⟩
    have HB9 : Hid (Below z w w9) := HB8.out.trans (hb9.mono (HZ.out _ HB8.out))
    clear hb9
    go_wp2_with fail
    go_ret
    exact ⟨by simp, HB9.out⟩
end Go.Proofs.YtpiobckemlkomaaDoor
