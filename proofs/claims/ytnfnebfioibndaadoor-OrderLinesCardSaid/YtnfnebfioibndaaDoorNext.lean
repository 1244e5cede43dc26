/- status.Next, May, stevedoreref.Next: which state comes of a state and an event. -/
import Derived.Test.YtnfnebfioibndaaDoorErr
namespace Go.Proofs.YtnfnebfioibndaaDoor
open Go.RowKit

/-- The program's table, row by row (of the event, from 0 on). -/
def afterT (e s : Nat) : Int :=
  (([[0, 0, 0, 0, 0, 0, 0, 0], [2, 2, 2, 2, 2, 2, 2, 2], [-1, -1, 3, -1, -1, -1, -1, -1], [-1, -1, -1, 4, 4, -1, -1, -1], [-1, -1, -1, -1, 7, -1, -1, -1], [-1, -1, 2, -1, 4, -1, 4, -1], [-1, -1, 2, 2, 2, 2, 2, 2], [-1, -1, 1, -1, -1, -1, -1, -1], [-1, 0, 0, -1, -1, -1, -1, -1], [-1, -1, -1, -1, -1, 5, 6, 6], [-1, -1, -1, -1, -1, -1, 7, -1]] : List (List Int)).getD e []).getD s 0
/-- The document's table, as bytes. -/
def refT (e : Nat) : List UInt8 :=
  ([[50, 50, 50, 50, 50, 50, 50, 50], [45, 45, 51, 45, 45, 45, 45, 45], [45, 45, 45, 52, 52, 45, 45, 45], [45, 45, 45, 45, 55, 45, 45, 45], [45, 45, 50, 45, 52, 45, 52, 45], [45, 45, 50, 50, 50, 50, 50, 50], [45, 45, 49, 45, 45, 45, 45, 45], [45, 48, 48, 45, 45, 45, 45, 45], [45, 45, 45, 45, 45, 53, 54, 54], [45, 45, 45, 45, 45, 45, 55, 45]] : List (List UInt8)).getD e []

/-- The two tables say one thing. -/
theorem tables : ∀ e, e < 10 → ∀ s, s < 8 → (refT e).length = 8 ∧ (((refT e).getD s 0 = 45 ∧ afterT (e + 1) s = -1) ∨ ((refT e).getD s 0 ≠ 45 ∧ 48 ≤ ((refT e).getD s 0).toNat ∧ afterT (e + 1) s = (((refT e).getD s 0).toNat : Int) - 48)) := by decide

def nextN (s e : Int) : Int := if s < 0 ∨ 7 < s ∨ e < 1 ∨ 10 < e then 0 else if 0 ≤ afterT e.toNat s.toNat then afterT e.toNat s.toNat else 0
def nextE (s e : Int) : Int := if s < 0 ∨ 7 < s ∨ e < 1 ∨ 10 < e then 1 else if 0 ≤ afterT e.toNat s.toNat then 0 else 6
/-- An Errno as an error: OK is none. -/
def errOf (e : Int) : Value := if e = 0 then .nilIface else .iface 22 (.int .i64 e)

theorem errOf_v (w : World) (e : Int) : ErrV w (errOf e) e (-1) := by
  unfold errOf
  split
  · rename_i h; subst h; exact .nil
  · exact .no e

/-- The variable status.after. -/
def TabA (w : World) : Prop := (∀ e s : Nat, e < 11 → s < 8 → w.cell? ⟨1, e * 8 + s, none⟩ = some (.int .i64 (afterT e s))) ∧ 1 < w.heap.size
/-- The variable stevedoreref.table. -/
def TabR (w : World) : Prop := (∀ e : Nat, e < 10 → w.cell? ⟨0, e, none⟩ = some (.string ⟨(refT e).toArray⟩)) ∧ 0 < w.heap.size

theorem TabA.below {w w' : World} (h : TabA w) (hb : Below w.heap.size w w') : TabA w' :=
  ⟨fun e s he hs => (hb.cell (p := ⟨_, e * 8 + s, none⟩) h.2).trans (h.1 e s he hs), Nat.lt_of_lt_of_le h.2 hb.size⟩
theorem TabR.below {w w' : World} (h : TabR w) (hb : Below w.heap.size w w') : TabR w' :=
  ⟨fun e he => (hb.cell (p := ⟨_, e, none⟩) h.2).trans (h.1 e he), Nat.lt_of_lt_of_le h.2 hb.size⟩

theorem next_bad (s e : Int) (h : s < 0 ∨ 7 < s ∨ e < 1 ∨ 10 < e) : nextN s e = 0 ∧ nextE s e = 1 := by
  unfold nextN nextE
  rw [if_pos h, if_pos h]
  exact ⟨rfl, rfl⟩
theorem next_good (s e : Nat) (hs : s < 8) (h1 : 1 ≤ e) (he : e < 11) (ha : 0 ≤ afterT e s) : nextN s e = afterT e s ∧ nextE s e = 0 := by
  unfold nextN nextE
  have hn : ¬ ((s : Int) < 0 ∨ 7 < (s : Int) ∨ (e : Int) < 1 ∨ 10 < (e : Int)) := by omega
  rw [if_neg hn, if_neg hn]
  simp [ha]
theorem next_not (s e : Nat) (hs : s < 8) (h1 : 1 ≤ e) (he : e < 11) (ha : ¬ 0 ≤ afterT e s) : nextN s e = 0 ∧ nextE s e = 6 := by
  unfold nextN nextE
  have hn : ¬ ((s : Int) < 0 ∨ 7 < (s : Int) ∨ (e : Int) < 1 ∨ 10 < (e : Int)) := by omega
  rw [if_neg hn, if_neg hn]
  simp [ha]

set_option maxHeartbeats 1000000 in
theorem next_calls (s e : Int) (w : World) (hT : TabA w) :
    Calls Tryd.prog 9 #[.int .i64 s, .int .i64 e] w fun ev w' => ev = .returned (.tuple #[.int .i64 (nextN s e), errOf (nextE s e)]) ∧ w = w' := by
  by_cases hbad : s < 0 ∨ 7 < s ∨ e < 1 ∨ 10 < e
  · obtain ⟨e1, e2⟩ := next_bad s e hbad
    rw [e1, e2]
    have e3 : errOf 1 = .iface 22 (.int .i64 1) := rfl
    rw [e3]
    clear e1 e2 e3 hT
    by_cases h1 : s < 0
    · go_enter Tryd.func9, Tryd.ntmps9
      go_wp2
      go_ret2
      exact ⟨rfl, rfl⟩
    · by_cases h2 : 7 < s
      · go_enter Tryd.func9, Tryd.ntmps9
        go_wp2
        go_ret2
        exact ⟨rfl, rfl⟩
      · by_cases h3 : e < 1
        · go_enter Tryd.func9, Tryd.ntmps9
          go_wp2
          go_ret2
          exact ⟨rfl, rfl⟩
        · have h4 : 10 < e := by omega
          go_enter Tryd.func9, Tryd.ntmps9
          go_wp2
          go_ret2
          exact ⟨rfl, rfl⟩
  · obtain ⟨s, rfl⟩ := Int.eq_ofNat_of_zero_le (show 0 ≤ s by omega)
    obtain ⟨e, rfl⟩ := Int.eq_ofNat_of_zero_le (show 0 ≤ e by omega)
    have hs : s < 8 := by omega
    have he : e < 11 := by omega
    have h1 : 1 ≤ e := by omega
    have hc := hT.1 e s he hs
    clear hT hbad
    by_cases ha : 0 ≤ afterT e s
    · obtain ⟨e1, e2⟩ := next_good s e hs h1 he ha
      rw [e1, e2]
      have e3 : errOf 0 = .nilIface := rfl
      rw [e3]
      clear e1 e2 e3
      generalize afterT e s = n at *
      go_enter Tryd.func9, Tryd.ntmps9
      go_wp2
      go_ret2
      exact ⟨rfl, rfl⟩
    · obtain ⟨e1, e2⟩ := next_not s e hs h1 he ha
      rw [e1, e2]
      have e3 : errOf 6 = .iface 22 (.int .i64 6) := rfl
      rw [e3]
      clear e1 e2 e3
      generalize afterT e s = n at *
      go_enter Tryd.func9, Tryd.ntmps9
      go_wp2
      go_ret2
      exact ⟨rfl, rfl⟩

theorem in_calls (n lo hi : Int) (w : World) :
    Calls Tryd.prog 32 #[.int .i64 n, .int .i64 lo, .int .i64 hi] w fun ev w' => ev = .returned (.bool (decide (lo ≤ n) && decide (n ≤ hi))) ∧ w = w' := by
  by_cases h : lo ≤ n
  · have e : decide (lo ≤ n) = true := decide_eq_true h
    rw [e]
    clear e
    go_enter Tryd.func32, Tryd.ntmps32
    go_wp2
    go_ret
    exact ⟨by simp, rfl⟩
  · have e : decide (lo ≤ n) = false := decide_eq_false h
    rw [e]
    clear e
    go_enter Tryd.func32, Tryd.ntmps32
    go_wp2
    go_ret
    exact ⟨by simp, rfl⟩

/-- A byte of the document's table, as the walk reads it. -/
theorem ref_byte (e s : Nat) (hs : s < 8) (he : e < 10) : (⟨(refT e).toArray⟩ : ByteArray).size = 8 ∧ (⟨(refT e).toArray⟩ : ByteArray).data.toList = refT e := by
  have := (tables e he s hs).1
  exact ⟨by simpa [ByteArray.size] using this, by simp⟩

set_option maxHeartbeats 1000000 in
theorem refNext_calls (s e : Int) (w : World) (hT : TabR w) :
    Calls Tryd.prog 8 #[.int .i64 s, .int .i64 e] w fun ev w' => ev = .returned (.tuple #[.int .i64 (nextN s e), .int .i64 (nextE s e)]) ∧ w = w' := by
  by_cases hbad : s < 0 ∨ 7 < s ∨ e < 1 ∨ 10 < e
  · obtain ⟨e1, e2⟩ := next_bad s e hbad
    rw [e1, e2]
    clear e1 e2 hT
    by_cases h1 : s < 0 ∨ 7 < s
    · have hi := in_calls s 0 7 w
      have hf : (decide (0 ≤ s) && decide (s ≤ 7)) = false := by simp; omega
      rw [hf] at hi
      clear hf
      go_enter Tryd.func8, Tryd.ntmps8
      go_wp2_with fail
      refine hi.mono ?_
      rintro ev w' ⟨rfl, rfl⟩
      go_wp2
      go_ret2
      exact ⟨rfl, rfl⟩
    · have hi := in_calls s 0 7 w
      have hf : (decide (0 ≤ s) && decide (s ≤ 7)) = true := by simp; omega
      rw [hf] at hi
      have hj := in_calls e 1 10 w
      have hf : (decide (1 ≤ e) && decide (e ≤ 10)) = false := by simp; omega
      rw [hf] at hj
      clear hf
      go_enter Tryd.func8, Tryd.ntmps8
      go_wp2_with fail
      refine hi.mono ?_
      rintro ev w' ⟨rfl, rfl⟩
      go_wp2_with fail
      refine hj.mono ?_
      rintro ev w' ⟨rfl, rfl⟩
      go_wp2
      go_ret2
      exact ⟨rfl, rfl⟩
  · obtain ⟨s, rfl⟩ := Int.eq_ofNat_of_zero_le (show 0 ≤ s by omega)
    obtain ⟨e, rfl⟩ : ∃ n : Nat, e = (n : Int) + 1 := ⟨(e - 1).toNat, by omega⟩
    have hs : s < 8 := by omega
    have he : e < 10 := by omega
    have hc := hT.1 e he
    have hi := in_calls s 0 7 w
    have hf : (decide (0 ≤ (s : Int)) && decide ((s : Int) ≤ 7)) = true := by simp; omega
    rw [hf] at hi
    have hj := in_calls ((e : Int) + 1) 1 10 w
    have hf : (decide (1 ≤ (e : Int) + 1) && decide ((e : Int) + 1 ≤ 10)) = true := by simp; omega
    rw [hf] at hj
    clear hT hbad hf
    obtain ⟨T, hTe⟩ : ∃ T : ByteArray, T = ⟨(refT e).toArray⟩ := ⟨_, rfl⟩
    have hsz : s < T.size := by rw [hTe, (ref_byte e s hs he).1]; exact hs
    have hb : T[s] = (refT e).getD s 0 := by
      subst hTe
      have h8 := (tables e he s hs).1
      simp [ByteArray.getElem_eq_getElem_data, List.getD, List.getElem?_eq_getElem (show s < (refT e).length by omega)]
    obtain ⟨_, ht⟩ := tables e he s hs
    rw [← hb] at ht
    rw [← hTe] at hc
    clear hTe hb
    have h256 : (T[s].toNat : Int) < 256 := by have := T[s].toNat_lt; omega
    rcases ht with ⟨h45, ha⟩ | ⟨h45, h48, ha⟩
    · obtain ⟨e1, e2⟩ := next_not s (e + 1) hs (by omega) (by omega) (by omega)
      have e1' : nextN (s : Int) ((e : Int) + 1) = 0 := e1
      have e2' : nextE (s : Int) ((e : Int) + 1) = 6 := e2
      rw [e1', e2']
      have hx : ((T[s].toNat : Int) == 45) = true := by rw [h45]; rfl
      clear e1 e2 e1' e2' ha h45 h256
      go_enter Tryd.func8, Tryd.ntmps8
      go_wp2_with fail
      refine hi.mono ?_
      rintro ev w' ⟨rfl, rfl⟩
      go_wp2_with fail
      refine hj.mono ?_
      rintro ev w' ⟨rfl, rfl⟩
      clear hi hj
      go_wp2
      go_ret2
      exact ⟨rfl, rfl⟩
    · obtain ⟨e1, e2⟩ := next_good s (e + 1) hs (by omega) (by omega) (by omega)
      have e1' : nextN (s : Int) ((e : Int) + 1) = (T[s].toNat : Int) - 48 := e1.trans ha
      have e2' : nextE (s : Int) ((e : Int) + 1) = 0 := e2
      rw [e1', e2']
      have hx : ((T[s].toNat : Int) == 45) = false := by
        have : (T[s].toNat : Int) ≠ 45 := by omega
        simpa using this
      have h48' : 48 ≤ (T[s].toNat : Int) := by omega
      clear e1 e2 e1' e2' ha h45 h48
      go_enter Tryd.func8, Tryd.ntmps8
      go_wp2_with fail
      refine hi.mono ?_
      rintro ev w' ⟨rfl, rfl⟩
      go_wp2_with fail
      refine hj.mono ?_
      rintro ev w' ⟨rfl, rfl⟩
      clear hi hj
      go_wp2
      go_ret2
      exact ⟨rfl, rfl⟩

theorem may_calls (s e : Int) (w : World) (hT : TabA w) :
    Calls Tryd.prog 11 #[.int .i64 s, .int .i64 e] w fun ev w' => ev = .returned (.bool (nextE s e == 0)) ∧ w = w' := by
  have hn := next_calls s e w hT
  clear hT
  unfold errOf at hn
  by_cases h : nextE s e = 0
  · have hb : (nextE s e == 0) = true := by simp [h]
    rw [hb]
    rw [if_pos h] at hn
    clear h hb
    go_enter Tryd.func11, Tryd.ntmps11
    go_wp2_with fail
    refine hn.mono ?_
    rintro ev w' ⟨rfl, rfl⟩
    go_wp2
    go_ret
    exact ⟨rfl, rfl⟩
  · have hb : (nextE s e == 0) = false := by simp [h]
    rw [hb]
    rw [if_neg h] at hn
    clear h hb
    go_enter Tryd.func11, Tryd.ntmps11
    go_wp2_with fail
    refine hn.mono ?_
    rintro ev w' ⟨rfl, rfl⟩
    go_wp2
    go_ret
    exact ⟨rfl, rfl⟩

end Go.Proofs.YtnfnebfioibndaaDoor
