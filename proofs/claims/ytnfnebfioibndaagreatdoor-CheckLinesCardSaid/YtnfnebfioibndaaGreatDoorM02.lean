/- The small functions of the document's order of versions: digit, letter, rank, sign; short; the law's sign. -/
import Derived.Test.YtnfnebfioibndaaGreatDoorChecked
import Derived.Test.YtnfnebfioibndaaGreatDoorM01
import Derived.WalkKit
import Derived.WalkLawsBesides
import Derived.WalkSpells
import Derived.Deep.QuietTactic
import Derived.BigQuiet
import Derived.Below
import Derived.Handy
import Derived.Lib.Hide
import Derived.Lib.Strings
namespace Go.Proofs.YtnfnebfioibndaaGreatDoor
open Go.RowKit

theorem ret_bool {a b : Bool} (h : a = b) : Ending.returned (.bool a) = Ending.returned (.bool b) := by rw [h]
theorem ret_int {k : IntKind} {a b : Int} (h : a = b) : Ending.returned (.int k a) = Ending.returned (.int k b) := by rw [h]

theorem str_nil (s : ByteArray) (h : s.size = 0) : s.data.toList = [] ∧ s.toList.isEmpty = true := by
  have e : s.data.toList = [] := List.eq_nil_of_length_eq_zero (by rw [← Lib.size_eq]; exact h)
  exact ⟨e, by rw [Lib.toList_data, e]; rfl⟩
theorem str_cons (s : ByteArray) (h : 0 < s.size) : ∃ c l, s.data.toList = c :: l ∧ s[0] = c ∧ s.toList.isEmpty = false ∧ (s.extract 1 s.size).data.toList = l ∧ (s.extract 1 s.size).size + 1 = s.size := by
  have hl : s.data.toList.length = s.size := (Lib.size_eq s).symm
  cases e : s.data.toList with
  | nil => rw [e] at hl; simp at hl; omega
  | cons c l =>
    have h0 : s[0] = c := by
      have : s.data.toList[0]? = some c := by rw [e]; rfl
      rw [Array.getElem?_toList] at this
      have h1 : s.data[0]? = some s[0] := by
        rw [Array.getElem?_eq_getElem (show 0 < s.data.size from h)]
        rfl
      rw [h1] at this
      exact Option.some.inj this
    have hx : (s.extract 1 s.size).data.toList = l := by
      rw [Lib.extract_data, e, List.drop_one, List.tail_cons]
      rw [e, List.length_cons] at hl
      exact List.take_of_length_le (by omega)
    refine ⟨c, l, rfl, h0, ?_, hx, ?_⟩
    · rw [Lib.toList_data, e]; rfl
    · rw [Lib.size_eq, hx, Lib.size_eq, e, List.length_cons]

theorem digit_calls (c : UInt8) (w : World) :
    Calls Tryz.prog 124 #[.int .u8 (c.toNat : Int)] w fun e w' => e = .returned (.bool (dig c)) ∧ w = w' := by
  by_cases h : 48 ≤ c.toNat
  · by_cases h2 : c.toNat ≤ 57
    · have e : dig c = true := (dig_iff c).2 ⟨h, h2⟩
      rw [e]
      clear e
      go_enter Tryz.func124, Tryz.ntmps124
      go_wp2
      go_ret
      exact ⟨ret_bool (by first | rfl | (rw [Bool.eq_iff_iff]; simp <;> omega)), rfl⟩
    · have e : dig c = false := by rw [Bool.eq_false_iff]; intro k; exact h2 ((dig_iff c).1 k).2
      rw [e]
      clear e
      go_enter Tryz.func124, Tryz.ntmps124
      go_wp2
      go_ret
      exact ⟨ret_bool (by first | rfl | (rw [Bool.eq_iff_iff]; simp <;> omega)), rfl⟩
  · have e : dig c = false := by rw [Bool.eq_false_iff]; intro k; exact h ((dig_iff c).1 k).1
    rw [e]
    clear e
    go_enter Tryz.func124, Tryz.ntmps124
    go_wp2
    go_ret
    exact ⟨ret_bool (by first | rfl | (rw [Bool.eq_iff_iff]; simp <;> omega)), rfl⟩

theorem letter_calls (c : UInt8) (w : World) :
    Calls Tryz.prog 131 #[.int .u8 (c.toNat : Int)] w fun e w' => e = .returned (.bool (ltr c)) ∧ w = w' := by
  obtain ⟨n, hn⟩ : ∃ n, c.toNat = n := ⟨_, rfl⟩
  have e : ltr c = ((decide (97 ≤ n) && decide (n ≤ 122)) || (decide (65 ≤ n) && decide (n ≤ 90))) := by unfold ltr; rw [hn]
  rw [e, hn]
  clear e hn
  by_cases h1 : 97 ≤ n
  · by_cases h2 : n ≤ 122
    · go_enter Tryz.func131, Tryz.ntmps131
      go_wp2
      all_goals go_ret
      all_goals exact ⟨ret_bool (by first | rfl | (rw [Bool.eq_iff_iff]; simp <;> omega)), rfl⟩
    · go_enter Tryz.func131, Tryz.ntmps131
      go_wp2
      all_goals go_ret
      all_goals exact ⟨ret_bool (by first | rfl | (rw [Bool.eq_iff_iff]; simp <;> omega)), rfl⟩
  · by_cases h3 : 65 ≤ n
    · go_enter Tryz.func131, Tryz.ntmps131
      go_wp2
      all_goals go_ret
      all_goals exact ⟨ret_bool (by first | rfl | (rw [Bool.eq_iff_iff]; simp <;> omega)), rfl⟩
    · go_enter Tryz.func131, Tryz.ntmps131
      go_wp2
      all_goals go_ret
      all_goals exact ⟨ret_bool (by first | rfl | (rw [Bool.eq_iff_iff]; simp <;> omega)), rfl⟩

set_option maxRecDepth 100000 in
set_option maxHeartbeats 1000000 in
theorem rank_calls (s : ByteArray) (w : World) :
    Calls Tryz.prog 122 #[.string s] w fun e w' => e = .returned (.int .i64 (rk s.data.toList)) ∧ w = w' := by
  by_cases hs : s.size = 0
  · obtain ⟨e1, e2⟩ := str_nil s hs
    rw [e1]
    clear e1 hs
    go_enter Tryz.func122, Tryz.ntmps122
    go_wp2
    go_ret
    exact ⟨rfl, rfl⟩
  · have hpos : 0 < s.size := by omega
    obtain ⟨c, l, e1, e2, e3, -, -⟩ := str_cons s hpos
    rw [e1]
    have hb : (s[0].toNat : Int) < 256 := by have := s[0].toNat_lt; omega
    subst e2
    clear e1 hs
    show Calls _ _ _ _ fun e w' => e = .returned (.int .i64 (rkB s[0])) ∧ w = w'
    unfold rkB
    by_cases hd : dig s[0] = true
    · rw [hd]
      go_enter Tryz.func122, Tryz.ntmps122
      go_wp2_with fail
      refine (digit_calls _ _).mono ?_
      rintro e w' ⟨rfl, rfl⟩
      go_wp2
      go_ret
      exact ⟨rfl, rfl⟩
    · rw [Bool.not_eq_true] at hd
      rw [hd]
      by_cases ht : s[0].toNat = 126
      · rw [if_pos ht]
        have ht' : ((s[0].toNat : Int) == 126) = true := by rw [ht]; rfl
        clear ht
        go_enter Tryz.func122, Tryz.ntmps122
        go_wp2_with fail
        refine (digit_calls _ _).mono ?_
        rintro e w' ⟨rfl, rfl⟩
        go_wp2
        go_ret
        exact ⟨rfl, rfl⟩
      · rw [if_neg ht]
        have ht' : ((s[0].toNat : Int) == 126) = false := by simpa using (show (s[0].toNat : Int) ≠ 126 by omega)
        clear ht
        go_enter Tryz.func122, Tryz.ntmps122
        go_wp2_with fail
        refine (digit_calls _ _).mono ?_
        rintro e w' ⟨rfl, rfl⟩
        go_wp2_with fail
        refine (letter_calls _ _).mono ?_
        rintro e w' ⟨rfl, rfl⟩
        go_wp2
        all_goals go_ret
        all_goals exact ⟨by simp [*], rfl⟩

theorem refSign_calls (n : Int) (w : World) :
    Calls Tryz.prog 123 #[.int .i64 n] w fun e w' => e = .returned (.int .i64 (Lib.compareInt n 0)) ∧ w = w' := by
  unfold Lib.compareInt
  by_cases h : n < 0
  · rw [if_pos h]
    go_enter Tryz.func123, Tryz.ntmps123
    go_wp2
    go_ret
    exact ⟨rfl, rfl⟩
  · rw [if_neg h]
    by_cases h0 : 0 < n
    · rw [if_pos h0]
      go_enter Tryz.func123, Tryz.ntmps123
      go_wp2
      all_goals go_ret
      all_goals exact ⟨ret_int (by omega), rfl⟩
    · rw [if_neg h0]
      go_enter Tryz.func123, Tryz.ntmps123
      go_wp2
      all_goals go_ret
      all_goals exact ⟨ret_int (by omega), rfl⟩
end Go.Proofs.YtnfnebfioibndaaGreatDoor
