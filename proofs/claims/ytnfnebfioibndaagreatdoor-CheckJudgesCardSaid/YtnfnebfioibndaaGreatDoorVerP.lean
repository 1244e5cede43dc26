/- version.weight, part; cmp.Or. -/
import Derived.Test.YtnfnebfioibndaaGreatDoorVerH
import Derived.Shelf.Strings.SlTrimAscii
namespace Go.Proofs.YtnfnebfioibndaaGreatDoor
open Go.RowKit
set_option maxRecDepth 100000


theorem trimDigits (s : ByteArray) (w : World) :
    Calls Tryz.prog 120 #[.string s, .string ⟨#[48, 49, 50, 51, 52, 53, 54, 55, 56, 57]⟩] w fun e w' => ∃ r : ByteArray, e = .returned (.string r) ∧ r.data.toList = s.data.toList.dropWhile dig ∧ Below w.heap.size w w' := by
  have hcon := Any.strings_TrimLeft_laid Tryz.lays161 (by kernel_rfl) s ⟨#[48, 49, 50, 51, 52, 53, 54, 55, 56, 57]⟩ w (by decide) (ascii_of_all (by decide))
  refine Calls.mono hcon ?_
  rintro e w' ⟨rfl, hb⟩
  refine ⟨_, rfl, ?_, hb⟩
  show Lib.trimLeftS _ _ = _
  unfold Lib.trimLeftS
  congr 1
  funext c
  exact contains_digits c

theorem trimNoughts (s : ByteArray) (w : World) :
    Calls Tryz.prog 120 #[.string s, .string ⟨#[48]⟩] w fun e w' => ∃ r : ByteArray, e = .returned (.string r) ∧ r.data.toList = strip0 s.data.toList ∧ Below w.heap.size w w' := by
  have hcon := Any.strings_TrimLeft_laid Tryz.lays161 (by kernel_rfl) s ⟨#[48]⟩ w (by decide) (ascii_of_all (by decide))
  refine Calls.mono hcon ?_
  rintro e w' ⟨rfl, hb⟩
  refine ⟨_, rfl, ?_, hb⟩
  show Lib.trimLeftS _ _ = _
  unfold Lib.trimLeftS strip0
  congr 1
  funext c
  exact contains_nought c

theorem or2_calls (x y : Int) (b : Nat) (w : World) (h0 : w.cell? ⟨b, 0, none⟩ = some (.int .i64 x)) (h1 : w.cell? ⟨b, 1, none⟩ = some (.int .i64 y)) :
    Calls Tryz.prog 110 #[.slice (some ⟨b, 0, none⟩) 2 2] w fun e w' => e = .returned (.int .i64 (if x = 0 then y else x)) ∧ w = w' := by
  by_cases hx : x = 0
  · have tx : (x != 0) = false := by simp [hx]
    rw [if_pos hx]
    clear hx
    by_cases hy : y = 0
    · have ty : (y != 0) = false := by simp [hy]
      have HY := Lib.hid hy
      clear hy
      go_enter Tryz.func110, Tryz.ntmps110
      go_wp2_with fail
      go_rounds 3
      go_ret
      exact ⟨ret_int HY.out.symm, rfl⟩
    · have ty : (y != 0) = true := by simp [hy]
      clear hy
      go_enter Tryz.func110, Tryz.ntmps110
      go_wp2_with fail
      go_rounds 3
      go_ret
      exact ⟨rfl, rfl⟩
  · have tx : (x != 0) = true := by simp [hx]
    rw [if_neg hx]
    clear hx
    go_enter Tryz.func110, Tryz.ntmps110
    go_wp2_with fail
    go_rounds 3
    go_ret
    exact ⟨rfl, rfl⟩

theorem or3_calls (x y z : Int) (b : Nat) (w : World) (h0 : w.cell? ⟨b, 0, none⟩ = some (.int .i64 x)) (h1 : w.cell? ⟨b, 1, none⟩ = some (.int .i64 y)) (h2 : w.cell? ⟨b, 2, none⟩ = some (.int .i64 z)) :
    Calls Tryz.prog 110 #[.slice (some ⟨b, 0, none⟩) 3 3] w fun e w' => e = .returned (.int .i64 (if x = 0 then (if y = 0 then z else y) else x)) ∧ w = w' := by
  by_cases hx : x = 0
  · have tx : (x != 0) = false := by simp [hx]
    rw [if_pos hx]
    clear hx
    by_cases hy : y = 0
    · have ty : (y != 0) = false := by simp [hy]
      rw [if_pos hy]
      clear hy
      by_cases hz : z = 0
      · have tz : (z != 0) = false := by simp [hz]
        have HZ := Lib.hid hz
        clear hz
        go_enter Tryz.func110, Tryz.ntmps110
        go_wp2_with fail
        go_rounds 4
        go_ret
        exact ⟨ret_int HZ.out.symm, rfl⟩
      · have tz : (z != 0) = true := by simp [hz]
        clear hz
        go_enter Tryz.func110, Tryz.ntmps110
        go_wp2_with fail
        go_rounds 4
        go_ret
        exact ⟨rfl, rfl⟩
    · have ty : (y != 0) = true := by simp [hy]
      rw [if_neg hy]
      clear hy
      go_enter Tryz.func110, Tryz.ntmps110
      go_wp2_with fail
      go_rounds 4
      go_ret
      exact ⟨rfl, rfl⟩
  · have tx : (x != 0) = true := by simp [hx]
    rw [if_neg hx]
    clear hx
    go_enter Tryz.func110, Tryz.ntmps110
    go_wp2_with fail
    go_rounds 4
    go_ret
    exact ⟨rfl, rfl⟩

theorem isDig_calls (c : UInt8) (w : World) :
    Calls Tryz.prog 125 #[.string ⟨#[48, 49, 50, 51, 52, 53, 54, 55, 56, 57]⟩, .int .u8 (c.toNat : Int)] w fun e w' => ∃ k : Int, e = .returned (.int .i64 k) ∧ decide (0 ≤ k) = dig c ∧ w = w' := by
  refine (Tryz.strings_IndexByte _ _ w).mono ?_
  rintro e w' ⟨rfl, rfl⟩
  refine ⟨_, rfl, ?_, rfl⟩
  rw [← index_digits c]
  have e1 : (c.toNat : Int).toNat.toUInt8 = c := by simp
  rw [e1]
theorem isLtr_calls (c : UInt8) (w : World) :
    Calls Tryz.prog 125 #[.string ⟨#[97, 98, 99, 100, 101, 102, 103, 104, 105, 106, 107, 108, 109, 110, 111, 112, 113, 114, 115, 116, 117, 118, 119, 120, 121, 122, 65, 66, 67, 68, 69, 70, 71, 72, 73, 74, 75, 76, 77, 78, 79, 80, 81, 82, 83, 84, 85, 86, 87, 88, 89, 90]⟩, .int .u8 (c.toNat : Int)] w fun e w' => ∃ k : Int, e = .returned (.int .i64 k) ∧ decide (0 ≤ k) = ltr c ∧ w = w' := by
  refine (Tryz.strings_IndexByte _ _ w).mono ?_
  rintro e w' ⟨rfl, rfl⟩
  refine ⟨_, rfl, ?_, rfl⟩
  rw [← index_letters c]
  have e1 : (c.toNat : Int).toNat.toUInt8 = c := by simp
  rw [e1]
  rfl

set_option maxHeartbeats 1000000 in
theorem weight_calls (s : ByteArray) (w : World) :
    Calls Tryz.prog 119 #[.string s] w fun e w' => e = .returned (.int .i64 (wt s.data.toList)) ∧ w = w' := by
  by_cases hs : s.size = 0
  · obtain ⟨e1, e2⟩ := str_nil s hs
    rw [e1]
    clear e1 hs
    go_enter Tryz.func119, Tryz.ntmps119
    go_wp2
    go_ret
    exact ⟨rfl, rfl⟩
  · have hpos : 0 < s.size := by omega
    obtain ⟨c, l, e1, e2, e3, -, -⟩ := str_cons s hpos
    rw [e1]
    have hb : (s[0].toNat : Int) < 256 := by have := s[0].toNat_lt; omega
    subst e2
    clear e1 hs
    show Calls _ _ _ _ fun e w' => e = .returned (.int .i64 (wtB s[0])) ∧ w = w'
    unfold wtB
    cases hd : dig s[0]
    · by_cases ht : s[0].toNat = 126
      · have ht' : ((s[0].toNat : Int) == 126) = true := by rw [ht]; rfl
        rw [if_neg (by simp), if_pos ht]
        have Hd := Lib.hid hd
        clear ht hd
        go_enter Tryz.func119, Tryz.ntmps119
        go_wp2_with fail
        refine (isDig_calls _ _).mono ?_
        rintro e w' ⟨k, rfl, hk, rfl⟩
        have hk' : k < 0 := by rw [Hd.out, decide_eq_false_iff_not] at hk; omega
        clear hk
        go_wp2_with fail
        go_ret
        exact ⟨rfl, rfl⟩
      · have ht' : ((s[0].toNat : Int) == 126) = false := by simpa using (show (s[0].toNat : Int) ≠ 126 by omega)
        rw [if_neg (by simp), if_neg ht]
        have Hd := Lib.hid hd
        clear ht hd
        cases hl : ltr s[0]
        · have Hl := Lib.hid hl
          clear hl
          go_enter Tryz.func119, Tryz.ntmps119
          go_wp2_with fail
          refine (isDig_calls _ _).mono ?_
          rintro e w' ⟨k, rfl, hk, rfl⟩
          have hk' : k < 0 := by rw [Hd.out, decide_eq_false_iff_not] at hk; omega
          clear hk
          go_wp2_with fail
          refine (isLtr_calls _ _).mono ?_
          rintro e w' ⟨k2, rfl, hk2, rfl⟩
          have hk2' : k2 < 0 := by rw [Hl.out, decide_eq_false_iff_not] at hk2; omega
          clear hk2
          go_wp2_with fail
          go_ret
          exact ⟨rfl, rfl⟩
        · have Hl := Lib.hid hl
          clear hl
          go_enter Tryz.func119, Tryz.ntmps119
          go_wp2_with fail
          refine (isDig_calls _ _).mono ?_
          rintro e w' ⟨k, rfl, hk, rfl⟩
          have hk' : k < 0 := by rw [Hd.out, decide_eq_false_iff_not] at hk; omega
          clear hk
          go_wp2_with fail
          refine (isLtr_calls _ _).mono ?_
          rintro e w' ⟨k2, rfl, hk2, rfl⟩
          have hk2' : 0 ≤ k2 := by rw [Hl.out, decide_eq_true_iff] at hk2; omega
          clear hk2
          go_wp2_with fail
          go_ret
          exact ⟨rfl, rfl⟩
    · rw [if_pos (by simp)]
      have Hd := Lib.hid hd
      clear hd
      go_enter Tryz.func119, Tryz.ntmps119
      go_wp2_with fail
      refine (isDig_calls _ _).mono ?_
      rintro e w' ⟨k, rfl, hk, rfl⟩
      have hk' : 0 ≤ k := by rw [Hd.out, decide_eq_true_iff] at hk; omega
      clear hk
      go_wp2_with fail
      go_ret
      exact ⟨rfl, rfl⟩
end Go.Proofs.YtnfnebfioibndaaGreatDoor
