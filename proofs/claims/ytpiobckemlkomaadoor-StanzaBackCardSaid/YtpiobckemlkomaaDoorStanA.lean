/- Stanzas: names, lines, blanks at both ends: the program's and the document's. -/
import Derived.Test.YtpiobckemlkomaaDoorStanP
import Derived.Test.YtpiobckemlkomaaDoorErr
import Derived.Test.YtpiobckemlkomaaDoorShelf
import Derived.Shelf.Strings.SlTrimAscii
import Derived.Lib.Hide
import Derived.Deep.QuietTactic
import Derived.BigQuiet
import Derived.LoopTactic
import Derived.Deep.LoopGhost
import Derived.Deep.CutBlock
import Derived.Deep.DeepCutAuto
import Derived.BigRegion
import Derived.Handy
import Derived.Outline
namespace Go.Proofs.YtpiobckemlkomaaDoor
open Go.RowKit
set_option maxRecDepth 100000
set_option maxHeartbeats 4000000

theorem all_take {l : List UInt8} {i : Nat} {b : UInt8} (p : UInt8 → Bool) (h : l[i]? = some b) : (l.take (i + 1)).all p = ((l.take i).all p && p b) := by
  obtain ⟨h1, h2⟩ := List.getElem?_eq_some_iff.1 h
  rw [List.take_succ_eq_append_getElem h1, List.all_append, h2]
  simp
theorem all_more {l : List UInt8} (p : UInt8 → Bool) {i : Nat} {b : UInt8} (h : l[i]? = some b) (hp : p b = false) : l.all p = false := by
  rw [List.all_eq_false]
  exact ⟨b, List.mem_of_getElem? h, by simp [hp]⟩
theorem get_at (s : ByteArray) (i : Nat) (h : i < s.size) : s.data.toList[i]? = some (s[i]'h) := by
  have hj' : i < s.data.size := h
  rw [Array.getElem?_toList, Array.getElem?_eq_getElem hj']
  rfl
theorem head_at (s : ByteArray) (h : 0 < s.size) : s.data.toList.headD 0 = s[0]'h := by
  have := get_at s 0 h
  rw [List.headD_eq_head?_getD, List.head?_eq_getElem?, this]
  rfl
theorem take_size (s : ByteArray) : s.data.toList.take s.size = s.data.toList := List.take_length
theorem emptyL {s : ByteArray} (h : s.size = 0) : s.toList = [] ∧ s.toList.isEmpty = true := by
  have : s.toList = [] := by
    rw [Lib.toList_data]
    exact List.eq_nil_of_length_eq_zero h
  exact ⟨this, by rw [this]; rfl⟩
theorem emptyN {s : ByteArray} (h : s.size ≠ 0) : ¬ s.toList = [] ∧ s.toList.isEmpty = false := by
  have : ¬ s.toList = [] := by
    rw [Lib.toList_data]
    intro e
    exact h (by have := congrArg List.length e; exact this)
  exact ⟨this, by cases e : s.toList with
    | nil => exact absurd e this
    | cons _ _ => rfl⟩
theorem nameC_iff (c : UInt8) : nameC c = true ↔ 33 ≤ c.toNat ∧ c.toNat ≤ 126 ∧ c.toNat ≠ 58 := by
  unfold nameC
  simp [and_assoc]
theorem lineC_iff (c : UInt8) : lineC c = true ↔ (32 ≤ c.toNat ∨ c.toNat = 9) ∧ c.toNat ≠ 127 := by
  unfold lineC
  simp

/-- The bytes of a name, one by one, have been looked at: what is left are the tests on its length and its first byte. -/
theorem nameS_split (s : ByteArray) (h : s.data.toList.all nameC = true) : nameS s = (decide (1 ≤ s.size) && decide (s.size ≤ 24) && decide ((s.data.toList.headD 0).toNat ≠ 35) && decide ((s.data.toList.headD 0).toNat ≠ 45)) := by
  unfold nameS
  rw [h, Bool.true_and]
theorem nameS_no (s : ByteArray) (h : s.data.toList.all nameC = false) : nameS s = false := by
  unfold nameS
  rw [h]
  simp

theorem name_calls (s : ByteArray) (w : World) (hs : s.size ≤ 1000000) :
    Calls Tryd.prog 34 #[.string s] w fun e w' => e = .returned (.bool (nameS s)) ∧ w = w' := by
  go_enter Tryd.func34, Tryd.ntmps34
  go_wp2_with fail
  go_loopg [6] s.size (fun k v6 wr => ∃ i : Nat, v6 = .int .i64 i ∧ i ≤ s.size ∧ k = s.size - i ∧ wr = w ∧ (s.data.toList.take i).all nameC = true)
  case atStart => exact ⟨0, rfl, Nat.zero_le _, rfl, rfl, rfl⟩
  case round =>
    obtain ⟨i, rfl, hi, hk, hw, hall⟩ := hrel
    obtain rfl : w = wr := hw.symm
    have Hk := Lib.hid hk
    have Hall := Lib.hid hall
    clear hk hall
    by_cases hlt : i < s.size
    · have hg := get_at s i hlt
      obtain ⟨c, hc⟩ : ∃ c, s[i]'hlt = c := ⟨_, rfl⟩
      rw [hc] at hg
      obtain ⟨n, hn⟩ : ∃ n, c.toNat = n := ⟨_, rfl⟩
      have hn256 : n < 256 := by rw [← hn]; exact c.toNat_lt
      have HN : Hid (nameC c = true ↔ 33 ≤ n ∧ n ≤ 126 ∧ n ≠ 58) := by rw [← hn]; exact nameC_iff c
      have HG := Lib.hid hg
      clear hg
      have BAD : Hid (¬ (33 ≤ n ∧ n ≤ 126 ∧ n ≠ 58) → nameS s = false) := fun h => nameS_no s (all_more nameC HG.out (Bool.eq_false_iff.2 fun h' => h (HN.out.1 h')))
      by_cases h1 : n < 33
      case' pos =>
        have HB := Lib.hid (BAD.out (by omega))
        go_wp2_with fail
        go_ret
        rw [HB.out]
        exact ⟨rfl, rfl⟩
      by_cases h2 : 126 < n
      case' pos =>
        have HB := Lib.hid (BAD.out (by omega))
        go_wp2_with fail
        go_ret
        rw [HB.out]
        exact ⟨rfl, rfl⟩
      by_cases h3 : n = 58
      case' pos =>
        have HB := Lib.hid (BAD.out (by omega))
        go_wp2_with fail
        go_ret
        rw [HB.out]
        exact ⟨rfl, rfl⟩
      have HA : Hid ((s.data.toList.take (i + 1)).all nameC = true) := by
        show _ = _
        rw [all_take nameC HG.out, Hall.out, HN.out.2 ⟨by omega, by omega, h3⟩]
        rfl
      have q1 : decide ((n : Int) < 33) = false := decide_eq_false (by omega)
      have q2 : decide ((126 : Int) < n) = false := decide_eq_false (by omega)
      have q3 : ((n : Int) == 58) = false := by rw [beq_eq_false_iff_ne]; omega
      go_wp2_with fail
      go_roundg (s.size - (i + 1))
      case rel => exact ⟨i + 1, by go_num, by omega, rfl, rfl, HA.out⟩
      case measure => have := Hk.out; omega
    · obtain rfl : i = s.size := by omega
      have hall := Hall.out
      rw [take_size] at hall
      have HE := Lib.hid (nameS_split s hall)
      clear hall
      by_cases h0 : s.size = 0
      · have HB : Hid (nameS s = false) := by
          show _ = _
          rw [HE.out, h0]
          rfl
        obtain ⟨t1, t2⟩ := emptyL h0
        clear h0
        go_wp2_with fail
        go_ret
        rw [HB.out]
        exact ⟨rfl, rfl⟩
      obtain ⟨t1, t2⟩ := emptyN h0
      by_cases h1 : 24 < s.size
      · have HB : Hid (nameS s = false) := by
          show _ = _
          rw [HE.out, decide_eq_false (show ¬ s.size ≤ 24 by omega)]
          simp
        go_wp2_with fail
        go_ret
        rw [HB.out]
        exact ⟨rfl, rfl⟩
      have hp : 0 < s.size := by omega
      have he := HE.out
      rw [head_at s hp, decide_eq_true (show 1 ≤ s.size by omega), decide_eq_true (show s.size ≤ 24 by omega)] at he
      obtain ⟨c, hc⟩ : ∃ c, s[0]'hp = c := ⟨_, rfl⟩
      rw [hc] at he
      obtain ⟨n, hn⟩ : ∃ n, c.toNat = n := ⟨_, rfl⟩
      have hn256 : n < 256 := by rw [← hn]; exact c.toNat_lt
      rw [hn] at he
      have HE1 := Lib.hid he
      clear he HE
      by_cases h2 : n = 35
      · have HB : Hid (nameS s = false) := by
          show _ = _
          rw [HE1.out, h2]
          rfl
        go_wp2_with fail
        go_ret
        rw [HB.out]
        exact ⟨rfl, rfl⟩
      by_cases h3 : n = 45
      · have HB : Hid (nameS s = false) := by
          show _ = _
          rw [HE1.out, h3]
          rfl
        go_wp2_with fail
        go_ret
        rw [HB.out]
        exact ⟨rfl, rfl⟩
      have HB : Hid (nameS s = true) := by
        show _ = _
        rw [HE1.out, decide_eq_true h2, decide_eq_true h3]
        rfl
      have q1 : ((n : Int) != 35) = true := by rw [bne_iff_ne]; omega
      have q2 : ((n : Int) != 45) = true := by rw [bne_iff_ne]; omega
      go_wp2_with fail
      go_ret
      rw [HB.out]
      exact ⟨rfl, rfl⟩

theorem in_calls (a lo hi : Int) (w : World) :
    Calls Tryd.prog 42 #[.int .i64 a, .int .i64 lo, .int .i64 hi] w fun e w' => e = .returned (.bool (decide (lo ≤ a) && decide (a ≤ hi))) ∧ w = w' := by
  obtain ⟨R, hR⟩ : ∃ R, (decide (lo ≤ a) && decide (a ≤ hi)) = R := ⟨_, rfl⟩
  rw [hR]
  by_cases h1 : lo ≤ a
  · by_cases h2 : a ≤ hi
    · have HR : Hid (R = true) := by show _ = _; rw [← hR, decide_eq_true h1, decide_eq_true h2]; rfl
      clear hR
      go_enter Tryd.func42, Tryd.ntmps42
      go_wp2_with fail
      go_ret
      rw [HR.out]
      exact ⟨by simp, rfl⟩
    · have HR : Hid (R = false) := by show _ = _; rw [← hR, decide_eq_false h2]; simp
      clear hR
      go_enter Tryd.func42, Tryd.ntmps42
      go_wp2_with fail
      go_ret
      rw [HR.out]
      exact ⟨by simp, rfl⟩
  · have HR : Hid (R = false) := by show _ = _; rw [← hR, decide_eq_false h1]; simp
    clear hR
    go_enter Tryd.func42, Tryd.ntmps42
    go_wp2_with fail
    go_ret
    rw [HR.out]
    exact ⟨rfl, rfl⟩
theorem blank_calls (c : UInt8) (w : World) :
    Calls Tryd.prog 27 #[.int .u8 (c.toNat : Int)] w fun e w' => e = .returned (.bool (blankC c)) ∧ w = w' := by
  have HB : Hid (blankC c = (decide (c.toNat = 32) || decide (c.toNat = 9))) := by
    show _ = _
    unfold blankC
    rw [Bool.eq_iff_iff]
    simp [← UInt8.toNat_inj]
  obtain ⟨n, hn⟩ : ∃ n, c.toNat = n := ⟨_, rfl⟩
  rw [hn] at HB ⊢
  clear hn
  by_cases h1 : n = 32
  · have HR : Hid (blankC c = true) := by show _ = _; rw [HB.out, decide_eq_true h1]; rfl
    have q1 : ((n : Int) == 32) = true := by rw [beq_iff_eq]; omega
    go_enter Tryd.func27, Tryd.ntmps27
    go_wp2_with fail
    go_ret
    rw [HR.out]
    exact ⟨rfl, rfl⟩
  · have q1 : ((n : Int) == 32) = false := by rw [beq_eq_false_iff_ne]; omega
    by_cases h2 : n = 9
    · have HR : Hid (blankC c = true) := by show _ = _; rw [HB.out, decide_eq_true h2]; simp
      have q2 : ((n : Int) == 9) = true := by rw [beq_iff_eq]; omega
      go_enter Tryd.func27, Tryd.ntmps27
      go_wp2_with fail
      go_ret
      rw [HR.out]
      exact ⟨rfl, rfl⟩
    · have HR : Hid (blankC c = false) := by show _ = _; rw [HB.out, decide_eq_false h1, decide_eq_false h2]; rfl
      have q2 : ((n : Int) == 9) = false := by rw [beq_eq_false_iff_ne]; omega
      go_enter Tryd.func27, Tryd.ntmps27
      go_wp2_with fail
      go_ret
      rw [HR.out]
      exact ⟨rfl, rfl⟩

theorem trim_calls (s : ByteArray) (w : World) (hs : s.size ≤ 1000000) :
    Calls Tryd.prog 31 #[.string s, .string ⟨#[32, 9]⟩] w fun e w' => e = .returned (.string (trimB s)) ∧ Below w.heap.size w w' := by
  refine Calls.mono (Any.strings_Trim_laid Tryd.lays160 (by kernel_rfl) s ⟨#[32, 9]⟩ w (by omega) (by decide) (ascii_of_all (by decide))) ?_
  rintro e w' ⟨rfl, hb⟩
  exact ⟨rfl, hb⟩
theorem toL_iff {a b : ByteArray} : a.toList = b.toList ↔ a = b := by
  constructor
  · intro h
    rw [Lib.toList_data, Lib.toList_data] at h
    cases a; cases b
    simpa using h
  · rintro rfl; rfl

theorem lineS_split (s : ByteArray) (h : s.data.toList.all lineC = true) : lineS s = decide (trimB s = s) := by
  unfold lineS
  rw [h, Bool.true_and]
theorem lineS_no (s : ByteArray) (h : s.data.toList.all lineC = false) : lineS s = false := by
  unfold lineS
  rw [h]
  simp
end Go.Proofs.YtpiobckemlkomaaDoor
