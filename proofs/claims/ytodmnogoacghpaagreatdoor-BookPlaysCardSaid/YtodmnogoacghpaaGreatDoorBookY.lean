/- The law's line: what a line may be. -/
import Derived.Test.YtodmnogoacghpaaGreatDoorBookV
import Derived.Test.YtodmnogoacghpaaGreatDoorLawD
import Derived.Test.YtodmnogoacghpaaGreatDoorRefW
namespace Go.Proofs.YtodmnogoacghpaaGreatDoor
open Go.RowKit
set_option maxRecDepth 100000
set_option maxHeartbeats 4000000

def tlAt (s : ByteArray) (i : Nat) : Bool := (s.toList.getD i 0 == 9) || (s.toList.getD i 0 == 10)
theorem tl_take {l : List UInt8} {i : Nat} {b : UInt8} (h : l[i]? = some b) : hasTL (l.take (i + 1)) = (hasTL (l.take i) || (b == 9 || b == 10)) := by
  unfold hasTL
  obtain ⟨h1, h2⟩ := List.getElem?_eq_some_iff.1 h
  rw [List.take_succ_eq_append_getElem h1, List.any_append, h2]
  simp
theorem tl_more {l : List UInt8} (i : Nat) (h : hasTL (l.take i) = true) : hasTL l = true := by
  unfold hasTL at *
  rw [List.any_eq_true] at *
  obtain ⟨x, hx, h⟩ := h
  exact ⟨x, List.mem_of_mem_take hx, h⟩
theorem tl_app (a b : ByteArray) : hasTL (a ++ b).data.toList = (hasTL a.data.toList || hasTL b.data.toList) := by
  unfold hasTL
  rw [ByteArray.data_append, Array.toList_append, List.any_append]
theorem at_get (s : ByteArray) (i : Nat) (h : i < s.size) : s.data.toList[i]? = some (s[i]'h) := by
  have hj' : i < s.data.size := h
  rw [Array.getElem?_toList, Array.getElem?_eq_getElem hj']
  rfl
theorem line_calls (n v : ByteArray) (w : World) (hn : n.size ≤ 60) (hv : v.size ≤ 400) :
    Calls Tryz.prog 8 #[.string n, .string v] w fun e w' => e = .returned (.bool (rightB n v)) ∧ w = w' := by
  by_cases h1 : n.size < 1
  · have HR : Hid (rightB n v = false) := by
      show _ = _
      unfold rightB
      have : ¬ 1 ≤ n.size := by omega
      simp [this]
    have e1 : decide ((n.size : Int) < 1) = true := decide_eq_true (by omega)
    go_enter Tryz.func8, Tryz.ntmps8
    go_wp2_with fail
    go_ret
    rw [HR.out]
    exact ⟨rfl, rfl⟩
  by_cases h2 : 24 < n.size
  · have HR : Hid (rightB n v = false) := by
      show _ = _
      unfold rightB
      have : ¬ n.size ≤ 24 := by omega
      simp [this]
    have e1 : decide ((n.size : Int) < 1) = false := decide_eq_false (by omega)
    have e2 : decide ((24 : Int) < n.size) = true := decide_eq_true (by omega)
    go_enter Tryz.func8, Tryz.ntmps8
    go_wp2_with fail
    go_ret
    rw [HR.out]
    exact ⟨rfl, rfl⟩
  by_cases h3 : 300 < v.size
  · have HR : Hid (rightB n v = false) := by
      show _ = _
      unfold rightB
      have : ¬ v.size ≤ 300 := by omega
      simp [this]
    have e1 : decide ((n.size : Int) < 1) = false := decide_eq_false (by omega)
    have e2 : decide ((24 : Int) < n.size) = false := decide_eq_false (by omega)
    have e3 : decide ((300 : Int) < v.size) = true := decide_eq_true (by omega)
    go_enter Tryz.func8, Tryz.ntmps8
    go_wp2_with fail
    go_ret
    rw [HR.out]
    exact ⟨rfl, rfl⟩
  have e1 : decide ((n.size : Int) < 1) = false := decide_eq_false (by omega)
  have e2 : decide ((24 : Int) < n.size) = false := decide_eq_false (by omega)
  have e3 : decide ((300 : Int) < v.size) = false := decide_eq_false (by omega)
  have HR : Hid (rightB n v = !hasTL (n ++ v).data.toList) := by
    show _ = _
    unfold rightB
    have q1 : 1 ≤ n.size := by omega
    have q2 : n.size ≤ 24 := by omega
    have q3 : v.size ≤ 300 := by omega
    simp [q1, q2, q3]
  go_enter Tryz.func8, Tryz.ntmps8
  go_wp2_with fail
  go_loopg [5] n.size (fun k v5 wr => ∃ i : Nat, v5 = .int .i64 i ∧ i ≤ n.size ∧ k = n.size - i ∧ wr = w ∧ hasTL (n.data.toList.take i) = false)
  case atStart => exact ⟨0, rfl, Nat.zero_le _, rfl, rfl, rfl⟩
  case round =>
    obtain ⟨i, rfl, hi, hk, hw, htl⟩ := hrel
    obtain rfl : w = wr := hw.symm
    have Hk := Lib.hid hk
    have Htl := Lib.hid htl
    clear hk htl
    by_cases hlt : i < n.size
    · have Hget := Lib.hid (tl_take (at_get n i hlt))
      by_cases x9 : (n[i]'hlt) = 9
      case' pos =>
        have HF : Hid (hasTL n.data.toList = true) := by
          show _ = _
          refine tl_more (i + 1) ?_
          rw [Hget.out, x9]
          simp
        have q : ((n[i].toNat : Nat) : Int) = 9 := by rw [x9]; rfl
        clear Hget
        go_wp2_with fail
        go_ret
        rw [HR.out, tl_app, HF.out, Bool.true_or]
        exact ⟨rfl, rfl⟩
      by_cases x10 : (n[i]'hlt) = 10
      case' pos =>
        have HF : Hid (hasTL n.data.toList = true) := by
          show _ = _
          refine tl_more (i + 1) ?_
          rw [Hget.out, x10]
          simp
        have q : ((n[i].toNat : Nat) : Int) = 10 := by rw [x10]; rfl
        clear Hget
        go_wp2_with fail
        go_ret
        rw [HR.out, tl_app, HF.out, Bool.true_or]
        exact ⟨rfl, rfl⟩
      have HN : Hid (hasTL (n.data.toList.take (i + 1)) = false) := by
        show _ = _
        rw [Hget.out, Htl.out]
        simp [x9, x10]
      have z9 : ¬ (n[i].toNat = 9) := fun h => x9 (UInt8.toNat_inj.1 h)
      have z10 : ¬ (n[i].toNat = 10) := fun h => x10 (UInt8.toNat_inj.1 h)
      have q9 : (((n[i].toNat : Nat) : Int) == 9) = false := by
        rw [beq_eq_false_iff_ne]
        omega
      have q10 : (((n[i].toNat : Nat) : Int) == 10) = false := by
        rw [beq_eq_false_iff_ne]
        omega
      clear Hget
      go_wp2_with fail
      go_roundg (n.size - (i + 1))
      case rel => exact ⟨i + 1, by go_num, by omega, rfl, rfl, HN.out⟩
      case measure => have := Hk.out; omega
    · obtain rfl : i = n.size := by omega
      have HA : Hid (hasTL n.data.toList = false) := by
        show _ = _
        have h := Htl.out
        have e : n.data.toList.take n.size = n.data.toList := List.take_length
        rw [e] at h
        exact h
      clear Htl
      have HA0 := Lib.hid HA.out
      clear HA
      go_wp2_with fail
      clear Hk hi
      go_loopg [6] v.size (fun k v5 wr => ∃ i : Nat, v5 = .int .i64 i ∧ i ≤ v.size ∧ k = v.size - i ∧ wr = w ∧ hasTL (v.data.toList.take i) = false)
      case atStart => exact ⟨0, rfl, Nat.zero_le _, rfl, rfl, rfl⟩
      case round =>
        obtain ⟨i, rfl, hi, hk, hw, htl⟩ := hrel
        obtain rfl : w = wr := hw.symm
        have Hk := Lib.hid hk
        have Htl := Lib.hid htl
        clear hk htl
        by_cases hlt : i < v.size
        · have Hget := Lib.hid (tl_take (at_get v i hlt))
          by_cases x9 : (v[i]'hlt) = 9
          case' pos =>
            have HF : Hid (hasTL v.data.toList = true) := by
              show _ = _
              refine tl_more (i + 1) ?_
              rw [Hget.out, x9]
              simp
            have q : ((v[i].toNat : Nat) : Int) = 9 := by rw [x9]; rfl
            clear Hget
            go_wp2_with fail
            go_ret
            rw [HR.out, tl_app, HF.out, Bool.or_true]
            exact ⟨rfl, rfl⟩
          by_cases x10 : (v[i]'hlt) = 10
          case' pos =>
            have HF : Hid (hasTL v.data.toList = true) := by
              show _ = _
              refine tl_more (i + 1) ?_
              rw [Hget.out, x10]
              simp
            have q : ((v[i].toNat : Nat) : Int) = 10 := by rw [x10]; rfl
            clear Hget
            go_wp2_with fail
            go_ret
            rw [HR.out, tl_app, HF.out, Bool.or_true]
            exact ⟨rfl, rfl⟩
          have HN : Hid (hasTL (v.data.toList.take (i + 1)) = false) := by
            show _ = _
            rw [Hget.out, Htl.out]
            simp [x9, x10]
          have z9 : ¬ (v[i].toNat = 9) := fun h => x9 (UInt8.toNat_inj.1 h)
          have z10 : ¬ (v[i].toNat = 10) := fun h => x10 (UInt8.toNat_inj.1 h)
          have q9 : (((v[i].toNat : Nat) : Int) == 9) = false := by
            rw [beq_eq_false_iff_ne]
            omega
          have q10 : (((v[i].toNat : Nat) : Int) == 10) = false := by
            rw [beq_eq_false_iff_ne]
            omega
          clear Hget
          go_wp2_with fail
          go_roundg (v.size - (i + 1))
          case rel => exact ⟨i + 1, by go_num, by omega, rfl, rfl, HN.out⟩
          case measure => have := Hk.out; omega
        · obtain rfl : i = v.size := by omega
          have HA : Hid (hasTL v.data.toList = false) := by
            show _ = _
            have h := Htl.out
            have e : v.data.toList.take v.size = v.data.toList := List.take_length
            rw [e] at h
            exact h
          clear Htl
          go_wp2_with fail
          go_ret
          rw [HR.out, tl_app, HA0.out, HA.out]
          exact ⟨rfl, rfl⟩
end Go.Proofs.YtodmnogoacghpaaGreatDoor
