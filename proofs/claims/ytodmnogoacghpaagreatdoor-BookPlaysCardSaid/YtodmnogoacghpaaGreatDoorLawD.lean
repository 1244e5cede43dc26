/- The disk's law: bare, sameTexts (at two rows of the same texts). -/
import Derived.Test.YtodmnogoacghpaaGreatDoorRefN
namespace Go.Proofs.YtodmnogoacghpaaGreatDoor
open Go.RowKit
set_option maxRecDepth 100000
set_option maxHeartbeats 4000000

theorem errV_is (k : Int) (w : World) : ErrV w (errV k) k (-1) := by
  by_cases h : k = 0
  · subst h; exact .nil
  · rw [errV_some h]; exact .no k
theorem drewN_belowD {B : Nat} {a w : World} (h : Below B a w) (n : Nat) : Below B a (w.drewN n) := ⟨h.os, h.tape, h.output, h.size, h.block⟩
theorem dbare_calls (k j : Int) (w : World) (hv : ErrVar w) : Calls Tryz.prog 6 #[errV k, .int .i64 j] w fun e w' => e = .returned (.bool (k == j)) ∧ Below w.heap.size w w' := by
  refine (bare_calls (errV k) k (-1) j w hv (errV_is k w)).mono ?_
  rintro e w' ⟨rfl, h⟩
  exact ⟨by simp, h⟩

theorem sameTexts_calls (va vb : Value) (xs : List ByteArray) (w : World) (ha : Strs w va xs) (hb : Strs w vb xs) :
    Calls Tryz.prog 15 #[va, vb] w fun e w' => e = .returned (.bool true) ∧ Below w.heap.size w w' := by
  obtain ⟨aa, ca, rfl, hca, hma, hcella⟩ := ha.1
  obtain ⟨ab, cb, rfl, hcb, hmb, hcellb⟩ := hb.1
  unfold maxLen at hma hmb
  clear ha hb
  obtain ⟨n, hn⟩ : ∃ n, xs.length = n := ⟨_, rfl⟩
  rw [hn] at hca hcb hcella hcellb ⊢
  have Ha := Lib.hid hcella
  have Hb := Lib.hid hcellb
  have tn : (n != n) = false := by simp
  clear hcella hcellb hn
  go_enter Tryz.func15, Tryz.ntmps15
  go_wp2_with fail
  go_loopg [5] n (fun k v5 wr => ∃ i : Nat, v5 = .int .i64 i ∧ i ≤ n ∧ k = n - i ∧ Below w.heap.size w wr)
  case atStart => exact ⟨0, rfl, Nat.zero_le _, rfl, Below.refl _ _⟩
  case round =>
    obtain ⟨i, rfl, hi, hk, hB⟩ := hrel
    have Hk := Lib.hid hk
    clear hk
    by_cases hlt : i < n
    · obtain ⟨b1, o1, rfl, hb1, hc1⟩ := Ha.out.resolve_left (by omega)
      obtain ⟨b2, o2, rfl, hb2, hc2⟩ := Hb.out.resolve_left (by omega)
      obtain ⟨x, hx⟩ : ∃ x, xs.getD i ⟨#[]⟩ = x := ⟨_, rfl⟩
      have d1 : wr.cell? ⟨b1, o1 + i, none⟩ = some (.string x) := (hB.cell (p := ⟨b1, o1 + i, none⟩) hb1).trans (by
        have h1 : w.cell? ⟨b1, o1 + i * 1 + 0, none⟩ = some (.string (xs.getD i ⟨#[]⟩)) := hc1 i 0 hlt (by decide)
        rw [hx] at h1
        simpa using h1)
      have d2 : wr.cell? ⟨b2, o2 + i, none⟩ = some (.string x) := (hB.cell (p := ⟨b2, o2 + i, none⟩) hb2).trans (by
        have h1 : w.cell? ⟨b2, o2 + i * 1 + 0, none⟩ = some (.string (xs.getD i ⟨#[]⟩)) := hc2 i 0 hlt (by decide)
        rw [hx] at h1
        simpa using h1)
      have tx : (x.toList == x.toList) = true := by simp
      clear hc1 hc2 hx
      go_wp2_with fail
      go_quiet (fail)
      go_wp2_with fail
      go_roundg (n - (i + 1))
      case rel => exact ⟨i + 1, by go_num, by omega, rfl, drewN_belowD hB _⟩
      case measure => have := Hk.out; omega
    · go_wp2_with fail
      go_ret
      exact ⟨rfl, hB⟩
end Go.Proofs.YtodmnogoacghpaaGreatDoor
