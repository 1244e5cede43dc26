/- stevedorelaw.sameInts, at two rows of the same numbers. -/
import Derived.Test.YtnfnebfioibndaaDoorVisit
namespace Go.Proofs.YtnfnebfioibndaaDoor
open Go.RowKit
set_option maxRecDepth 100000
set_option maxHeartbeats 2000000

theorem sameInts_calls (va vb : Value) (xs : List Nat) (w : World) (ha : Row w va xs) (hb : Row w vb xs) :
    Calls Tryd.prog 29 #[va, vb] w fun e w' => e = .returned (.bool true) ∧ Below w.heap.size w w' := by
  obtain ⟨aa, ca, rfl, hca, hma, hcella⟩ := ha
  obtain ⟨ab, cb, rfl, hcb, hmb, hcellb⟩ := hb
  unfold maxLen at hma hmb
  obtain ⟨n, hn⟩ : ∃ n, xs.length = n := ⟨_, rfl⟩
  rw [hn] at hca hcb hcella hcellb ⊢
  have Ha := Lib.hid hcella
  have Hb := Lib.hid hcellb
  have tn : (n != n) = false := by simp
  clear hcella hcellb hn
  go_enter Tryd.func29, Tryd.ntmps29
  go_wp2_with fail
  go_loopg [5] n (fun k v5 wr => ∃ i : Nat, v5 = .int .i64 i ∧ i ≤ n ∧ k = n - i ∧ Below w.heap.size w wr)
  case atStart => exact ⟨0, rfl, Nat.zero_le _, rfl, Below.refl _ _⟩
  case round =>
    obtain ⟨i, rfl, hi, hk, hB⟩ := hrel
    have Hk := Lib.hid hk
    clear hk
    by_cases hlt : i < n
    · obtain ⟨b1, o1, rfl, hb1, hc1⟩ := Ha.out.resolve_left (by omega)
      obtain ⟨b2, o2, rfl, hb2, hc2⟩ := Hb.out.resolve_left (by omega)
      obtain ⟨x, hx⟩ : ∃ x, xs.getD i 0 = x := ⟨_, rfl⟩
      have d1 : wr.cell? ⟨b1, o1 + i, none⟩ = some (.int .i64 ((x : Nat) : Int)) := (hB.cell (p := ⟨b1, o1 + i, none⟩) hb1).trans (by
        have h1 : w.cell? ⟨b1, o1 + i * 1 + 0, none⟩ = some (.int .i64 (((xs.getD i 0 : Nat)) : Int)) := hc1 i 0 hlt (by decide)
        rw [hx] at h1
        simpa using h1)
      have d2 : wr.cell? ⟨b2, o2 + i, none⟩ = some (.int .i64 ((x : Nat) : Int)) := (hB.cell (p := ⟨b2, o2 + i, none⟩) hb2).trans (by
        have h1 : w.cell? ⟨b2, o2 + i * 1 + 0, none⟩ = some (.int .i64 (((xs.getD i 0 : Nat)) : Int)) := hc2 i 0 hlt (by decide)
        rw [hx] at h1
        simpa using h1)
      have tx : (x != x) = false := by simp
      clear hc1 hc2 hx
      go_wp2_with fail
      go_quiet (fail)
      go_wp2_with fail
      go_roundg (n - (i + 1))
      case rel => exact ⟨i + 1, by go_num, by omega, rfl, drewN_below hB _⟩
      case measure => have := Hk.out; omega
    · go_wp2_with fail
      go_ret
      exact ⟨rfl, hB⟩
end Go.Proofs.YtnfnebfioibndaaDoor
