/- The walk of OrderHolds, at any edges. -/
import Derived.Test.YtnfnebfioibndaaHoldsL
namespace Go.Proofs.Ytnfnebfioibndaa
open Go.RowKit
set_option maxRecDepth 100000
set_option maxHeartbeats 4000000

theorem orderHolds_calls (v1 v2 : Value) (weak strong : List EdgeD) (n : Int) (w : World) (hE : Edges w v1 weak) (hE2 : Edges w v2 strong) :
    Calls Try.prog 4 #[.int .i64 n, v1, v2] w fun e w' => e = .returned (.bool true) ∧ Below w.heap.size w w' := by
  by_cases hs : weak.length ≤ 60 ∧ strong.length ≤ 60 ∧ lineR n weak strong = (0, -1)
  · obtain ⟨h1, h2, hr⟩ := hs
    have hr1 : rightR n weak = (0, -1) := by
      unfold lineR at hr
      split at hr
      · assumption
      · exact hr
    obtain ⟨k, rfl, _, _⟩ := right_fine hr1
    exact holds_good v1 v2 weak strong k w hE hE2 hr h1 h2
  have HE1 := Lib.hid hE
  have HE2 := Lib.hid hE2
  obtain ⟨wa, wc', hv1, hwc, hwm, -⟩ := hE
  obtain ⟨sa, sc, hv2, hsc, hsm, -⟩ := hE2
  unfold maxLen at hwm hsm
  obtain ⟨m1, hm1⟩ : ∃ m, weak.length = m := ⟨_, rfl⟩
  obtain ⟨m2, hm2⟩ : ∃ m, strong.length = m := ⟨_, rfl⟩
  rw [hm1] at hwc hv1 hs
  rw [hm2] at hsc hv2 hs
  subst hv1
  subst hv2
  have Hm1 := Lib.hid hm1
  have Hm2 := Lib.hid hm2
  clear hm1 hm2
  by_cases h60 : 60 < m1
  · have e1 : decide (((m1 : Nat) : Int) > 60) = true := decide_eq_true (by omega)
    clear hs
    go_enter Try.func4, Try.ntmps4
    go_wp2_with fail
    go_ret
    exact ⟨rfl, Below.refl _ _⟩
  · have e1 : decide (((m1 : Nat) : Int) > 60) = false := decide_eq_false (by omega)
    by_cases k60 : 60 < m2
    · have e2 : decide (((m2 : Nat) : Int) > 60) = true := decide_eq_true (by omega)
      clear hs
      go_enter Try.func4, Try.ntmps4
      go_wp2_with fail
      go_ret
      exact ⟨rfl, Below.refl _ _⟩
    · have e2 : decide (((m2 : Nat) : Int) > 60) = false := decide_eq_false (by omega)
      have Hr : Hid (lineR n weak strong ≠ (0, -1)) := fun h => hs ⟨by omega, by omega, h⟩
      clear hs
      go_enter Try.func4, Try.ntmps4
      go_wp2_with fail
      refine (lineup_calls w).mono ?_
      rintro e w1 ⟨rfl, hb1⟩
      have HB1 := Lib.hid hb1
      have CL := Lib.hid (line_calls _ _ weak strong n w1 (HE1.out.below hb1 (Nat.le_refl _)) (HE2.out.below hb1 (Nat.le_refl _)) (by have := Hm1.out; omega) (by have := Hm2.out; omega))
      clear hb1
      go_wp2_with fail
      refine CL.out.mono ?_
      rintro e w2 ⟨lv, ev, xs, rfl, hEv, hR, -, hg, hb2⟩
      obtain ⟨t, y, rfl⟩ := hEv.bad Hr.out
      have HB2 := Lib.hid (HB1.out.trans (hb2.mono HB1.out.size))
      clear hEv hR hg hb2 CL
      go_wp2_with fail
      go_ret
      exact ⟨rfl, HB2.out⟩
end Go.Proofs.Ytnfnebfioibndaa
