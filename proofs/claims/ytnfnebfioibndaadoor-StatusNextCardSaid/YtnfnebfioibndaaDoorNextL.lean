/- The walk of StatusNext. -/
import Derived.Test.YtnfnebfioibndaaDoorNext
namespace Go.Proofs.YtnfnebfioibndaaDoor
open Go.RowKit

set_option maxHeartbeats 1000000 in
theorem statusNext_calls (s e : Int) (w : World) (hA : TabA w) (hR : TabR w) (hE : ErrVar w) :
    Calls Tryd.prog 3 #[.int .i64 s, .int .i64 e] w fun ev w' => ev = .returned (.bool true) ∧ Below w.heap.size w w' := by
  have h1 := refNext_calls s e w hR
  have h2 := next_calls s e w hA
  have h3 := bare_calls (errOf (nextE s e)) (nextE s e) (-1) (nextE s e) w hE (errOf_v w _)
  have hm := fun w' (hb : Below w.heap.size w w') => may_calls s e w' (hA.below hb)
  clear hA hR hE
  generalize nextN s e = n at *
  generalize nextE s e = k at *
  generalize errOf k = ev at *
  have hk : (k == k && (-1 : Int) == -1) = true := by simp
  rw [hk] at h3
  clear hk
  have H1 := Lib.hid h1
  have H2 := Lib.hid h2
  have H3 := Lib.hid h3
  have HM := Lib.hid hm
  clear h1 h2 h3 hm
  go_enter Tryd.func3, Tryd.ntmps3
  go_wp2_with fail
  refine H1.out.mono ?_
  rintro ev1 w1 ⟨rfl, rfl⟩
  go_wp2_with fail
  refine H2.out.mono ?_
  rintro ev1 w1 ⟨rfl, rfl⟩
  go_wp2_with fail
  refine H3.out.mono ?_
  rintro ev1 w1 ⟨rfl, hb⟩
  go_wp2_with fail
  refine (HM.out w1 hb).mono ?_
  rintro ev2 w2 ⟨rfl, rfl⟩
  go_wp2
  go_ret
  exact ⟨by simp, hb⟩
end Go.Proofs.YtnfnebfioibndaaDoor
