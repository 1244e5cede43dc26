/- The walk of ShelfChooses. -/
import Derived.Test.YtnfnebfioibndaaChoiceW
namespace Go.Proofs.Ytnfnebfioibndaa
open Go.RowKit

theorem pick_calls (v : Value) (bit there : Int) (p : Addr) (w : World) (h : w.cell? p = some (.int .i64 there)) :
    Calls Try.prog 5 #[v, .int .i64 bit, .pointer (some p)] w fun e w' => e = .returned (if bits .and .i64 there bit == 0 then .pointer none else v) ∧ w = w' := by
  go_enter Try.func5, Try.ntmps5
  go_wp2
  all_goals go_ret
  all_goals exact ⟨by simp [*], rfl⟩

def pickO (there bit : Int) (s : ByteArray) : Option ByteArray := if bits .and .i64 there bit == 0 then none else some s

theorem pick_ps (bit there : Int) (q p : Addr) (s : ByteArray) (w : World) (h : w.cell? p = some (.int .i64 there)) (hs : w.cell? q = some (.string s)) :
    Calls Try.prog 5 #[.pointer (some q), .int .i64 bit, .pointer (some p)] w fun e w' => ∃ r, e = .returned r ∧ PS w r (pickO there bit s) ∧ w = w' := by
  refine (pick_calls _ bit there p w h).mono ?_
  rintro e w' ⟨rfl, rfl⟩
  refine ⟨_, rfl, ?_, rfl⟩
  unfold pickO
  split
  · exact .nil
  · exact .at q s hs

set_option maxHeartbeats 1600000 in
theorem shelfChooses_calls (a b c : ByteArray) (there : Int) (w : World) :
    Calls Try.prog 3 #[.string a, .string b, .string c, .int .i64 there] w fun e w' => e = .returned (.bool true) ∧ Below w.heap.size w w' := by
  go_enter Try.func3, Try.ntmps3
  go_wp2_with fail
  refine (pick_ps _ there _ _ a _ ?h1 ?h2).mono ?_
  case h1 => simp [go_sem]
  case h2 => simp [go_sem]
  rintro e w' ⟨r1, rfl, hr1, rfl⟩
  go_wp2_with fail
  refine (pick_ps _ there _ _ b _ ?h3 ?h4).mono ?_
  case h3 => simp [go_sem]
  case h4 => simp [go_sem]
  rintro e w' ⟨r2, rfl, hr2, rfl⟩
  go_wp2_with fail
  refine (pick_ps _ there _ _ c _ ?h5 ?h6).mono ?_
  case h5 => simp [go_sem]
  case h6 => simp [go_sem]
  rintro e w' ⟨r3, rfl, hr3, rfl⟩
  go_wp2_with fail
  refine (choice_calls _ hr1 hr2 hr3).mono ?_
  rintro e w' ⟨rfl, n, rfl⟩
  go_wp2_with fail
  refine (refChoice_calls _ (hr1.drewN _) (hr2.drewN _) (hr3.drewN _)).mono ?_
  rintro e w' ⟨rfl, m, rfl⟩
  go_wp2
  go_ret
  refine ⟨by simp, ?_⟩

  refine below_drewN ?_ _
  go_grown
end Go.Proofs.Ytnfnebfioibndaa
