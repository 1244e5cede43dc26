/- The walks of shelf.Choice, stevedoreref.Choice and ShelfChooses. -/
import Derived.Test.YtnfnebfioibndaaChecked
import Derived.WalkKit
import Derived.WalkLawsBesides
import Derived.WalkSpells
import Derived.Deep.QuietTactic
import Derived.BigQuiet
import Derived.Below
import Derived.Handy
namespace Go.Proofs.Ytnfnebfioibndaa
open Go.RowKit

/-- A pointer to a string that may be nil. -/
inductive PS (w : World) : Value → Option ByteArray → Prop
  | nil : PS w (.pointer none) none
  | at (a : Addr) (s : ByteArray) (h : w.cell? a = some (.string s)) : PS w (.pointer (some a)) (some s)

theorem PS.drewN {w : World} {v : Value} {o : Option ByteArray} (h : PS w v o) (n : Nat) : PS (w.drewN n) v o := by
  cases h with
  | nil => exact .nil
  | «at» a s h => exact .at a s (by simpa using h)

def sameB (a b : Option ByteArray) : Bool := match a, b with
  | some x, some y => x.toList == y.toList
  | _, _ => false

theorem same_calls {va vb : Value} {a b : Option ByteArray} (w : World) (ha : PS w va a) (hb : PS w vb b) :
    Calls Try.prog 11 #[va, vb] w fun e w' => e = .returned (.bool (sameB a b)) ∧ ∃ n, w' = w.drewN n := by
  cases ha with
  | nil =>
    cases hb with
    | nil =>
      go_enter Try.func11, Try.ntmps11
      go_wp2
      go_quiet (fail)
      go_wp2
      go_ret
      exact ⟨rfl, _, rfl⟩
    | «at» q y hy =>
      go_enter Try.func11, Try.ntmps11
      go_wp2
      go_quiet (fail)
      go_wp2
      go_ret
      exact ⟨rfl, _, rfl⟩
  | «at» p x hx =>
    cases hb with
    | nil =>
      go_enter Try.func11, Try.ntmps11
      go_wp2
      go_quiet (fail)
      go_wp2
      go_ret
      exact ⟨rfl, _, rfl⟩
    | «at» q y hy =>
      go_enter Try.func11, Try.ntmps11
      go_wp2
      go_quiet (fail)
      go_wp2
      go_ret
      exact ⟨rfl, _, rfl⟩

theorem refSame_calls {va vb : Value} {a b : Option ByteArray} (w : World) (ha : PS w va a) (hb : PS w vb b) :
    Calls Try.prog 12 #[va, vb] w fun e w' => e = .returned (.bool (sameB a b)) ∧ ∃ n, w' = w.drewN n := by
  cases ha with
  | nil =>
    cases hb with
    | nil =>
      go_enter Try.func12, Try.ntmps12
      go_wp2
      go_ret
      exact ⟨rfl, 0, rfl⟩
    | «at» q y hy =>
      go_enter Try.func12, Try.ntmps12
      go_wp2
      go_ret
      exact ⟨rfl, 0, rfl⟩
  | «at» p x hx =>
    cases hb with
    | nil =>
      go_enter Try.func12, Try.ntmps12
      go_wp2
      go_ret
      exact ⟨rfl, 0, rfl⟩
    | «at» q y hy =>
      go_enter Try.func12, Try.ntmps12
      go_wp2
      go_quiet (fail)
      go_wp2
      go_ret
      exact ⟨rfl, _, rfl⟩

def choiceV (old now next : Option ByteArray) : Int :=
  if next.isNone then 1
  else if old.isNone && now.isNone then 0
  else if sameB now next then 1
  else if old.isNone then 2
  else if sameB old next then 1
  else if sameB now old then 0
  else 2


set_option maxHeartbeats 1600000 in
theorem choice_calls {va vb vc : Value} {a b c : Option ByteArray} (w : World) (ha : PS w va a) (hb : PS w vb b) (hc : PS w vc c) :
    Calls Try.prog 6 #[va, vb, vc] w fun e w' => e = .returned (.int .i64 (choiceV a b c)) ∧ ∃ n, w' = w.drewN n := by
  cases hc with
  | nil =>
    go_enter Try.func6, Try.ntmps6
    go_wp2
    go_ret
    exact ⟨rfl, 0, rfl⟩
  | «at» r z hz =>
    have PC := PS.at r z hz
    have PN := PS.nil (w := w)
    cases ha with
    | nil =>
      cases hb with
      | nil =>
        go_enter Try.func6, Try.ntmps6
        go_wp2
        go_ret
        exact ⟨rfl, 0, rfl⟩
      | «at» q y hy =>
        have PB := PS.at q y hy
        go_enter Try.func6, Try.ntmps6
        go_wp2_with (go_at_call 11; refine (same_calls _ (by first | assumption | exact PS.drewN (by assumption) _) (by first | assumption | exact PS.drewN (by assumption) _)).mono ?_; rintro e w' ⟨rfl, n, rfl⟩)
        all_goals (go_ret; refine ⟨by simp [choiceV, *], ?_⟩; first | exact ⟨_, rfl⟩ | exact ⟨_, (World.drewN_add ..).symm⟩ | simp)
    | «at» p x hx =>
      have PA := PS.at p x hx
      cases hb with
      | nil =>
        go_enter Try.func6, Try.ntmps6
        go_wp2_with (go_at_call 11; refine (same_calls _ (by first | assumption | exact PS.drewN (by assumption) _) (by first | assumption | exact PS.drewN (by assumption) _)).mono ?_; rintro e w' ⟨rfl, n, rfl⟩)
        all_goals (go_ret; refine ⟨by simp [choiceV, *], ?_⟩; first | exact ⟨_, rfl⟩ | exact ⟨_, (World.drewN_add ..).symm⟩ | simp)
      | «at» q y hy =>
        have PB := PS.at q y hy
        go_enter Try.func6, Try.ntmps6
        go_wp2_with (go_at_call 11; refine (same_calls _ (by first | assumption | exact PS.drewN (by assumption) _) (by first | assumption | exact PS.drewN (by assumption) _)).mono ?_; rintro e w' ⟨rfl, n, rfl⟩)
        all_goals (go_ret; refine ⟨by simp [choiceV, *], ?_⟩; first | exact ⟨_, rfl⟩ | exact ⟨_, (World.drewN_add ..).symm⟩ | simp)

set_option maxHeartbeats 1600000 in
theorem refChoice_calls {va vb vc : Value} {a b c : Option ByteArray} (w : World) (ha : PS w va a) (hb : PS w vb b) (hc : PS w vc c) :
    Calls Try.prog 7 #[va, vb, vc] w fun e w' => e = .returned (.int .i64 (choiceV a b c)) ∧ ∃ n, w' = w.drewN n := by
  cases hc with
  | nil =>
    go_enter Try.func7, Try.ntmps7
    go_wp2
    go_ret
    exact ⟨rfl, 0, rfl⟩
  | «at» r z hz =>
    have PC := PS.at r z hz
    have PN := PS.nil (w := w)
    cases ha with
    | nil =>
      cases hb with
      | nil =>
        go_enter Try.func7, Try.ntmps7
        go_wp2
        go_ret
        exact ⟨rfl, 0, rfl⟩
      | «at» q y hy =>
        have PB := PS.at q y hy
        go_enter Try.func7, Try.ntmps7
        go_wp2_with (go_at_call 12; refine (refSame_calls _ (by first | assumption | exact PS.drewN (by assumption) _) (by first | assumption | exact PS.drewN (by assumption) _)).mono ?_; rintro e w' ⟨rfl, n, rfl⟩)
        all_goals (go_ret; refine ⟨by simp [choiceV, *], ?_⟩; first | exact ⟨_, rfl⟩ | exact ⟨_, (World.drewN_add ..).symm⟩ | simp)
    | «at» p x hx =>
      have PA := PS.at p x hx
      cases hb with
      | nil =>
        go_enter Try.func7, Try.ntmps7
        go_wp2_with (go_at_call 12; refine (refSame_calls _ (by first | assumption | exact PS.drewN (by assumption) _) (by first | assumption | exact PS.drewN (by assumption) _)).mono ?_; rintro e w' ⟨rfl, n, rfl⟩)
        all_goals (go_ret; refine ⟨by simp [choiceV, *], ?_⟩; first | exact ⟨_, rfl⟩ | exact ⟨_, (World.drewN_add ..).symm⟩ | simp)
      | «at» q y hy =>
        have PB := PS.at q y hy
        go_enter Try.func7, Try.ntmps7
        go_wp2_with (go_at_call 12; refine (refSame_calls _ (by first | assumption | exact PS.drewN (by assumption) _) (by first | assumption | exact PS.drewN (by assumption) _)).mono ?_; rintro e w' ⟨rfl, n, rfl⟩)
        all_goals (go_ret; refine ⟨by simp [choiceV, *], ?_⟩; first | exact ⟨_, rfl⟩ | exact ⟨_, (World.drewN_add ..).symm⟩ | simp)

end Go.Proofs.Ytnfnebfioibndaa
