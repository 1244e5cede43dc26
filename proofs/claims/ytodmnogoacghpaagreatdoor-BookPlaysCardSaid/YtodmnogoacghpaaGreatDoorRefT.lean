/- The document's Start: what the loop carries (pure). -/
import Derived.Test.YtodmnogoacghpaaGreatDoorRefW
namespace Go.Proofs.YtodmnogoacghpaaGreatDoor
open Go.RowKit Go.Maps
set_option maxRecDepth 100000
set_option maxHeartbeats 4000000
theorem app_nil {a b : ByteArray} (h : b.size = 0) : a ++ b = a := by
  have e : b = ByteArray.empty := ByteArray.size_eq_zero_iff.1 h
  rw [e, ByteArray.append_empty]
/-- What a start has made of the files that the loop has met. -/
def partV (keeps : Int) (fs : FS) (left : ByteArray → Bool) (z : ByteArray) : Option ByteArray := if left z then none else (fget fs z).bind (startF keeps)
def RPart (w : World) (G : List Nat) (keeps : Int) (fs : FS) (left : ByteArray → Bool) (m : MapF) : Prop :=
  ∀ z, (partV keeps fs left z = none → m z = none) ∧ ∀ t, partV keeps fs left z = some t → ∃ pv, m z = some (stateV ⟨t, some t⟩ pv) ∧ SafeP w G (some t) pv
theorem RPart.keep {w w' : World} {G : List Nat} {keeps : Int} {fs : FS} {left : ByteArray → Bool} {m : MapF} (h : RPart w G keeps fs left m) (hk : ∀ k ∈ G, w'.heap[k]? = w.heap[k]?) : RPart w' G keeps fs left m := fun z =>
  ⟨(h z).1, fun t ht => by obtain ⟨pv, h1, h2⟩ := (h z).2 t ht; exact ⟨pv, h1, h2.keep hk⟩⟩
theorem RPart.start {w : World} {keeps : Int} {fs : FS} {left : ByteArray → Bool} (hl : ∀ z, left z = (fget fs z).isSome) : RPart w [] keeps fs left (fun _ => none) := fun z => by
  have : partV keeps fs left z = none := by
    unfold partV
    rw [hl z]
    cases fget fs z <;> simp
  exact ⟨fun _ => rfl, fun t ht => by rw [this] at ht; cases ht⟩
theorem RPart.done {w : World} {G : List Nat} {keeps : Int} {fs : FS} {left : ByteArray → Bool} {m : MapF} (h : RPart w G keeps fs left m) (hn : NodupK fs) (hl : ∀ z, left z = false) : RMap w G m (startFs keeps fs) := fun z => by
  have e : partV keeps fs left z = (fget fs z).bind (startF keeps) := by unfold partV; rw [hl z]; rfl
  rw [startFs_get keeps hn]
  obtain ⟨h1, h2⟩ := h z
  rw [e] at h1 h2
  cases hx : fget fs z with
  | none =>
    rw [hx] at h1
    exact ⟨fun _ => h1 rfl, fun y hy => (by cases hy)⟩
  | some x =>
    rw [hx] at h1 h2
    cases hs : startF keeps x with
    | none => exact ⟨fun _ => h1 hs, fun y hy => (by simp [hs] at hy)⟩
    | some t =>
      refine ⟨fun hy => (by simp [hs] at hy), fun y hy => ?_⟩
      simp [hs] at hy
      subst hy
      exact h2 t hs
theorem RPart.skip {w : World} {G : List Nat} {keeps : Int} {fs : FS} {left : ByteArray → Bool} {m : MapF} (h : RPart w G keeps fs left m) {s : ByteArray} {x : FileD} (hl : left s = true) (hx : fget fs s = some x) (hs : startF keeps x = none) : RPart w G keeps fs (tookL left s) m := fun z => by
  have e : partV keeps fs (tookL left s) z = partV keeps fs left z := by
    unfold partV tookL
    by_cases e : z = s
    · subst e; simp [hl, hx, hs]
    · simp [e]
  rw [e]
  exact h z
theorem RPart.put {w : World} {G G' : List Nat} {keeps : Int} {fs : FS} {left : ByteArray → Bool} {m : MapF} (h : RPart w G keeps fs left m) (hG : ∀ k ∈ G, k ∈ G') {s t : ByteArray} {x : FileD} (hx : fget fs s = some x) (hs : startF keeps x = some t) {pv : Value} (hp : SafeP w G' (some t) pv) : RPart w G' keeps fs (tookL left s) (putM m s (some (stateV ⟨t, some t⟩ pv))) := fun z => by
  by_cases e : z = s
  · subst e
    have e1 : partV keeps fs (tookL left z) z = some t := by unfold partV tookL; simp [hx, hs]
    rw [e1, putM_same]
    exact ⟨fun h => (by cases h), fun t' ht => by injection ht with ht; subst ht; exact ⟨pv, rfl, hp⟩⟩
  · have e1 : partV keeps fs (tookL left s) z = partV keeps fs left z := by unfold partV tookL; simp [e]
    rw [e1, putM_ne _ _ e]
    exact ⟨(h z).1, fun t' ht => by obtain ⟨pv, h1, h2⟩ := (h z).2 t' ht; exact ⟨pv, h1, h2.more hG⟩⟩
end Go.Proofs.YtodmnogoacghpaaGreatDoor
