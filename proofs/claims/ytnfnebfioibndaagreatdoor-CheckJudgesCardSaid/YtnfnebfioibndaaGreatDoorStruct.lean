/- Loads and stores of a great struct, by laws. -/
import Derived.Test.YtnfnebfioibndaaGreatDoorOne
import Derived.Deep.MidRow
namespace Go.Proofs.YtnfnebfioibndaaGreatDoor
open Go.RowKit
set_option maxRecDepth 10000
set_option maxHeartbeats 1000000

theorem rangeAt_nil (w : World) (b o : Nat) : w.rangeAt b o [] := fun j v h => by simp at h
theorem rangeAt_cons {w : World} {b o : Nat} {v : Value} {vs : List Value} (h : w.cell? ⟨b, o, none⟩ = some v) (hs : w.rangeAt b (o + 1) vs) : w.rangeAt b o (v :: vs) := by
  intro j x hx
  cases j with
  | zero => simp at hx; subst hx; exact h
  | succ j =>
    have := hs j x (by simpa using hx)
    rwa [show o + 1 + j = o + (j + 1) by omega] at this

theorem there_new (w : World) (cs : Array Value) (t : TypeId) (n : Nat) (h : cs.size = n) : (w.alloc (.cells cs t)).there w.heap.size 0 n := by
  intro j hj
  rw [Nat.zero_add]
  constructor
  · simp only [World.cell?_alloc_new]
    simp [h, hj]
  · simp [go_sem]

/-- A new block that is stored into, whole, at once. -/
theorem setCells_new (w : World) (zs : Array Value) (t : TypeId) (cs : List Value) (h : zs.size = cs.length) : (w.alloc (.cells zs t)).setCells w.heap.size 0 cs = w.alloc (.cells cs.toArray t) := by
  have key : ∀ (pre suf rest : List Value), pre.length + suf.length = pre.length + rest.length → (w.alloc (.cells (pre ++ suf).toArray t)).setCells w.heap.size pre.length rest = w.alloc (.cells (pre ++ rest).toArray t) := by
    intro pre suf rest
    induction rest generalizing pre suf with
    | nil =>
      intro hl
      have : suf = [] := List.eq_nil_of_length_eq_zero (by simpa using hl)
      subst this
      rfl
    | cons r rest ih =>
      intro hl
      cases suf with
      | nil => simp at hl
      | cons s suf =>
        have e : (w.alloc (.cells (pre ++ s :: suf).toArray t)).setCell ⟨w.heap.size, pre.length, none⟩ r = w.alloc (.cells ((pre ++ [r]) ++ suf).toArray t) := by
          have hp : (w.heap.push (.cells (pre ++ s :: suf).toArray t)).modify w.heap.size (fun
              | .cells c elem frozen => .cells (if (⟨w.heap.size, pre.length, none⟩ : Addr).spot.isSome then c else c.setIfInBounds pre.length r) elem frozen
              | o => o) = w.heap.push (.cells ((pre ++ [r]) ++ suf).toArray t) := by
            apply Array.ext_getElem?
            intro i
            rw [Array.getElem?_modify, Array.getElem?_push, Array.getElem?_push]
            by_cases hi : i = w.heap.size
            · subst hi
              simp
            · rw [if_neg hi, if_neg hi, if_neg (Ne.symm hi)]
          show ({ (w.alloc (.cells (pre ++ s :: suf).toArray t)) with heap := _ } : World) = _
          unfold World.alloc
          exact congrArg (fun h => ({ w with heap := h } : World)) hp
        show ((w.alloc (.cells (pre ++ s :: suf).toArray t)).setCell ⟨w.heap.size, pre.length, none⟩ r).setCells w.heap.size (pre.length + 1) rest = _
        rw [e]
        have := ih (pre ++ [r]) suf (by simp at hl ⊢; omega)
        rw [List.length_append] at this
        rw [show pre ++ r :: rest = (pre ++ [r]) ++ rest by simp]
        exact this
  exact key [] zs.toList cs (by show 0 + zs.toList.length = 0 + cs.length; rw [Array.length_toList, h])
end Go.Proofs.YtnfnebfioibndaaGreatDoor
