/- stevedoreref.working: the packages that work, but some. -/
import Derived.Test.YtnfnebfioibndaaGreatDoorKnownC
namespace Go.Proofs.YtnfnebfioibndaaGreatDoor
open Go.RowKit
set_option maxRecDepth 100000
set_option maxHeartbeats 4000000

theorem info_pack : (Tryz.prog.info? 30).map (fun i => (i.zero, i.size, i.bytes)) = some (some (.agg #[.string ⟨#[]⟩, .int .i64 0, .string ⟨#[]⟩, .string ⟨#[]⟩, .slice none 0 0, .slice none 0 0, .slice none 0 0, .slice none 0 0, .slice none 0 0, .slice none 0 0, .slice none 0 0, .slice none 0 0, .slice none 0 0]), 13, 272) := by kernel_rfl

/-- Packages, each with its cells. -/
structure PackC where
  pack : PackD
  cells : List Value
def packsRows (os : List PackC) : List Value := os.flatMap PackC.cells
structure PackCOk (w : World) (o : PackC) : Prop where
  len : o.cells.length = 13
  ok : PackOk w o.pack (fun j => o.cells.getD j .nilFunc)
theorem packsRows_len (os : List PackC) (h : ∀ o ∈ os, o.cells.length = 13) : (packsRows os).length = os.length * 13 := by
  induction os with
  | nil => rfl
  | cons o os ih =>
    have e : packsRows (o :: os) = o.cells ++ packsRows os := rfl
    rw [e, List.length_append, ih (fun x hx => h x (List.mem_cons_of_mem _ hx)), h o (List.mem_cons_self ..), List.length_cons]
    omega
theorem packsRows_at (os : List PackC) (h : ∀ o ∈ os, o.cells.length = 13) (i j : Nat) (o : PackC) (hi : os[i]? = some o) (hj : j < 13) : (packsRows os)[i * 13 + j]? = some (o.cells.getD j .nilFunc) := by
  induction os generalizing i with
  | nil => simp at hi
  | cons p os ih =>
    have e : packsRows (p :: os) = p.cells ++ packsRows os := rfl
    have hp : p.cells.length = 13 := h p (List.mem_cons_self ..)
    rw [e]
    cases i with
    | zero =>
      obtain rfl : p = o := by simpa using hi
      rw [List.getElem?_append_left (by omega), show 0 * 13 + j = j by omega]
      simp [List.getD, List.getElem?_eq_getElem (show j < p.cells.length by omega)]
    | succ i =>
      rw [List.getElem?_append_right (by omega), hp, show (i + 1) * 13 + j - 13 = i * 13 + j by omega]
      exact ih (fun x hx => h x (List.mem_cons_of_mem _ hx)) i (by simpa using hi)
theorem packs_owned {w : World} {base : Nat} {e : TypeId} {v : Value} {os : List PackC} (h : w.ownsRow base e 13 v os.length (packsRows os)) (hk : ∀ o ∈ os, PackCOk w o) : Packs w v (os.map PackC.pack) := by
  have hl : ∀ o ∈ os, o.cells.length = 13 := fun o ho => (hk o ho).len
  refine ⟨fun i j => (os.getD i ⟨PackD.none, []⟩).cells.getD j .nilFunc, ?_, ?_⟩
  · rw [List.length_map]
    rcases id h.2 with ⟨rfl, h0⟩ | ⟨g, cap, cur, rfl, _, hg, h1, h2, _⟩
    · rw [h0]
      exact Sl.nil _ _ _
    · refine ⟨_, cap, rfl, h1, h2, Or.inr ⟨g, 0, rfl, ?_, fun i j hi hj => ?_⟩⟩
      · rcases Nat.lt_or_ge g w.heap.size with hlt | hge
        · exact hlt
        · rw [Array.getElem?_eq_none hge] at hg; cases hg
      · have := h.cellAt (i * 13 + j) (by omega)
        rw [packsRows_at os hl i j os[i] (List.getElem?_eq_getElem hi) hj] at this
        rw [Nat.zero_add, this]
        simp [List.getD, List.getElem?_eq_getElem hi]
  · intro i hi
    rw [List.length_map] at hi
    have e1 : (os.map PackC.pack).getD i PackD.none = os[i].pack := by simp [List.getD, List.getElem?_eq_getElem hi]
    have e2 : os.getD i ⟨PackD.none, []⟩ = os[i] := by simp [List.getD, List.getElem?_eq_getElem hi]
    rw [e1]
    show PackOk w os[i].pack (fun j => (os.getD i ⟨PackD.none, []⟩).cells.getD j .nilFunc)
    rw [e2]
    exact (hk _ (List.getElem_mem hi)).ok
end Go.Proofs.YtnfnebfioibndaaGreatDoor
