/- The document's Bare; the variable Fine; a result that lies in a variable. (These stand in XFit too, for CheckJudges: take one of the two.) -/
import Derived.Test.YtnfnebfioibndaaDoorNext
import Derived.Test.YtnfnebfioibndaaDoorErr
namespace Go.Proofs.YtnfnebfioibndaaDoor
open Go.RowKit
set_option maxRecDepth 100000

theorem refBare_calls (e : Int) (w : World) : Calls Tryd.prog 33 #[.int .i64 e] w fun ev w' => ev = .returned (.agg #[.int .i64 e, .int .i64 (-1)]) ∧ Below w.heap.size w w' := by
  go_enter Tryd.func33, Tryd.ntmps33
  go_wp2
  go_returns
  exact ⟨rfl, by go_grown⟩

/-- The variable Fine. -/
structure FineR (w : World) : Prop where
  lt : 2 < w.heap.size
  c0 : w.cell? ⟨2, 0, none⟩ = some (.int .i64 0)
  c1 : w.cell? ⟨2, 1, none⟩ = some (.int .i64 (-1))
theorem FineR.below {w w' : World} (h : FineR w) {B : Nat} (hb : Below B w w') (hB : w.heap.size ≤ B) : FineR w' :=
  ⟨Nat.lt_of_lt_of_le h.lt hb.size, (hb.cell (p := ⟨2, 0, none⟩) (Nat.lt_of_lt_of_le h.lt hB)).trans h.c0, (hb.cell (p := ⟨2, 1, none⟩) (Nat.lt_of_lt_of_le h.lt hB)).trans h.c1⟩

/-- A result of two numbers, in a variable that nothing was written into. -/
structure ResC (w : World) (b : Nat) : Prop where
  lt : b < w.heap.size
  c : w.heap[b]? = some (.cells #[.int .i64 0, .int .i64 0] 62)
theorem ResC.below {w w' : World} {b : Nat} (h : ResC w b) {B : Nat} (hb : Below B w w') (hB : b < B) : ResC w' b := ⟨Nat.lt_of_lt_of_le h.lt hb.size, (hb.block b hB).trans h.c⟩
theorem ResC.new (w : World) : ResC (w.alloc (.cells #[.int .i64 0, .int .i64 0] 62)) w.heap.size := ⟨by simp, heap_alloc_new w _⟩
theorem ResC.c0 {w : World} {b : Nat} (h : ResC w b) : w.cell? ⟨b, 0, none⟩ = some (.int .i64 0) := by simp [World.cell?, h.c]
theorem ResC.c1 {w : World} {b : Nat} (h : ResC w b) : w.cell? ⟨b, 1, none⟩ = some (.int .i64 0) := by simp [World.cell?, h.c]
theorem ResC.z0 {w : World} {b : Nat} (h : ResC w b) : w.frozen? ⟨b, 0, none⟩ = false := by simp [World.frozen?, h.c]
theorem ResC.z1 {w : World} {b : Nat} (h : ResC w b) : w.frozen? ⟨b, 1, none⟩ = false := by simp [World.frozen?, h.c]
theorem ResC.d0 {w : World} {b : Nat} (h : ResC w b) (x : Value) : (w.setCell ⟨b, 0, none⟩ x).cell? ⟨b, 0, none⟩ = some x := World.cell?_setCell_same' _ _ _ (by rw [h.c0]; rfl)
theorem ResC.d1 {w : World} {b : Nat} (h : ResC w b) (x y : Value) : ((w.setCell ⟨b, 0, none⟩ x).setCell ⟨b, 1, none⟩ y).cell? ⟨b, 1, none⟩ = some y := World.cell?_setCell_same' _ _ _ (by rw [show (w.setCell ⟨b, 0, none⟩ x).cell? ⟨b, 1, none⟩ = w.cell? ⟨b, 1, none⟩ from World.cell?_setCell_other _ _ _ _ (by simp), h.c1]; rfl)
end Go.Proofs.YtnfnebfioibndaaDoor
