/- stevedorelaw.edges: the document's edges, as the program's. -/
import Derived.Test.YtnfnebfioibndaaRight
namespace Go.Proofs.Ytnfnebfioibndaa
open Go.RowKit
set_option maxRecDepth 100000
set_option maxHeartbeats 4000000

theorem info_edge : (Try.prog.info? 38).map (fun i => (i.zero, i.size, i.bytes)) = some (some (.agg #[.int .i64 0, .int .i64 0]), 2, 16) := by kernel_rfl
def edgeRows (l : List EdgeD) : List Value := l.flatMap fun e => [.int .i64 e.1, .int .i64 e.2]
theorem edgeRows_snoc (l : List EdgeD) (e : EdgeD) : edgeRows (l ++ [e]) = edgeRows l ++ [.int .i64 e.1, .int .i64 e.2] := by simp [edgeRows]
theorem edgeRows_at (l : List EdgeD) (i j : Nat) (hi : i < l.length) (hj : j < 2) : (edgeRows l)[i * 2 + j]? = some (edgeCell (l.getD i (0, 0)) j) := by
  induction l generalizing i with
  | nil => simp at hi
  | cons e l ih =>
    have e1 : edgeRows (e :: l) = [.int .i64 e.1, .int .i64 e.2] ++ edgeRows l := rfl
    rw [e1]
    cases i with
    | zero =>
      match j, hj with
      | 0, _ => rfl
      | 1, _ => rfl
    | succ i =>
      rw [List.getElem?_append_right (by simp; omega)]
      have : (i + 1) * 2 + j - ([.int .i64 e.1, .int .i64 e.2] : List Value).length = i * 2 + j := by simp; omega
      rw [this, ih i (by simpa using hi)]
      simp [List.getD]
theorem edges_owned {w : World} {base : Nat} {e : TypeId} {v : Value} {l : List EdgeD} (h : w.ownsRow base e 2 v l.length (edgeRows l)) : Edges w v l := by
  rcases id h.2 with ⟨rfl, h0⟩ | ⟨g, cap, cur, rfl, _, hg, h1, h2, _⟩
  · refine ⟨none, 0, by rw [h0], by omega, by decide, Or.inl h0⟩
  · refine ⟨_, cap, rfl, h1, h2, Or.inr ⟨g, 0, rfl, lt_of_block hg, fun i j hi hj => ?_⟩⟩
    have := h.cellAt (i * 2 + j) (by omega)
    rw [edgeRows_at l i j hi hj] at this
    rw [Nat.zero_add]
    exact this
end Go.Proofs.Ytnfnebfioibndaa
