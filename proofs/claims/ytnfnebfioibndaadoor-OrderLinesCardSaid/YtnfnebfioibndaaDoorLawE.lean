/- stevedorelaw.edges: the document's edges, as the program's. -/
import Derived.Test.YtnfnebfioibndaaDoorRight
namespace Go.Proofs.YtnfnebfioibndaaDoor
open Go.RowKit
set_option maxRecDepth 100000
set_option maxHeartbeats 4000000

theorem info_edge : (Tryd.prog.info? 103).map (fun i => (i.zero, i.size, i.bytes)) = some (some (.agg #[.int .i64 0, .int .i64 0]), 2, 16) := by kernel_rfl
def edgeRows (l : List EdgeD) : List Value := l.flatMap fun e => [.int .i64 e.1, .int .i64 e.2]
theorem edgeRows_snoc (l : List EdgeD) (e : EdgeD) : edgeRows (l ++ [e]) = edgeRows l ++ [.int .i64 e.1, .int .i64 e.2] := by simp [edgeRows]
theorem edgeRows_at (l : List EdgeD) (i j : Nat) (hi : i < l.length) (hj : j < 2) : (edgeRows l)[i * 2 + j]? = some (edgeCell (l.getD i (0, 0)) j) := by
  induction l generalizing i with
  | nil => simp at hi
  | cons e l ih =>
    have e1 : edgeRows (e :: l) = [.int .i64 e.1, .int .i64 e.2] ++ edgeRows l := rfl
    rw [e1]
    cases i with
    | zero =>
      match j, hj with
      | 0, _ => rfl
      | 1, _ => rfl
    | succ i =>
      rw [List.getElem?_append_right (by simp; omega)]
      have : (i + 1) * 2 + j - ([.int .i64 e.1, .int .i64 e.2] : List Value).length = i * 2 + j := by simp; omega
      rw [this, ih i (by simpa using hi)]
      simp [List.getD]
theorem edges_owned {w : World} {base : Nat} {e : TypeId} {v : Value} {l : List EdgeD} (h : w.ownsRow base e 2 v l.length (edgeRows l)) : Edges w v l := by
  rcases id h.2 with ⟨rfl, h0⟩ | ⟨g, cap, cur, rfl, _, hg, h1, h2, _⟩
  · refine ⟨none, 0, by rw [h0], by omega, by decide, Or.inl h0⟩
  · refine ⟨_, cap, rfl, h1, h2, Or.inr ⟨g, 0, rfl, lt_of_block hg, fun i j hi hj => ?_⟩⟩
    have := h.cellAt (i * 2 + j) (by omega)
    rw [edgeRows_at l i j hi hj] at this
    rw [Nat.zero_add]
    exact this

theorem lawEdges_calls (v : Value) (l : List EdgeD) (w : World) (hE : Edges w v l) (hlen : l.length ≤ 1000) :
    Calls Tryd.prog 27 #[v] w fun e w' => ∃ ov, e = .returned ov ∧ Edges w' ov l ∧ Below w.heap.size w w' := by
  obtain ⟨a, cap, rfl, hcap, hmax, hcell⟩ := hE
  unfold maxLen at hmax
  obtain ⟨i0, hi0, hz0, hz1, hz2⟩ := info_parts info_edge
  have Hi0 := Lib.hid (And.intro hi0 (And.intro hz0 (And.intro hz1 hz2)))
  obtain ⟨m, hm⟩ : ∃ m, l.length = m := ⟨_, rfl⟩
  rw [hm] at hcap hcell hlen ⊢
  have Hcell := Lib.hid hcell
  have Hm := Lib.hid hm
  clear hcell hm hi0 hz0 hz1 hz2
  go_enter Tryd.func27, Tryd.ntmps27
  go_wp2_with fail
  go_loopg [3, 4] m (fun k v3 v4 wr => ∃ (i : Nat) (ov : Value), ov = v3 ∧ v4 = .int .i64 i ∧ i ≤ m ∧ k = m - i ∧ wr.ownsRow w.heap.size 103 2 ov (l.take i).length (edgeRows (l.take i)) ∧ Below w.heap.size w wr)
  case atStart => exact ⟨0, _, rfl, rfl, Nat.zero_le _, rfl, World.ownsRow_nil _ _ _ _, Below.refl _ _⟩
  case round =>
    obtain ⟨i, ov, rfl, rfl, hi, hk, hown, hB⟩ := hrel
    have Hk := Lib.hid hk
    have Hown := Lib.hid hown
    clear hk hown
    by_cases hlt : i < m
    · obtain ⟨b, o, rfl, hb, hc⟩ := Hcell.out.resolve_left (by omega)
      obtain ⟨e, he⟩ : ∃ e, l.getD i (0, 0) = e := ⟨_, rfl⟩
      have HT : Hid (l.take (i + 1) = l.take i ++ [e]) := by show _ = _; rw [take_snoc' (0, 0) (by rw [Hm.out]; exact hlt), he]
      obtain ⟨x, y⟩ := e
      have c0 : wr.cell? ⟨b, o + i * 2, none⟩ = some (.int .i64 x) := (hB.cell (p := ⟨b, o + i * 2, none⟩) hb).trans (by have h1 := hc i 0 hlt (by decide); rw [he] at h1; exact h1)
      have c1 : wr.cell? ⟨b, o + i * 2 + 1, none⟩ = some (.int .i64 y) := (hB.cell (p := ⟨b, o + i * 2 + 1, none⟩) hb).trans (by have h1 := hc i 1 hlt (by decide); rw [he] at h1; exact h1)
      have hsz := hB.size
      have hli : (l.take i).length ≤ i := by simp; omega
      clear hc he hb
      go_wp2_with (at_builtin; refine wpList_append_own _ rfl _ _ 67 rfl w.heap.size 103 i0 _ 2 16 Tryd.underlying67 Hi0.out.1 Hi0.out.2.1 Hi0.out.2.2.1 Hi0.out.2.2.2 rfl (by decide) ov (l.take i).length (edgeRows (l.take i)) rfl (Hown.out.alloc _) ⟨wr.heap.size, 0, none⟩ 1 1 [.int .i64 x, .int .i64 y] rfl rfl (World.news_of_block (cs := #[.int .i64 x, .int .i64 y]) (t := 103) (fr := (0, 0)) (heap_alloc_new wr _)) (by simp [Value.oneCell']) (by unfold maxLen; omega) (by omega) (by simp; omega) ?_)
      intro v' w' hown1 hgrow _
      have hB1 : Below w.heap.size w w' := (hB.alloc hB.size _).grown hgrow (by simp; have := hB.size; omega) (fun k e => (Hown.out.lt _ e).1)
      have Hown1 : Hid (w'.ownsRow w.heap.size 103 2 v' (l.take (i + 1)).length (edgeRows (l.take (i + 1)))) := by
        show World.ownsRow _ _ _ _ _ _ _
        rw [HT.out, edgeRows_snoc, List.length_append, List.length_take]
        exact hown1
      clear hown1 hgrow c0 c1
      go_wp2_with fail
      go_roundg (m - (i + 1))
      case rel => exact ⟨i + 1, _, rfl, by go_num, by omega, rfl, Hown1.out, hB1⟩
      case measure => have := Hk.out; omega
    · obtain rfl : m = i := by omega
      have HE : Hid (Edges wr ov l) := by
        have := edges_owned Hown.out
        rwa [List.take_of_length_le (by rw [Hm.out]; exact Nat.le_refl _)] at this
      go_wp2_with fail
      go_ret
      exact ⟨ov, rfl, HE.out, hB⟩
end Go.Proofs.YtnfnebfioibndaaDoor
