/- A list of rows that is told row by row. -/
import Derived.Test.YtnfnebfioibndaaAdj
namespace Go.Proofs.Ytnfnebfioibndaa
open Go.RowKit
set_option maxRecDepth 100000

/-- A slice of slices of numbers. -/
def Rows2 (w : World) (v : Value) (xss : List (List Nat)) : Prop := ∃ V : Nat → Value, Sl w v xss.length 1 (fun i _ => V i) ∧ ∀ i, i < xss.length → Row w (V i) (ringAt xss i)
theorem Rows2.below {w w' : World} {v : Value} {xss : List (List Nat)} (h : Rows2 w v xss) {B : Nat} (hb : Below B w w') (hB : w.heap.size ≤ B) : Rows2 w' v xss := by
  obtain ⟨V, h1, h2⟩ := h
  exact ⟨V, h1.below hb hB, fun i hi => (h2 i hi).below hb hB⟩

structure Outs (base : Nat) (outv : Value) (vs : List Value) (xss : List (List Nat)) (w : World) : Prop where
  own : w.ownsRow base 28 1 outv vs.length vs
  lens : vs.length = xss.length
  row : ∀ (i : Nat) (v : Value) (S : List Nat), vs[i]? = some v → xss[i]? = some S → Row w v S
  off : ∀ v ∈ vs, ∀ k, v.ownBlock = some k → outv.ownBlock ≠ some k ∧ k < w.heap.size

theorem sl_owned {w : World} {base : Nat} {e : TypeId} {v : Value} {vs : List Value} (h : w.ownsRow base e 1 v vs.length vs) (d : Value) : Sl w v vs.length 1 (fun i _ => vs.getD i d) := by
  rcases id h.2 with ⟨rfl, h0⟩ | ⟨g, cap, cur, rfl, _, hg, h1, h2, _⟩
  · refine ⟨none, 0, by rw [h0], by omega, by decide, Or.inl h0⟩
  · refine ⟨_, cap, rfl, h1, h2, Or.inr ⟨g, 0, rfl, lt_of_block hg, fun i j hi hj => ?_⟩⟩
    obtain rfl : j = 0 := by omega
    have := h.cellAt i (by omega)
    rw [Nat.zero_add, Nat.mul_one, Nat.add_zero, this]
    simp [List.getD, List.getElem?_eq_getElem hi]

section
variable {base : Nat} {outv : Value} {vs : List Value} {xss : List (List Nat)} {w : World}
theorem Outs.start (base : Nat) (w : World) : Outs base (.slice none 0 0) [] [] w := ⟨World.ownsRow_nil _ _ _ _, rfl, fun _ _ _ h => by simp at h, fun _ h => by cases h⟩
theorem Outs.kept {w' : World} (h : Outs base outv vs xss w) (hs : w.heap.size ≤ w'.heap.size) (hk : ∀ k, (outv.ownBlock = some k ∨ ∃ v ∈ vs, v.ownBlock = some k) → w'.heap[k]? = w.heap[k]?) : Outs base outv vs xss w' :=
  ⟨ownsRow_kept h.own (fun k e => hk k (Or.inl e)), h.lens, fun i v S h1 h2 => (h.row i v S h1 h2).kept hs (fun k e => hk k (Or.inr ⟨v, List.mem_of_getElem? h1, e⟩)), fun v hv k e => ⟨(h.off v hv k e).1, Nat.lt_of_lt_of_le (h.off v hv k e).2 hs⟩⟩
theorem Outs.lt (h : Outs base outv vs xss w) {k : Nat} (e : outv.ownBlock = some k ∨ ∃ v ∈ vs, v.ownBlock = some k) : k < w.heap.size := by
  rcases e with e | ⟨v, hv, e⟩
  · exact (h.own.lt k e).2
  · exact (h.off v hv k e).2
theorem Outs.keep {w' : World} (h : Outs base outv vs xss w) (hs : w.heap.size ≤ w'.heap.size) (hk : ∀ k, k < w.heap.size → w'.heap[k]? = w.heap[k]?) : Outs base outv vs xss w' := h.kept hs (fun k e => hk k (h.lt e))
theorem Outs.push (h : Outs base outv vs xss w) {w' : World} {outv' v : Value} {S : List Nat} (hg : w.grownBy w' outv.ownBlock) (ho : w'.ownsRow base 28 1 outv' (vs.length + 1) (vs ++ [v]))
    (hat : outv'.ownBlock = outv.ownBlock ∨ outv'.ownBlock = some w.heap.size) (hv : Row w v S) (hoff : ∀ k, v.ownBlock = some k → outv.ownBlock ≠ some k ∧ k < w.heap.size) : Outs base outv' (vs ++ [v]) (xss ++ [S]) w' := by
  have hk : ∀ k, k < w.heap.size → outv.ownBlock ≠ some k → w'.heap[k]? = w.heap[k]? := fun k hk hne => hg.block k hk (Ne.symm hne)
  have hoff' : ∀ u ∈ vs ++ [v], ∀ k, u.ownBlock = some k → outv.ownBlock ≠ some k ∧ k < w.heap.size := by
    intro u hu k e
    rcases List.mem_append.1 hu with hu | hu
    · exact h.off u hu k e
    · rw [List.mem_singleton.1 hu] at e; exact hoff k e
  refine ⟨by simpa using ho, by simp [h.lens], fun i u T h1 h2 => ?_, fun u hu k e => ?_⟩
  · have key : Row w u T := by
      rcases Nat.lt_or_ge i vs.length with hi | hi
      · rw [List.getElem?_append_left hi] at h1
        rw [List.getElem?_append_left (by rw [← h.lens]; exact hi)] at h2
        exact h.row i u T h1 h2
      · rw [List.getElem?_append_right hi] at h1
        rw [List.getElem?_append_right (by rw [← h.lens]; exact hi), ← h.lens] at h2
        have hz : i - vs.length = 0 := by
          rcases Nat.eq_zero_or_pos (i - vs.length) with e | e
          · exact e
          · rw [List.getElem?_eq_none (by simp; omega)] at h1; cases h1
        rw [hz] at h1 h2
        have e1 : v = u := by simpa using h1
        have e2 : S = T := by simpa using h2
        rw [← e1, ← e2]
        exact hv
    exact key.kept hg.size (fun k e => hk k (hoff' u (List.mem_of_getElem? h1) k e).2 (hoff' u (List.mem_of_getElem? h1) k e).1)
  · obtain ⟨p1, p2⟩ := hoff' u hu k e
    refine ⟨fun e' => ?_, Nat.lt_of_lt_of_le p2 hg.size⟩
    rcases hat with e2 | e2
    · rw [e2] at e'; exact p1 e'
    · rw [e2] at e'; injection e' with e'; omega
theorem Outs.rows (h : Outs base outv vs xss w) : Rows2 w outv xss := by
  refine ⟨fun i => vs.getD i (.slice none 0 0), ?_, fun i hi => ?_⟩
  · rw [← h.lens]
    exact sl_owned h.own _
  · have hi' : i < vs.length := by rw [h.lens]; exact hi
    have e1 : vs.getD i (.slice none 0 0) = vs[i] := by simp [List.getD, List.getElem?_eq_getElem hi']
    show Row w (vs.getD i (.slice none 0 0)) (ringAt xss i)
    rw [e1, ringAt_get hi]
    exact h.row i _ _ (List.getElem?_eq_getElem hi') (List.getElem?_eq_getElem hi)
end

/-- The walker's own rings. -/
theorem Wk.rows2 {base B A L n : Nat} {adj : Nat → List Nat} {outv : Value} {rows : Nat → Value} {w : World} {s : St} {ov qv : Value} {qs : List Value} (h : Wk base B A L n adj outv rows w s ov qv qs) : Rows2 w qv s.sets := by
  refine ⟨fun i => qs.getD i (.slice none 0 0), ?_, fun i hi => ?_⟩
  · rw [← h.lens]
    exact sl_owned h.sets _
  · have hi' : i < qs.length := by rw [h.lens]; exact hi
    have e1 : qs.getD i (.slice none 0 0) = qs[i] := by simp [List.getD, List.getElem?_eq_getElem hi']
    show Row w (qs.getD i (.slice none 0 0)) (ringAt s.sets i)
    rw [e1, ringAt_get hi]
    exact h.set i _ _ (List.getElem?_eq_getElem hi') (List.getElem?_eq_getElem hi)

/-! ### a table of marks -/
def boolCells (f : Nat → Bool) (n : Nat) : List Value := (List.range n).map fun i => .bool (f i)
def updT (f : Nat → Bool) (v : Nat) (x : Bool) : Nat → Bool := fun u => if u = v then x else f u
theorem boolCells_len (f : Nat → Bool) (n : Nat) : (boolCells f n).length = n := by simp [boolCells]
theorem boolCells_at (f : Nat → Bool) {n i : Nat} (h : i < n) : (boolCells f n)[i]? = some (.bool (f i)) := by simp [boolCells, h]
theorem boolCells_set (f : Nat → Bool) (n v : Nat) (x : Bool) : (boolCells f n).set v (.bool x) = boolCells (updT f v x) n := by
  apply List.ext_getElem?
  intro i
  rw [List.getElem?_set]
  rcases Nat.lt_or_ge i n with hi | hi
  · rw [boolCells_at _ hi, boolCells_at _ hi, boolCells_len]
    by_cases e : v = i
    · subst e
      simp [updT, hi]
    · rw [if_neg e]
      simp [updT, Ne.symm e]
  · have e1 : (boolCells f n)[i]? = none := List.getElem?_eq_none (by rw [boolCells_len]; exact hi)
    have e2 : (boolCells (updT f v x) n)[i]? = none := List.getElem?_eq_none (by rw [boolCells_len]; exact hi)
    rw [e1, e2, boolCells_len]
    by_cases e : v = i
    · rw [if_pos e, if_neg (by omega)]
    · rw [if_neg e]
/-- A row of marks of its own. -/
def Marks (w : World) (b n : Nat) (f : Nat → Bool) : Prop := w.heap[b]? = some (.cells (boolCells f n).toArray 4)
theorem Marks.cell {w : World} {b n : Nat} {f : Nat → Bool} (h : Marks w b n f) {i : Nat} (hi : i < n) : w.cell? ⟨b, i, none⟩ = some (.bool (f i)) := by
  have h : w.heap[b]? = _ := h
  have := boolCells_at f hi
  simp only [World.cell?, h]
  simpa using this
theorem Marks.free {w : World} {b n : Nat} {f : Nat → Bool} (h : Marks w b n f) (i : Nat) : w.frozen? ⟨b, i, none⟩ = false := by
  have h : w.heap[b]? = _ := h
  simp [World.frozen?, h]
theorem Marks.lt {w : World} {b n : Nat} {f : Nat → Bool} (h : Marks w b n f) : b < w.heap.size := lt_of_block h
theorem Marks.set {w : World} {b n : Nat} {f : Nat → Bool} (h : Marks w b n f) (i : Nat) (x : Bool) : Marks (w.setCell ⟨b, i, none⟩ (.bool x)) b n (updT f i x) := by
  unfold Marks
  rw [heap_setCell_same w b i _ h, List.setIfInBounds_toArray, boolCells_set]
theorem Marks.keep {w w' : World} {b n : Nat} {f : Nat → Bool} (h : Marks w b n f) (hk : w'.heap[b]? = w.heap[b]?) : Marks w' b n f := Eq.trans hk h
/-- A row of numbers of its own. -/
def Nums (w : World) (b n : Nat) (f : Nat → Nat) : Prop := w.heap[b]? = some (.cells (natCells f n).toArray 3)
theorem Nums.cell {w : World} {b n : Nat} {f : Nat → Nat} (h : Nums w b n f) {i : Nat} (hi : i < n) : w.cell? ⟨b, i, none⟩ = some (.int .i64 ((f i : Nat) : Int)) := by
  have h : w.heap[b]? = _ := h
  have := natCells_at f hi
  simp only [World.cell?, h]
  simpa using this
theorem Nums.free {w : World} {b n : Nat} {f : Nat → Nat} (h : Nums w b n f) (i : Nat) : w.frozen? ⟨b, i, none⟩ = false := by
  have h : w.heap[b]? = _ := h
  simp [World.frozen?, h]
theorem Nums.lt {w : World} {b n : Nat} {f : Nat → Nat} (h : Nums w b n f) : b < w.heap.size := lt_of_block h
theorem Nums.set {w : World} {b n : Nat} {f : Nat → Nat} (h : Nums w b n f) (i x : Nat) : Nums (w.setCell ⟨b, i, none⟩ (.int .i64 ((x : Nat) : Int))) b n (upd f i x) := by
  unfold Nums
  rw [heap_setCell_same w b i _ h, List.setIfInBounds_toArray, natCells_set]
theorem Nums.keep {w w' : World} {b n : Nat} {f : Nat → Nat} (h : Nums w b n f) (hk : w'.heap[b]? = w.heap[b]?) : Nums w' b n f := Eq.trans hk h
end Go.Proofs.Ytnfnebfioibndaa
