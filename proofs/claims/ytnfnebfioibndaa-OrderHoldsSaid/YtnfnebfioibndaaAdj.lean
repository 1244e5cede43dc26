/- Rows of numbers that grow side by side (the edges of a walker, while they are laid). -/
import Derived.Test.YtnfnebfioibndaaRingP
import Derived.Deep.AppendLies
import Derived.Deep.OwnRows
namespace Go.Proofs.Ytnfnebfioibndaa
open Go.RowKit
set_option maxRecDepth 100000

theorem row_owned {w : World} {base : Nat} {e : TypeId} {v : Value} {xs : List Nat} (h : w.ownsRow base e 1 v xs.length (natRow xs)) : Row w v xs := by
  rcases id h.2 with ⟨rfl, h0⟩ | ⟨g, cap, cur, rfl, _, hg, h1, h2, _⟩
  · refine ⟨none, 0, by rw [h0], by omega, by decide, Or.inl h0⟩
  · refine ⟨_, cap, rfl, h1, h2, Or.inr ⟨g, 0, rfl, lt_of_block hg, fun i j hi hj => ?_⟩⟩
    obtain rfl : j = 0 := by omega
    have := h.cellAt i (by omega)
    rw [Nat.zero_add, Nat.mul_one, Nat.add_zero, this]
    simp [natRow, List.getD, List.getElem?_eq_getElem hi]

structure Adj (base O n : Nat) (rows : Nat → Value) (adj : Nat → List Nat) (w : World) : Prop where
  blk : w.heap[O]? = some (.cells ((List.range n).map rows).toArray 28)
  row : ∀ i, i < n → w.ownsRow base 3 1 (rows i) (adj i).length (natRow (adj i))
  off : ∀ i, i < n → (rows i).ownBlock ≠ some O
  apart : ∀ i j, i < n → j < n → i ≠ j → ∀ k, (rows i).ownBlock = some k → (rows j).ownBlock ≠ some k

def updV (f : Nat → Value) (i : Nat) (v : Value) : Nat → Value := fun u => if u = i then v else f u
theorem updV_set (f : Nat → Value) (n i : Nat) (v : Value) : ((List.range n).map f).set i v = (List.range n).map (updV f i v) := by
  apply List.ext_getElem?
  intro k
  rw [List.getElem?_set]
  rcases Nat.lt_or_ge k n with hk | hk
  · by_cases e : i = k
    · subst e
      simp [updV, hk]
    · rw [if_neg e]
      simp [updV, hk, Ne.symm e]
  · have e1 : ((List.range n).map f)[k]? = none := List.getElem?_eq_none (by simpa using hk)
    have e2 : ((List.range n).map (updV f i v))[k]? = none := List.getElem?_eq_none (by simpa using hk)
    rw [e1, e2]
    by_cases e : i = k
    · rw [if_pos e, if_neg (by simp; omega)]
    · rw [if_neg e]

section
variable {base O n : Nat} {rows : Nat → Value} {adj : Nat → List Nat} {w : World}
theorem Adj.lt (h : Adj base O n rows adj w) : O < w.heap.size := lt_of_block h.blk
theorem Adj.rlt (h : Adj base O n rows adj w) {i : Nat} (hi : i < n) {k : Nat} (e : (rows i).ownBlock = some k) : base ≤ k ∧ k < w.heap.size := (h.row i hi).lt k e
theorem Adj.keep {w' : World} (h : Adj base O n rows adj w) (hk : ∀ k, k < w.heap.size → w'.heap[k]? = w.heap[k]?) : Adj base O n rows adj w' :=
  ⟨by rw [hk O h.lt]; exact h.blk, fun i hi => ownsRow_kept (h.row i hi) (fun k e => hk k (h.rlt hi e).2), h.off, h.apart⟩
theorem Adj.alloc (h : Adj base O n rows adj w) (o : Obj) : Adj base O n rows adj (w.alloc o) := h.keep (fun k hk => Below.heap_alloc w o k hk)
theorem Adj.of_heap {w' : World} (h : Adj base O n rows adj w) (e : w'.heap = w.heap) : Adj base O n rows adj w' := h.keep (fun k _ => by rw [e])
theorem Adj.cell (h : Adj base O n rows adj w) {i : Nat} (hi : i < n) : w.cell? ⟨O, i, none⟩ = some (rows i) := by
  simp [World.cell?, h.blk, hi]
theorem Adj.free (h : Adj base O n rows adj w) (i : Nat) : w.frozen? ⟨O, i, none⟩ = false := by
  simp [World.frozen?, h.blk]
theorem Adj.step (h : Adj base O n rows adj w) {i y : Nat} (hi : i < n) {w' : World} {v' : Value} (hg : w.grownBy w' (rows i).ownBlock)
    (ho : w'.ownsRow base 3 1 v' ((adj i).length + 1) (natRow (adj i) ++ [.int .i64 ((y : Nat) : Int)])) (hat : v'.ownBlock = (rows i).ownBlock ∨ v'.ownBlock = some w.heap.size) :
    Adj base O n (updV rows i v') (fun a => if a = i then adj a ++ [y] else adj a) (w'.setCell ⟨O, i, none⟩ v') := by
  have hO := h.lt
  have hb : ∀ k, k < w.heap.size → (rows i).ownBlock ≠ some k → w'.heap[k]? = w.heap[k]? := fun k hk hne => hg.block k hk (Ne.symm hne)
  have hkk : ∀ k, k ≠ O → (w'.setCell ⟨O, i, none⟩ v').heap[k]? = w'.heap[k]? := fun k hk => heap_setCell_ne w' O i _ hk
  have hnew : ∀ k, v'.ownBlock = some k → (rows i).ownBlock = some k ∨ k = w.heap.size := by
    intro k e
    rcases hat with e' | e'
    · exact Or.inl (by rw [← e']; exact e)
    · rw [e] at e'; injection e' with e'; exact Or.inr e'
  have hoff : v'.ownBlock ≠ some O := by
    intro e
    rcases hnew O e with e | e
    · exact h.off i hi e
    · omega
  refine ⟨?_, fun j hj => ?_, fun j hj => ?_, fun j k hj hk hjk b e => ?_⟩
  · rw [heap_setCell_same w' O i v' (by rw [hb O hO (h.off i hi)]; exact h.blk), List.setIfInBounds_toArray, updV_set]
  · by_cases e : j = i
    · subst e
      have e1 : (updV rows j v') j = v' := by simp [updV]
      have e2 : (if j = j then adj j ++ [y] else adj j) = adj j ++ [y] := if_pos rfl
      have e3 : (adj j ++ [y]).length = (adj j).length + 1 := by simp
      have e4 : natRow (adj j ++ [y]) = natRow (adj j) ++ [.int .i64 ((y : Nat) : Int)] := by simp [natRow]
      show World.ownsRow _ _ _ _ (updV rows j v' j) (if j = j then adj j ++ [y] else adj j).length (natRow (if j = j then adj j ++ [y] else adj j))
      rw [e1, e2, e3, e4]
      exact ownsRow_kept ho (fun k e => hkk k (fun ek => hoff (by rw [← ek]; exact e)))
    · have e1 : (updV rows i v') j = rows j := by simp [updV, e]
      have e2 : (if j = i then adj j ++ [y] else adj j) = adj j := if_neg e
      show World.ownsRow _ _ _ _ (updV rows i v' j) (if j = i then adj j ++ [y] else adj j).length (natRow (if j = i then adj j ++ [y] else adj j))
      rw [e1, e2]
      refine ownsRow_kept (h.row j hj) (fun k ek => ?_)
      rw [hkk k (fun e' => h.off j hj (by rw [← e']; exact ek)), hb k (h.rlt hj ek).2 (fun e' => h.apart j i hj hi e k ek e')]
  · by_cases e : j = i
    · simp only [updV, if_pos e]; exact hoff
    · simp only [updV, if_neg e]; exact h.off j hj
  · by_cases e1 : j = i
    · have e2 : k ≠ i := fun e2 => hjk (e1.trans e2.symm)
      simp only [updV, if_pos e1] at e
      simp only [updV, if_neg e2]
      intro e'
      rcases hnew b e with e | e
      · exact h.apart i k hi hk (Ne.symm e2) b e e'
      · have := (h.rlt hk e').2; omega
    · simp only [updV, if_neg e1] at e
      by_cases e2 : k = i
      · simp only [updV, if_pos e2]
        intro e'
        rcases hnew b e' with e' | e'
        · exact h.apart j i hj hi e1 b e e'
        · have := (h.rlt hj e).2; omega
      · simp only [updV, if_neg e2]
        exact h.apart j k hj hk hjk b e
theorem Adj.out (h : Adj base O n rows adj w) (hn : n ≤ maxLen) : Sl w (.slice (some ⟨O, 0, none⟩) n n) n 1 (fun i _ => rows i) :=
  ⟨_, n, rfl, Nat.le_refl _, hn, Or.inr ⟨O, 0, rfl, h.lt, fun i j hi hj => by
    obtain rfl : j = 0 := by omega
    rw [Nat.zero_add, Nat.mul_one, Nat.add_zero]
    exact h.cell hi⟩⟩
theorem Adj.start (w : World) (O n : Nat) (hO : w.heap[O]? = some (.cells ((List.range n).map fun _ => Value.slice none 0 0).toArray 28)) : Adj base O n (fun _ => .slice none 0 0) (fun _ => []) w :=
  ⟨hO, fun _ _ => World.ownsRow_nil _ _ _ _, (fun _ _ e => by cases e), (fun _ _ _ _ _ _ e => by cases e)⟩
end

/-! ### what make lays -/
theorem made_toList (z : Value) (n : Nat) : madeCells #[z] n = ((List.range n).map fun _ => z).toArray := by
  apply Array.ext'
  rw [toList_madeCells_one]
  simp [List.map_const']
theorem info_bools : (Try.prog.info? 4).map (fun i => (i.zero, i.size, i.bytes)) = some (some (.bool false), 1, 1) := by kernel_rfl
theorem mk_ints (n : Nat) (hn : n ≤ 1000) : ∀ w, (Instr.makeSlice 28 (.int .i64 ((n : Nat) : Int)) (.int .i64 ((n : Nat) : Int))).run Try.prog w = .ok (.slice (some ⟨w.heap.size, 0, none⟩) n n) (w.alloc (.cells (natCells (fun _ => 0) n).toArray 3)) := fun w => by
  rw [run_make_row' 28 3 (.int .i64 0) 8 Try.underlying28 info_int2 rfl _ _ n (by omega) (by omega) w, made_toList]
  rfl
theorem mk_rows (n : Nat) (hn : n ≤ 1000) : ∀ w, (Instr.makeSlice 33 (.int .i64 ((n : Nat) : Int)) (.int .i64 ((n : Nat) : Int))).run Try.prog w = .ok (.slice (some ⟨w.heap.size, 0, none⟩) n n) (w.alloc (.cells ((List.range n).map fun _ => Value.slice none 0 0).toArray 28)) := fun w => by
  rw [run_make_row' 33 28 (.slice none 0 0) 24 Try.underlying33 info_ints rfl _ _ n (by omega) (by omega) w, made_toList]
theorem mk_bools (n : Nat) (hn : n ≤ 1000) : ∀ w, (Instr.makeSlice 64 (.int .i64 ((n : Nat) : Int)) (.int .i64 ((n : Nat) : Int))).run Try.prog w = .ok (.slice (some ⟨w.heap.size, 0, none⟩) n n) (w.alloc (.cells ((List.range n).map fun _ => Value.bool false).toArray 4)) := fun w => by
  rw [run_make_row' 64 4 (.bool false) 1 Try.underlying64 info_bools rfl _ _ n (by omega) (by omega) w, made_toList]
end Go.Proofs.Ytnfnebfioibndaa
