/- A square table of marks in memory. -/
import Derived.Test.YtnfnebfioibndaaGreatDoorM22
namespace Go.Proofs.YtnfnebfioibndaaGreatDoor
open Go.RowKit
set_option maxRecDepth 100000

theorem info_boolrow : (Tryz.prog.info? 171).map (fun i => (i.zero, i.size, i.bytes)) = some (some (.slice none 0 0), 1, 24) := by kernel_rfl
theorem mk_boolrows (n : Nat) (hn : n ≤ 1000) : ∀ w, (Instr.makeSlice 170 (.int .i64 ((n : Nat) : Int)) (.int .i64 ((n : Nat) : Int))).run Tryz.prog w = .ok (.slice (some ⟨w.heap.size, 0, none⟩) n n) (w.alloc (.cells ((List.range n).map fun _ => Value.slice none 0 0).toArray 171)) := fun w => by
  rw [run_make_row' 170 171 (.slice none 0 0) 24 Tryz.underlying170 info_boolrow rfl _ _ n (by omega) (by omega) w, made_toList]

theorem Marks.congr {w : World} {b n : Nat} {f g : Nat → Bool} (h : Marks w b n f) (e : ∀ i, i < n → f i = g i) : Marks w b n g := by
  have : boolCells f n = boolCells g n := List.map_congr_left fun i hi => by rw [e i (List.mem_range.1 hi)]
  unfold Marks at *
  rw [← this]
  exact h
def rowV (n : Nat) (R : Nat → Nat) (k i : Nat) : Value := if i < k then .slice (some ⟨R i, 0, none⟩) n n else .slice none 0 0
/-- The first k rows are laid. -/
structure Grid (w : World) (base O n k : Nat) (R : Nat → Nat) (T : Nat → Nat → Bool) (wr : World) : Prop where
  blk : wr.heap[O]? = some (.cells ((List.range n).map (rowV n R k)).toArray 171)
  row : ∀ i, i < k → Marks wr (R i) n (T i)
  inj : ∀ i j, i < k → j < k → R i = R j → i = j
  off : ∀ i, i < k → R i ≠ O
  ge : base ≤ O ∧ ∀ i, i < k → base ≤ R i
  below : Below base w wr
section
variable {w : World} {base O n k : Nat} {R : Nat → Nat} {T : Nat → Nat → Bool} {wr : World}
theorem Grid.lt (h : Grid w base O n k R T wr) : O < wr.heap.size ∧ ∀ i, i < k → R i < wr.heap.size := ⟨lt_of_block h.blk, fun i hi => (h.row i hi).lt⟩
theorem Grid.keep {w' : World} (h : Grid w base O n k R T wr) (hb : Below base w w') (hk : ∀ x, (x = O ∨ ∃ i, i < k ∧ x = R i) → w'.heap[x]? = wr.heap[x]?) : Grid w base O n k R T w' :=
  ⟨(hk O (Or.inl rfl)).trans h.blk, fun i hi => (h.row i hi).keep (hk _ (Or.inr ⟨i, hi, rfl⟩)), h.inj, h.off, h.ge, hb⟩
theorem Grid.belowW {w' : World} (h : Grid w base O n k R T wr) (hb : Below wr.heap.size wr w') (hbs : base ≤ wr.heap.size) : Grid w base O n k R T w' :=
  h.keep (h.below.trans (hb.mono hbs)) (fun x hx => hb.block x (by rcases hx with rfl | ⟨i, hi, rfl⟩; exact h.lt.1; exact h.lt.2 i hi))
theorem Grid.cellO (h : Grid w base O n k R T wr) {i : Nat} (hi : i < n) : wr.cell? ⟨O, i, none⟩ = some (rowV n R k i) := by
  simp [World.cell?, h.blk, hi]
theorem Grid.cellR (h : Grid w base O n k R T wr) {i : Nat} (hi : i < n) (hk : i < k) : wr.cell? ⟨O, i, none⟩ = some (.slice (some ⟨R i, 0, none⟩) n n) := by
  rw [h.cellO hi, rowV, if_pos hk]
theorem Grid.freeO (h : Grid w base O n k R T wr) (i : Nat) : wr.frozen? ⟨O, i, none⟩ = false := by
  simp [World.frozen?, h.blk]
theorem Grid.set (h : Grid w base O n k R T wr) {a : Nat} (ha : a < k) (b : Nat) (x : Bool) {T' : Nat → Nat → Bool} (hT : ∀ i j, i < k → j < n → T' i j = if i = a ∧ j = b then x else T i j) : Grid w base O n k R T' (wr.setCell ⟨R a, b, none⟩ (.bool x)) := by
  refine ⟨?_, fun i hi => ?_, h.inj, h.off, h.ge, h.below.setCell (h.ge.2 a ha) _⟩
  · rw [heap_setCell_ne wr (R a) b _ (Ne.symm (h.off a ha))]
    exact h.blk
  · by_cases e : i = a
    · subst e
      refine ((h.row i hi).set b x).congr fun j hj => ?_
      rw [hT i j hi hj]
      unfold updT
      by_cases e : j = b <;> simp [e]
    · refine ((h.row i hi).keep (heap_setCell_ne wr (R a) b _ (fun e' => e (h.inj i a hi ha e')))).congr fun j hj => ?_
      rw [hT i j hi hj, if_neg (fun h => e h.1)]
/-- One more row: it was made (block q), and then stored. -/
theorem Grid.lay (h : Grid w base O n k R T wr) (hk : k < n) (hb : base ≤ wr.heap.size) {T' : Nat → Nat → Bool} (hT : ∀ i j, i < k → T' i j = T i j) (hT2 : ∀ j, j < n → T' k j = false) :
    Grid w base O n (k + 1) (fun i => if i = k then wr.heap.size else R i) T' ((wr.alloc (.cells (boolCells (fun _ => false) n).toArray 4)).setCell ⟨O, k, none⟩ (.slice (some ⟨wr.heap.size, 0, none⟩) n n)) := by
  have hlt := h.lt
  have hold : ∀ x, x < wr.heap.size → (wr.alloc (.cells (boolCells (fun _ => false) n).toArray 4)).heap[x]? = wr.heap[x]? := fun x hx => Below.heap_alloc wr _ x hx
  refine ⟨?_, fun i hi => ?_, fun i j hi hj e => ?_, fun i hi => ?_, ⟨h.ge.1, fun i hi => ?_⟩, ?_⟩
  · rw [heap_setCell_same _ O k _ (by rw [hold O hlt.1]; exact h.blk), List.setIfInBounds_toArray]
    congr 3
    apply List.ext_getElem?
    intro i
    rw [List.getElem?_set]
    by_cases hin : i < n
    · by_cases e : k = i
      · subst e
        simp [rowV, hk]
      · rw [if_neg e]
        simp only [List.getElem?_map, List.getElem?_range hin, Option.map_some, rowV]
        by_cases h1 : i < k
        · rw [if_pos h1, if_pos (by omega), if_neg (by omega)]
        · rw [if_neg h1, if_neg (by omega)]
    · have e1 : ((List.range n).map (rowV n R k))[i]? = none := List.getElem?_eq_none (by simp; omega)
      have e2 : ((List.range n).map (rowV n (fun i => if i = k then wr.heap.size else R i) (k + 1)))[i]? = none := List.getElem?_eq_none (by simp; omega)
      rw [e1, e2, if_neg (by omega)]
  · by_cases e : i = k
    · subst e
      simp only [if_pos rfl]
      refine Marks.congr (f := fun _ => false) (Marks.keep (w := wr.alloc (.cells (boolCells (fun _ => false) n).toArray 4)) (heap_alloc_new wr _) (heap_setCell_ne (k := wr.heap.size) _ O i _ (by omega))) fun j hj => (hT2 j hj).symm
    · have hik : i < k := by omega
      have hRl := hlt.2 i hik
      simp only [if_neg e]
      refine Marks.congr (f := T i) ((h.row i hik).keep ?_) fun j hj => (hT i j hik).symm
      rw [heap_setCell_ne _ O k _ (h.off i hik), hold _ hRl]
  · by_cases e1 : i = k <;> by_cases e2 : j = k
    · omega
    · simp only [if_pos e1, if_neg e2] at e
      have := hlt.2 j (by omega)
      omega
    · simp only [if_neg e1, if_pos e2] at e
      have := hlt.2 i (by omega)
      omega
    · simp only [if_neg e1, if_neg e2] at e
      exact h.inj i j (by omega) (by omega) e
  · by_cases e : i = k
    · simp only [if_pos e]; have := hlt.1; omega
    · simp only [if_neg e]; exact h.off i (by omega)
  · by_cases e : i = k
    · simp only [if_pos e]; exact hb
    · simp only [if_neg e]; exact h.ge.2 i (by omega)
  · exact (h.below.alloc hb _).setCell h.ge.1 _
theorem Grid.start (hb : Below base w wr) (hO : base ≤ O) (hblk : wr.heap[O]? = some (.cells ((List.range n).map fun _ => Value.slice none 0 0).toArray 171)) (R : Nat → Nat) (T : Nat → Nat → Bool) : Grid w base O n 0 R T wr :=
  ⟨hblk, fun i hi => absurd hi (Nat.not_lt_zero _), fun i j hi => absurd hi (Nat.not_lt_zero _), fun i hi => absurd hi (Nat.not_lt_zero _), ⟨hO, fun i hi => absurd hi (Nat.not_lt_zero _)⟩, hb⟩
end

theorem Grid.drewN {w : World} {base O n k : Nat} {R : Nat → Nat} {T : Nat → Nat → Bool} {wr : World} (h : Grid w base O n k R T wr) (q : Nat) : Grid w base O n k R T (wr.drewN q) := h.keep (drewN_below h.below q) (fun _ _ => rfl)
theorem Grid.drew {w : World} {base O n k : Nat} {R : Nat → Nat} {T : Nat → Nat → Bool} {wr : World} (h : Grid w base O n k R T wr) : Grid w base O n k R T wr.drew := h.keep h.below.drew (fun _ _ => rfl)
theorem Grid.congr {w : World} {base O n k : Nat} {R : Nat → Nat} {T T' : Nat → Nat → Bool} {wr : World} (h : Grid w base O n k R T wr) (e : ∀ i j, i < k → j < n → T i j = T' i j) : Grid w base O n k R T' wr :=
  ⟨h.blk, fun i hi => (h.row i hi).congr (fun j hj => e i j hi hj), h.inj, h.off, h.ge, h.below⟩
theorem mk_boolc (n : Nat) (hn : n ≤ 1000) : ∀ w, (Instr.makeSlice 171 (.int .i64 ((n : Nat) : Int)) (.int .i64 ((n : Nat) : Int))).run Tryz.prog w = .ok (.slice (some ⟨w.heap.size, 0, none⟩) n n) (w.alloc (.cells (boolCells (fun _ => false) n).toArray 4)) := mk_bools n hn

/-! ### what the table holds -/
/-- Each one, and the first of the edges. -/
def tabE (l : List EdgeD) (a b : Nat) : Bool := a == b || l.any fun e => e.1 == ((a : Nat) : Int) && e.2 == ((b : Nat) : Int)
theorem tabE_snoc (l : List EdgeD) (x y a b : Nat) : tabE (l ++ [(((x : Nat) : Int), ((y : Nat) : Int))]) a b = if a = x ∧ b = y then true else tabE l a b := by
  unfold tabE
  rw [List.any_append]
  by_cases h : a = x ∧ b = y
  · rw [if_pos h, h.1, h.2]
    simp
  · rw [if_neg h]
    have : (((x : Nat) : Int) == ((a : Nat) : Int) && ((y : Nat) : Int) == ((b : Nat) : Int)) = false := by
      rw [Bool.eq_false_iff]
      intro e
      simp only [Bool.and_eq_true, beq_iff_eq] at e
      exact h ⟨by omega, by omega⟩
    simp [this]
theorem tabE_table {l : List EdgeD} {n : Nat} : Table (EdL l) n (tabE l) 0 := by
  refine ⟨fun i j hi hj h => ?_, fun i hi => by simp [tabE], fun i j h => ?_, fun m hm => absurd hm (Nat.not_lt_zero _)⟩
  · unfold tabE at h
    rw [Bool.or_eq_true] at h
    rcases h with h | h
    · have : i = j := by simpa using h
      rw [this]
      exact .refl j
    · rw [List.any_eq_true] at h
      obtain ⟨⟨x, y⟩, hm, he⟩ := h
      simp only [Bool.and_eq_true, beq_iff_eq] at he
      rw [he.1, he.2] at hm
      exact .one hm
  · unfold tabE
    rw [Bool.or_eq_true]
    exact Or.inr (List.any_eq_true.2 ⟨_, h, by simp⟩)
def fwN (T : Nat → Nat → Bool) : Nat → Nat → Nat → Bool
  | 0 => T
  | k + 1 => fw (fwN T k) k
theorem fwN_table {E : Nat → Nat → Prop} {n : Nat} {T : Nat → Nat → Bool} (h : Table E n T 0) : ∀ k, k ≤ n → Table E n (fwN T k) k
  | 0, _ => h
  | k + 1, hk => (fwN_table h k (by omega)).step (by omega)
/-! ### is it free, as far as j -/
def freeU (T : Nat → Nat → Bool) (told : Nat → Bool) (i j : Nat) : Bool := !told i && (List.range j).all fun x => told x || (!T x i || T i x)
theorem freeU_zero (T : Nat → Nat → Bool) (told : Nat → Bool) (i : Nat) : freeU T told i 0 = !told i := by simp [freeU]
theorem freeU_succ (T : Nat → Nat → Bool) (told : Nat → Bool) (i j : Nat) : freeU T told i (j + 1) = (freeU T told i j && (told j || (!T j i || T i j))) := by
  unfold freeU
  rw [List.range_succ, List.all_append]
  simp [Bool.and_assoc]
def setU (T : Nat → Nat → Bool) (i j : Nat) : List Nat := (List.range j).filter fun x => T i x && T x i
theorem setU_succ (T : Nat → Nat → Bool) (i j : Nat) : setU T i (j + 1) = if (T i j && T j i) = true then setU T i j ++ [j] else setU T i j := by
  unfold setU
  rw [List.range_succ, List.filter_append]
  cases h : (T i j && T j i)
  · simp [List.filter_cons, h]
  · simp [List.filter_cons, h]
theorem setU_len (T : Nat → Nat → Bool) (i j : Nat) : (setU T i j).length ≤ j := by
  unfold setU
  have := List.length_filter_le (fun x => T i x && T x i) (List.range j)
  rw [List.length_range] at this
  exact this
theorem tellB_succ (T : Nat → Nat → Bool) (told : Nat → Bool) (i j x : Nat) : tellB T told i (j + 1) x = if x = j ∧ (T i j && T j i) = true then true else tellB T told i j x := by
  unfold tellB
  by_cases h : x = j
  · subst h
    cases h2 : (T i x && T x i)
    · simp [h2]
    · simp [h2]
  · rw [if_neg (fun e => h e.1)]
    have : decide (x < j + 1) = decide (x < j) := decide_eq_decide.2 (by omega)
    rw [this]
theorem tellB_zero (T : Nat → Nat → Bool) (told : Nat → Bool) (i x : Nat) : tellB T told i 0 x = told x := by simp [tellB]
end Go.Proofs.YtnfnebfioibndaaGreatDoor
