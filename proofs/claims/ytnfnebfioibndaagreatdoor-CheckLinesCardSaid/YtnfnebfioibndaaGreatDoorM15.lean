/- A walker (order.walker) in memory, and what each of its steps does to it. · A slice of numbers behind a variable of its own, that grows. -/
import Derived.Test.YtnfnebfioibndaaGreatDoorM14
import Derived.Test.YtnfnebfioibndaaGreatDoorM01
import Derived.Laws.AppendOwn
import Derived.Laws.OwnMore
import Derived.Lib.Hide
import Derived.Test.YtnfnebfioibndaaGreatDoorM12
import Derived.OneCell
import Derived.Lib.AppendZeros
namespace Go.Proofs.YtnfnebfioibndaaGreatDoor
open Go.RowKit
set_option maxRecDepth 100000

def natCells (f : Nat → Nat) (n : Nat) : List Value := (List.range n).map fun i => .int .i64 ((f i : Nat) : Int)
def natRow (xs : List Nat) : List Value := xs.map fun x => .int .i64 ((x : Nat) : Int)
/-- A slice of numbers. -/
def Row (w : World) (v : Value) (xs : List Nat) : Prop := Sl w v xs.length 1 (fun i _ => .int .i64 ((xs.getD i 0 : Nat) : Int))

theorem natCells_len (f : Nat → Nat) (n : Nat) : (natCells f n).length = n := by simp [natCells]
theorem natCells_at (f : Nat → Nat) {n i : Nat} (h : i < n) : (natCells f n)[i]? = some (.int .i64 ((f i : Nat) : Int)) := by simp [natCells, h]
theorem natCells_set (f : Nat → Nat) (n v x : Nat) : (natCells f n).set v (.int .i64 ((x : Nat) : Int)) = natCells (upd f v x) n := by
  apply List.ext_getElem?
  intro i
  rw [List.getElem?_set]
  rcases Nat.lt_or_ge i n with hi | hi
  · rw [natCells_at _ hi, natCells_at _ hi, natCells_len]
    by_cases e : v = i
    · subst e
      simp [upd_same, hi]
    · rw [if_neg e, upd_ne _ _ (Ne.symm e)]
  · have e1 : (natCells f n)[i]? = none := List.getElem?_eq_none (by rw [natCells_len]; exact hi)
    have e2 : (natCells (upd f v x) n)[i]? = none := List.getElem?_eq_none (by rw [natCells_len]; exact hi)
    rw [e1, e2, natCells_len]
    by_cases e : v = i
    · rw [if_pos e, if_neg (by omega)]
    · rw [if_neg e]

theorem heap_setCell_ne (w : World) (b o : Nat) (v : Value) {k : Nat} (h : k ≠ b) : (w.setCell ⟨b, o, none⟩ v).heap[k]? = w.heap[k]? := by
  unfold World.setCell
  rw [Array.getElem?_modify, if_neg (Ne.symm h)]
theorem heap_setCell_same (w : World) (b o : Nat) (v : Value) {c : Array Value} {t : TypeId} {fr : Nat × Nat} (h : w.heap[b]? = some (.cells c t fr)) : (w.setCell ⟨b, o, none⟩ v).heap[b]? = some (.cells (c.setIfInBounds o v) t fr) := by
  unfold World.setCell
  rw [Array.getElem?_modify, if_pos rfl, h]
  rfl

/-- What lies in a block that was not written lies there. -/
theorem Sl.kept {w w' : World} {v : Value} {n sz : Nat} {R : Nat → Nat → Value} (h : Sl w v n sz R) (hs : w.heap.size ≤ w'.heap.size) (hk : ∀ k, v.ownBlock = some k → w'.heap[k]? = w.heap[k]?) : Sl w' v n sz R := by
  obtain ⟨a, cap, rfl, h1, h2, h3⟩ := h
  refine ⟨a, cap, rfl, h1, h2, ?_⟩
  rcases h3 with h0 | ⟨b, o, rfl, hb, hc⟩
  · exact Or.inl h0
  · refine Or.inr ⟨b, o, rfl, Nat.lt_of_lt_of_le hb hs, fun i j hi hj => ?_⟩
    rw [← hc i j hi hj]
    exact World.cell?_of_block (hk b rfl)
theorem ownsRow_kept {w w' : World} {base : Nat} {e : TypeId} {sz : Nat} {v : Value} {n : Nat} {xs : List Value} (h : w.ownsRow base e sz v n xs) (hk : ∀ k, v.ownBlock = some k → w'.heap[k]? = w.heap[k]?) : w'.ownsRow base e sz v n xs := by
  refine ⟨h.1, ?_⟩
  rcases h.2 with hn | ⟨g, cap, cur, rfl, hb, hg, rest⟩
  · exact Or.inl hn
  · exact Or.inr ⟨g, cap, cur, rfl, hb, by rw [hk g rfl]; exact hg, rest⟩

/-- What the walker does not write: its edges, and the rings that it has told. -/
def Told (n : Nat) (outv : Value) (rows : Nat → Value) (qs : List Value) (v : Value) : Prop := v = outv ∨ (∃ i, i < n ∧ v = rows i) ∨ v ∈ qs
structure Wk (base B A L n : Nat) (adj : Nat → List Nat) (outv : Value) (rows : Nat → Value) (w : World) (s : St) (ov qv : Value) (qs : List Value) : Prop where
  ge : base ≤ B ∧ base ≤ A ∧ base ≤ L
  ne : B ≠ A ∧ B ≠ L ∧ A ≠ L
  blk : w.heap[B]? = some (.cells #[outv, .slice (some ⟨A, 0, none⟩) n n, .slice (some ⟨L, 0, none⟩) n n, ov, .int .i64 ((s.cnt : Nat) : Int), qv] 164)
  ats : w.heap[A]? = some (.cells (natCells s.at_ n).toArray 3)
  lows : w.heap[L]? = some (.cells (natCells s.low n).toArray 3)
  out : Sl w outv n 1 (fun i _ => rows i)
  row : ∀ i, i < n → Row w (rows i) (adj i)
  opn : w.ownsRow base 3 1 ov s.opn.length (natRow s.opn)
  sets : w.ownsRow base 31 1 qv qs.length qs
  lens : qs.length = s.sets.length
  set : ∀ (i : Nat) (v : Value) (S : List Nat), qs[i]? = some v → s.sets[i]? = some S → Row w v S
  apO : ∀ k, ov.ownBlock = some k → k ≠ B ∧ k ≠ A ∧ k ≠ L
  apQ : ∀ k, qv.ownBlock = some k → k ≠ B ∧ k ≠ A ∧ k ≠ L ∧ ov.ownBlock ≠ some k
  apT : ∀ v, Told n outv rows qs v → ∀ k, v.ownBlock = some k → k ≠ B ∧ k ≠ A ∧ k ≠ L ∧ ov.ownBlock ≠ some k ∧ qv.ownBlock ≠ some k
  tlt : ∀ v, Told n outv rows qs v → ∀ k, v.ownBlock = some k → k < w.heap.size

section
variable {base B A L n : Nat} {adj : Nat → List Nat} {outv : Value} {rows : Nat → Value} {w : World} {s : St} {ov qv : Value} {qs : List Value}

theorem lt_of_block {w : World} {k : Nat} {o : Obj} (h : w.heap[k]? = some o) : k < w.heap.size := by
  rcases Nat.lt_or_ge k w.heap.size with h' | h'
  · exact h'
  · rw [Array.getElem?_eq_none h'] at h; cases h
theorem Wk.lt (h : Wk base B A L n adj outv rows w s ov qv qs) : B < w.heap.size ∧ A < w.heap.size ∧ L < w.heap.size := ⟨lt_of_block h.blk, lt_of_block h.ats, lt_of_block h.lows⟩
theorem Wk.of_heap {w' : World} (h : Wk base B A L n adj outv rows w s ov qv qs) (e : w'.heap = w.heap) : Wk base B A L n adj outv rows w' s ov qv qs :=
  ⟨h.ge, h.ne, by rw [e]; exact h.blk, by rw [e]; exact h.ats, by rw [e]; exact h.lows, h.out.kept (by rw [e]; exact Nat.le_refl _) (fun _ _ => by rw [e]), fun i hi => (h.row i hi).kept (by rw [e]; exact Nat.le_refl _) (fun _ _ => by rw [e]),
    ownsRow_kept h.opn (fun _ _ => by rw [e]), ownsRow_kept h.sets (fun _ _ => by rw [e]), h.lens, fun i v S h1 h2 => (h.set i v S h1 h2).kept (by rw [e]; exact Nat.le_refl _) (fun _ _ => by rw [e]), h.apO, h.apQ, h.apT, fun v hv k e' => by rw [e]; exact h.tlt v hv k e'⟩

theorem Wk.cell (h : Wk base B A L n adj outv rows w s ov qv qs) : w.cell? ⟨B, 0, none⟩ = some outv ∧ w.cell? ⟨B, 1, none⟩ = some (.slice (some ⟨A, 0, none⟩) n n) ∧ w.cell? ⟨B, 2, none⟩ = some (.slice (some ⟨L, 0, none⟩) n n) ∧ w.cell? ⟨B, 3, none⟩ = some ov ∧ w.cell? ⟨B, 4, none⟩ = some (.int .i64 ((s.cnt : Nat) : Int)) ∧ w.cell? ⟨B, 5, none⟩ = some qv := by
  refine ⟨?_, ?_, ?_, ?_, ?_, ?_⟩ <;> simp [World.cell?, h.blk]
theorem Wk.free (h : Wk base B A L n adj outv rows w s ov qv qs) (o : Nat) : w.frozen? ⟨B, o, none⟩ = false ∧ w.frozen? ⟨A, o, none⟩ = false ∧ w.frozen? ⟨L, o, none⟩ = false := by
  refine ⟨?_, ?_, ?_⟩ <;> simp [World.frozen?, h.blk, h.ats, h.lows]
theorem Wk.at_ (h : Wk base B A L n adj outv rows w s ov qv qs) {u : Nat} (hu : u < n) : w.cell? ⟨A, u, none⟩ = some (.int .i64 ((s.at_ u : Nat) : Int)) := by
  have := natCells_at s.at_ hu
  simp only [World.cell?, h.ats]
  simpa using this
theorem Wk.low (h : Wk base B A L n adj outv rows w s ov qv qs) {u : Nat} (hu : u < n) : w.cell? ⟨L, u, none⟩ = some (.int .i64 ((s.low u : Nat) : Int)) := by
  have := natCells_at s.low hu
  simp only [World.cell?, h.lows]
  simpa using this

/-- A store into one of its three blocks. -/
theorem Wk.setAt (h : Wk base B A L n adj outv rows w s ov qv qs) (u x : Nat) : Wk base B A L n adj outv rows (w.setCell ⟨A, u, none⟩ (.int .i64 ((x : Nat) : Int))) { s with at_ := upd s.at_ u x } ov qv qs := by
  obtain ⟨n1, n2, n3⟩ := h.ne
  have hs : w.heap.size ≤ (w.setCell ⟨A, u, none⟩ (.int .i64 ((x : Nat) : Int))).heap.size := by simp [World.setCell]
  have hk : ∀ k, k ≠ A → (w.setCell ⟨A, u, none⟩ (.int .i64 ((x : Nat) : Int))).heap[k]? = w.heap[k]? := fun k hk => heap_setCell_ne w A u _ hk
  have hT : ∀ v, Told n outv rows qs v → ∀ k, v.ownBlock = some k → (w.setCell ⟨A, u, none⟩ (.int .i64 ((x : Nat) : Int))).heap[k]? = w.heap[k]? := fun v hv k e => hk k (h.apT v hv k e).2.1
  refine ⟨h.ge, h.ne, by rw [hk B n1]; exact h.blk, ?_, by rw [hk L (Ne.symm n3)]; exact h.lows, h.out.kept hs (hT _ (Or.inl rfl)), fun i hi => (h.row i hi).kept hs (hT _ (Or.inr (Or.inl ⟨i, hi, rfl⟩))), ownsRow_kept h.opn (fun k e => hk k (h.apO k e).2.1), ownsRow_kept h.sets (fun k e => hk k (h.apQ k e).2.1), h.lens, fun i v S h1 h2 => (h.set i v S h1 h2).kept hs (hT _ (Or.inr (Or.inr (List.mem_of_getElem? h1)))), h.apO, h.apQ, h.apT, fun v hv k e => Nat.lt_of_lt_of_le (h.tlt v hv k e) hs⟩
  rw [heap_setCell_same w A u _ h.ats, List.setIfInBounds_toArray, natCells_set]
theorem Wk.setLow (h : Wk base B A L n adj outv rows w s ov qv qs) (u x : Nat) : Wk base B A L n adj outv rows (w.setCell ⟨L, u, none⟩ (.int .i64 ((x : Nat) : Int))) { s with low := upd s.low u x } ov qv qs := by
  obtain ⟨n1, n2, n3⟩ := h.ne
  have hs : w.heap.size ≤ (w.setCell ⟨L, u, none⟩ (.int .i64 ((x : Nat) : Int))).heap.size := by simp [World.setCell]
  have hk : ∀ k, k ≠ L → (w.setCell ⟨L, u, none⟩ (.int .i64 ((x : Nat) : Int))).heap[k]? = w.heap[k]? := fun k hk => heap_setCell_ne w L u _ hk
  have hT : ∀ v, Told n outv rows qs v → ∀ k, v.ownBlock = some k → (w.setCell ⟨L, u, none⟩ (.int .i64 ((x : Nat) : Int))).heap[k]? = w.heap[k]? := fun v hv k e => hk k (h.apT v hv k e).2.2.1
  refine ⟨h.ge, h.ne, by rw [hk B n2]; exact h.blk, by rw [hk A n3]; exact h.ats, ?_, h.out.kept hs (hT _ (Or.inl rfl)), fun i hi => (h.row i hi).kept hs (hT _ (Or.inr (Or.inl ⟨i, hi, rfl⟩))), ownsRow_kept h.opn (fun k e => hk k (h.apO k e).2.2), ownsRow_kept h.sets (fun k e => hk k (h.apQ k e).2.2.1), h.lens, fun i v S h1 h2 => (h.set i v S h1 h2).kept hs (hT _ (Or.inr (Or.inr (List.mem_of_getElem? h1)))), h.apO, h.apQ, h.apT, fun v hv k e => Nat.lt_of_lt_of_le (h.tlt v hv k e) hs⟩
  rw [heap_setCell_same w L u _ h.lows, List.setIfInBounds_toArray, natCells_set]
theorem Wk.setCnt (h : Wk base B A L n adj outv rows w s ov qv qs) (x : Nat) : Wk base B A L n adj outv rows (w.setCell ⟨B, 4, none⟩ (.int .i64 ((x : Nat) : Int))) { s with cnt := x } ov qv qs := by
  obtain ⟨n1, n2, n3⟩ := h.ne
  have hs : w.heap.size ≤ (w.setCell ⟨B, 4, none⟩ (.int .i64 ((x : Nat) : Int))).heap.size := by simp [World.setCell]
  have hk : ∀ k, k ≠ B → (w.setCell ⟨B, 4, none⟩ (.int .i64 ((x : Nat) : Int))).heap[k]? = w.heap[k]? := fun k hk => heap_setCell_ne w B 4 _ hk
  have hT : ∀ v, Told n outv rows qs v → ∀ k, v.ownBlock = some k → (w.setCell ⟨B, 4, none⟩ (.int .i64 ((x : Nat) : Int))).heap[k]? = w.heap[k]? := fun v hv k e => hk k (h.apT v hv k e).1
  refine ⟨h.ge, h.ne, ?_, by rw [hk A (Ne.symm n1)]; exact h.ats, by rw [hk L (Ne.symm n2)]; exact h.lows, h.out.kept hs (hT _ (Or.inl rfl)), fun i hi => (h.row i hi).kept hs (hT _ (Or.inr (Or.inl ⟨i, hi, rfl⟩))), ownsRow_kept h.opn (fun k e => hk k (h.apO k e).1), ownsRow_kept h.sets (fun k e => hk k (h.apQ k e).1), h.lens, fun i v S h1 h2 => (h.set i v S h1 h2).kept hs (hT _ (Or.inr (Or.inr (List.mem_of_getElem? h1)))), h.apO, h.apQ, h.apT, fun v hv k e => Nat.lt_of_lt_of_le (h.tlt v hv k e) hs⟩
  rw [heap_setCell_same w B 4 _ h.blk]
  rfl

/-- Any step that leaves what is not the walker's own as it was. -/
theorem Wk.told {w' : World} (h : Wk base B A L n adj outv rows w s ov qv qs) (hs : w.heap.size ≤ w'.heap.size) (hk : ∀ k, k < w.heap.size → k ≠ B → k ≠ A → k ≠ L → ov.ownBlock ≠ some k → qv.ownBlock ≠ some k → w'.heap[k]? = w.heap[k]?) :
    Sl w' outv n 1 (fun i _ => rows i) ∧ (∀ i, i < n → Row w' (rows i) (adj i)) ∧ (∀ (i : Nat) (v : Value) (S : List Nat), qs[i]? = some v → s.sets[i]? = some S → Row w' v S) := by
  have key : ∀ {v : Value} {m : Nat} {R : Nat → Nat → Value}, Told n outv rows qs v → Sl w v m 1 R → Sl w' v m 1 R := by
    intro v m R hT hS
    obtain ⟨a, cap, rfl, h1, h2, h3⟩ := hS
    rcases h3 with h0 | ⟨b, o, rfl, hb, hc⟩
    · exact ⟨a, cap, rfl, h1, h2, Or.inl h0⟩
    · obtain ⟨p1, p2, p3, p4, p5⟩ := h.apT _ hT b rfl
      exact ⟨_, cap, rfl, h1, h2, Or.inr ⟨b, o, rfl, Nat.lt_of_lt_of_le hb hs, fun i j hi hj => (World.cell?_of_block (hk b hb p1 p2 p3 p4 p5)).trans (hc i j hi hj)⟩⟩
  exact ⟨key (Or.inl rfl) h.out, fun i hi => key (Or.inr (Or.inl ⟨i, hi, rfl⟩)) (h.row i hi), fun i v S h1 h2 => key (Or.inr (Or.inr (List.mem_of_getElem? h1))) (h.set i v S h1 h2)⟩

theorem own_lt {w : World} {base : Nat} {e : TypeId} {sz : Nat} {v : Value} {m : Nat} {xs : List Value} (h : w.ownsRow base e sz v m xs) {k : Nat} (hk : v.ownBlock = some k) : k < w.heap.size := (h.lt k hk).2

/-- A new block. -/
theorem Wk.alloc (h : Wk base B A L n adj outv rows w s ov qv qs) (o : Obj) : Wk base B A L n adj outv rows (w.alloc o) s ov qv qs := by
  have hb : ∀ k, k < w.heap.size → (w.alloc o).heap[k]? = w.heap[k]? := fun k hk => Below.heap_alloc w o k hk
  obtain ⟨l1, l2, l3⟩ := h.lt
  have hs : w.heap.size ≤ (w.alloc o).heap.size := by simp
  obtain ⟨t1, t2, t3⟩ := h.told (w' := w.alloc o) hs (fun k hk _ _ _ _ _ => hb k hk)
  exact ⟨h.ge, h.ne, by rw [hb B l1]; exact h.blk, by rw [hb A l2]; exact h.ats, by rw [hb L l3]; exact h.lows, t1, t2, h.opn.alloc o, h.sets.alloc o, h.lens, t3, h.apO, h.apQ, h.apT, fun v hv k e => Nat.lt_of_lt_of_le (h.tlt v hv k e) hs⟩

/-- One more is open. -/
theorem Wk.pushOpen (h : Wk base B A L n adj outv rows w s ov qv qs) {w' : World} {ov' : Value} {u : Nat} (hg : w.grownBy w' ov.ownBlock) (ho : w'.ownsRow base 3 1 ov' (s.opn.length + 1) (natRow s.opn ++ [.int .i64 ((u : Nat) : Int)])) (hat : ov'.ownBlock = ov.ownBlock ∨ ov'.ownBlock = some w.heap.size) :
    Wk base B A L n adj outv rows (w'.setCell ⟨B, 3, none⟩ ov') { s with opn := s.opn ++ [u] } ov' qv qs := by
  obtain ⟨l1, l2, l3⟩ := h.lt
  obtain ⟨n1, n2, n3⟩ := h.ne
  have hb : ∀ k, k < w.heap.size → ov.ownBlock ≠ some k → w'.heap[k]? = w.heap[k]? := fun k hk hne => hg.block k hk (Ne.symm hne)
  have hoB : ov.ownBlock ≠ some B := fun e => (h.apO B e).1 rfl
  have hoA : ov.ownBlock ≠ some A := fun e => (h.apO A e).2.1 rfl
  have hoL : ov.ownBlock ≠ some L := fun e => (h.apO L e).2.2 rfl
  have hkk : ∀ k, k ≠ B → (w'.setCell ⟨B, 3, none⟩ ov').heap[k]? = w'.heap[k]? := fun k hk => heap_setCell_ne w' B 3 _ hk
  have hs : w.heap.size ≤ (w'.setCell ⟨B, 3, none⟩ ov').heap.size := by have := hg.size; simpa [World.setCell] using this
  obtain ⟨t1, t2, t3⟩ := h.told (w' := w'.setCell ⟨B, 3, none⟩ ov') hs (fun k hk p1 _ _ p4 _ => by rw [hkk k p1]; exact hb k hk p4)
  have hnew : ∀ k, ov'.ownBlock = some k → ov.ownBlock = some k ∨ k = w.heap.size := by
    intro k e
    rcases hat with e' | e'
    · exact Or.inl (by rw [← e']; exact e)
    · rw [e] at e'; injection e' with e'; exact Or.inr e'
  refine ⟨h.ge, h.ne, ?_, by rw [hkk A (Ne.symm n1), hb A l2 hoA]; exact h.ats, by rw [hkk L (Ne.symm n2), hb L l3 hoL]; exact h.lows, t1, t2, ?_, ?_, h.lens, t3, ?_, ?_, ?_, fun v hv k e => Nat.lt_of_lt_of_le (h.tlt v hv k e) hs⟩
  · rw [heap_setCell_same w' B 3 ov' (by rw [hb B l1 hoB]; exact h.blk)]
    rfl
  · have e1 : (s.opn ++ [u]).length = s.opn.length + 1 := by simp
    have e2 : natRow (s.opn ++ [u]) = natRow s.opn ++ [.int .i64 ((u : Nat) : Int)] := by simp [natRow]
    show World.ownsRow _ _ _ _ _ (s.opn ++ [u]).length (natRow (s.opn ++ [u]))
    rw [e1, e2]
    refine ownsRow_kept ho (fun k e => hkk k ?_)
    rcases hnew k e with e | e
    · exact (h.apO k e).1
    · omega
  · refine ownsRow_kept h.sets (fun k e => ?_)
    obtain ⟨p1, p2, p3, p4⟩ := h.apQ k e
    rw [hkk k p1, hb k (own_lt h.sets e) p4]
  · intro k e
    rcases hnew k e with e | e
    · exact h.apO k e
    · exact ⟨by omega, by omega, by omega⟩
  · intro k e
    obtain ⟨p1, p2, p3, p4⟩ := h.apQ k e
    refine ⟨p1, p2, p3, fun e' => ?_⟩
    rcases hnew k e' with e' | e'
    · exact p4 e'
    · have := own_lt h.sets e; omega
  · intro v hv k e
    obtain ⟨p1, p2, p3, p4, p5⟩ := h.apT v hv k e
    refine ⟨p1, p2, p3, fun e' => ?_, p5⟩
    rcases hnew k e' with e' | e'
    · exact p4 e'
    · have := h.tlt v hv k e; omega

/-- Some are not open any more. -/
theorem Wk.cutOpen (h : Wk base B A L n adj outv rows w s ov qv qs) {a : Option Addr} {m c : Nat} (e0 : ov = .slice a m c) {k : Nat} (hk : k ≤ s.opn.length) :
    Wk base B A L n adj outv rows (w.setCell ⟨B, 3, none⟩ (.slice a k c)) { s with opn := s.opn.take k } (.slice a k c) qv qs := by
  subst e0
  obtain ⟨n1, n2, n3⟩ := h.ne
  have hkk : ∀ k', k' ≠ B → (w.setCell ⟨B, 3, none⟩ (.slice a k c)).heap[k']? = w.heap[k']? := fun k' hk => heap_setCell_ne w B 3 _ hk
  have hs : w.heap.size ≤ (w.setCell ⟨B, 3, none⟩ (.slice a k c)).heap.size := by simp [World.setCell]
  have eo : (Value.slice a k c).ownBlock = (Value.slice a m c).ownBlock := by cases a <;> rfl
  obtain ⟨t1, t2, t3⟩ := h.told (w' := w.setCell ⟨B, 3, none⟩ (.slice a k c)) hs (fun k' _ p1 _ _ _ _ => hkk k' p1)
  refine ⟨h.ge, h.ne, ?_, by rw [hkk A (Ne.symm n1)]; exact h.ats, by rw [hkk L (Ne.symm n2)]; exact h.lows, t1, t2, ?_, ownsRow_kept h.sets (fun k' e => hkk k' (h.apQ k' e).1), h.lens, t3, fun k' e => h.apO k' (by rw [← eo]; exact e), fun k' e => by rw [eo]; exact h.apQ k' e, fun v hv k' e => by rw [eo]; exact h.apT v hv k' e, fun v hv k' e => Nat.lt_of_lt_of_le (h.tlt v hv k' e) hs⟩
  · rw [heap_setCell_same w B 3 _ h.blk]
    rfl
  · have hl : (s.opn.take k).length = k := by simp; omega
    have hr : natRow (s.opn.take k) = (natRow s.opn).take k := by simp [natRow, List.map_take]
    refine ownsRow_kept (w := w) ?_ (fun k' e => hkk k' (h.apO k' (by rw [← eo]; exact e)).1)
    show World.ownsRow _ _ _ _ _ (s.opn.take k).length (natRow (s.opn.take k))
    rw [hl, hr]
    have hlen : (natRow s.opn).length = s.opn.length := by simp [natRow]
    refine ⟨by rw [List.length_take, hlen]; omega, ?_⟩
    rcases h.opn.2 with ⟨hn, h0⟩ | ⟨g, cap, cur, hv, hb, hg, h1, h2, h3, h4⟩
    · injection hn with x1 x2 x3
      subst x1 x3
      exact Or.inl ⟨by rw [show k = 0 by omega], by omega⟩
    · injection hv with x1 x2 x3
      subst x1 x3
      refine Or.inr ⟨g, c, cur, rfl, hb, hg, by omega, h2, h3, ?_⟩
      rw [Nat.mul_one] at h4 ⊢
      rw [← h4, List.take_take, Nat.min_eq_left hk]

/-- One more ring is told. -/
theorem Wk.pushSet (h : Wk base B A L n adj outv rows w s ov qv qs) {w' : World} {qv' v : Value} {S : List Nat} (hg : w.grownBy w' qv.ownBlock) (ho : w'.ownsRow base 31 1 qv' (qs.length + 1) (qs ++ [v])) (hat : qv'.ownBlock = qv.ownBlock ∨ qv'.ownBlock = some w.heap.size)
    (hv : Row w v S) (hvb : ∀ k, v.ownBlock = some k → k < w.heap.size ∧ k ≠ B ∧ k ≠ A ∧ k ≠ L ∧ ov.ownBlock ≠ some k ∧ qv.ownBlock ≠ some k) :
    Wk base B A L n adj outv rows (w'.setCell ⟨B, 5, none⟩ qv') { s with sets := s.sets ++ [S] } ov qv' (qs ++ [v]) := by
  obtain ⟨l1, l2, l3⟩ := h.lt
  obtain ⟨n1, n2, n3⟩ := h.ne
  have hb : ∀ k, k < w.heap.size → qv.ownBlock ≠ some k → w'.heap[k]? = w.heap[k]? := fun k hk hne => hg.block k hk (Ne.symm hne)
  have hqB : qv.ownBlock ≠ some B := fun e => (h.apQ B e).1 rfl
  have hqA : qv.ownBlock ≠ some A := fun e => (h.apQ A e).2.1 rfl
  have hqL : qv.ownBlock ≠ some L := fun e => (h.apQ L e).2.2.1 rfl
  have hkk : ∀ k, k ≠ B → (w'.setCell ⟨B, 5, none⟩ qv').heap[k]? = w'.heap[k]? := fun k hk => heap_setCell_ne w' B 5 _ hk
  have hs : w.heap.size ≤ (w'.setCell ⟨B, 5, none⟩ qv').heap.size := by have := hg.size; simpa [World.setCell] using this
  obtain ⟨t1, t2, t3⟩ := h.told (w' := w'.setCell ⟨B, 5, none⟩ qv') hs (fun k hk p1 _ _ _ p5 => by rw [hkk k p1]; exact hb k hk p5)
  have hnew : ∀ k, qv'.ownBlock = some k → qv.ownBlock = some k ∨ k = w.heap.size := by
    intro k e
    rcases hat with e' | e'
    · exact Or.inl (by rw [← e']; exact e)
    · rw [e] at e'; injection e' with e'; exact Or.inr e'
  have hTold : ∀ x, Told n outv rows (qs ++ [v]) x → Told n outv rows qs x ∨ x = v := by
    intro x hx
    rcases hx with hx | hx | hx
    · exact Or.inl (Or.inl hx)
    · exact Or.inl (Or.inr (Or.inl hx))
    · rcases List.mem_append.1 hx with hx | hx
      · exact Or.inl (Or.inr (Or.inr hx))
      · exact Or.inr (List.mem_singleton.1 hx)
  have hlt : ∀ x, Told n outv rows (qs ++ [v]) x → ∀ k, x.ownBlock = some k → k < w.heap.size := by
    intro x hx k e
    rcases hTold x hx with hx | rfl
    · exact h.tlt x hx k e
    · exact (hvb k e).1
  refine ⟨h.ge, h.ne, ?_, by rw [hkk A (Ne.symm n1), hb A l2 hqA]; exact h.ats, by rw [hkk L (Ne.symm n2), hb L l3 hqL]; exact h.lows, t1, t2, ?_, ?_, ?_, ?_, h.apO, ?_, ?_, fun x hx k e => Nat.lt_of_lt_of_le (hlt x hx k e) hs⟩
  · rw [heap_setCell_same w' B 5 qv' (by rw [hb B l1 hqB]; exact h.blk)]
    rfl
  · refine ownsRow_kept h.opn (fun k e => ?_)
    obtain ⟨p1, p2, p3⟩ := h.apO k e
    rw [hkk k p1, hb k (own_lt h.opn e) (fun e' => (h.apQ k e').2.2.2 e)]
  · have e1 : (qs ++ [v]).length = qs.length + 1 := by simp
    rw [e1]
    refine ownsRow_kept ho (fun k e => hkk k ?_)
    rcases hnew k e with e | e
    · exact (h.apQ k e).1
    · omega
  · simp [h.lens]
  · intro i x T h1 h2
    rcases Nat.lt_or_ge i qs.length with hi | hi
    · rw [List.getElem?_append_left hi] at h1
      have h2' : (s.sets ++ [S])[i]? = some T := h2
      rw [List.getElem?_append_left (by rw [← h.lens]; exact hi)] at h2'
      exact t3 i x T h1 h2'
    · rw [List.getElem?_append_right hi] at h1
      have h2' : (s.sets ++ [S])[i]? = some T := h2
      rw [List.getElem?_append_right (by rw [← h.lens]; exact hi), ← h.lens] at h2'
      have hz : i - qs.length = 0 := by
        rcases Nat.eq_zero_or_pos (i - qs.length) with e | e
        · exact e
        · rw [List.getElem?_eq_none (by simp; omega)] at h1; cases h1
      rw [hz] at h1 h2'
      have e1 : v = x := by simpa using h1
      have e2 : S = T := by simpa using h2'
      subst e1 e2
      refine hv.kept hs (fun k e => ?_)
      obtain ⟨p0, p1, p2, p3, p4, p5⟩ := hvb k e
      rw [hkk k p1, hb k p0 p5]
  · intro k e
    rcases hnew k e with e | e
    · exact h.apQ k e
    · exact ⟨by omega, by omega, by omega, fun e' => by have := own_lt h.opn e'; omega⟩
  · intro x hx k e
    have hl := hlt x hx k e
    have hp : k ≠ B ∧ k ≠ A ∧ k ≠ L ∧ ov.ownBlock ≠ some k ∧ qv.ownBlock ≠ some k := by
      rcases hTold x hx with hx | rfl
      · exact h.apT x hx k e
      · exact (hvb k e).2
    refine ⟨hp.1, hp.2.1, hp.2.2.1, hp.2.2.2.1, fun e' => ?_⟩
    rcases hnew k e' with e' | e'
    · exact hp.2.2.2.2 e'
    · omega

/-- A step that writes none of the blocks that were there. -/
theorem Wk.keep {w' : World} (h : Wk base B A L n adj outv rows w s ov qv qs) (hs : w.heap.size ≤ w'.heap.size) (hk : ∀ k, k < w.heap.size → w'.heap[k]? = w.heap[k]?) : Wk base B A L n adj outv rows w' s ov qv qs := by
  obtain ⟨l1, l2, l3⟩ := h.lt
  obtain ⟨t1, t2, t3⟩ := h.told (w' := w') hs (fun k hl _ _ _ _ _ => hk k hl)
  exact ⟨h.ge, h.ne, by rw [hk B l1]; exact h.blk, by rw [hk A l2]; exact h.ats, by rw [hk L l3]; exact h.lows, t1, t2, ownsRow_kept h.opn (fun k e => hk k (own_lt h.opn e)), ownsRow_kept h.sets (fun k e => hk k (own_lt h.sets e)), h.lens, t3, h.apO, h.apQ, fun v hv k e => h.apT v hv k e, fun v hv k e => Nat.lt_of_lt_of_le (h.tlt v hv k e) hs⟩
end
end Go.Proofs.YtnfnebfioibndaaGreatDoor
namespace Go.Proofs.YtnfnebfioibndaaGreatDoor
open Go.RowKit
set_option maxRecDepth 100000
set_option maxHeartbeats 2000000

structure GoneW (base : Nat) (wr : World) (Bg : Nat) (gv : Value) (g : List Int) : Prop where
  box : wr.heap[Bg]? = some (.cells #[gv] 31)
  row : wr.ownsRow base 3 1 gv g.length (g.map (Value.int .i64))
section
variable {base : Nat} {wr : World} {Bg : Nat} {gv : Value} {g : List Int}
theorem GoneW.lt (h : GoneW base wr Bg gv g) : Bg < wr.heap.size := by
  rcases Nat.lt_or_ge Bg wr.heap.size with h' | h'
  · exact h'
  · have := h.box
    rw [Array.getElem?_eq_none h'] at this; cases this
theorem GoneW.cell (h : GoneW base wr Bg gv g) : wr.cell? ⟨Bg, 0, none⟩ = some gv := by simp [World.cell?, h.box]
theorem GoneW.free (h : GoneW base wr Bg gv g) : wr.frozen? ⟨Bg, 0, none⟩ = false := by simp [World.frozen?, h.box]
theorem GoneW.below {w' : World} (h : GoneW base wr Bg gv g) (hb : Below wr.heap.size wr w') : GoneW base w' Bg gv g :=
  ⟨(hb.block _ h.lt).trans h.box, owns_below h.row hb⟩
theorem owns_ne {w : World} {v : Value} {n : Nat} {xs : List Value} (h : w.ownsRow base 3 1 v n xs) (hb : w.heap[Bg]? = some (.cells #[gv] 31)) : v.ownBlock ≠ some Bg := by
  intro e
  rcases h.2 with ⟨e1, _⟩ | ⟨b, cap, cur, e1, _, hb', _⟩
  · rw [e1] at e; cases e
  · rw [e1] at e
    have e2 : b = Bg := by simpa [Value.ownBlock] using e
    rw [e2, hb] at hb'
    injection hb' with hb'
    injection hb' with _ hb'
    exact absurd hb' (by decide)
theorem GoneW.ne (h : GoneW base wr Bg gv g) : gv.ownBlock ≠ some Bg := owns_ne h.row h.box
theorem GoneW.ints (h : GoneW base wr Bg gv g) : Ints wr gv g := ints_owned h.row
/-- One more, and its variable told so. -/
theorem GoneW.push (h : GoneW base wr Bg gv g) {w1 w' : World} {v' : Value} {x : Int} (hb : Below wr.heap.size wr w1) (hown : w'.ownsRow base 3 1 v' (g ++ [x]).length ((g ++ [x]).map (Value.int .i64))) (hg : w1.grownBy w' gv.ownBlock) :
    GoneW base (w'.setCell ⟨Bg, 0, none⟩ v') Bg v' (g ++ [x]) := by
  have h1 := h.below hb
  have h2 : w'.heap[Bg]? = some (.cells #[gv] 31) := (hg.block Bg h1.lt (fun e => h.ne e.symm)).trans h1.box
  refine ⟨?_, ownsRow_setCell_other hown (owns_ne hown h2) _⟩
  have := heap_setCell_same w' Bg 0 v' h2
  rw [this]
  rfl
end
theorem row_of_ints {w : World} {v : Value} {xs : List Nat} (h : Ints w v (xs.map fun x => ((x : Nat) : Int))) : Row w v xs := by
  obtain ⟨⟨a, c, e, h1, h2, h3⟩, -⟩ := h
  rw [List.length_map] at e h1 h3
  refine ⟨a, c, e, h1, h2, h3.imp id fun ⟨b, o, ea, hb, hc⟩ => ⟨b, o, ea, hb, fun i j hi hj => ?_⟩⟩
  rw [hc i j hi hj]
  simp [List.getD, List.getElem?_eq_getElem hi]
end Go.Proofs.YtnfnebfioibndaaGreatDoor
