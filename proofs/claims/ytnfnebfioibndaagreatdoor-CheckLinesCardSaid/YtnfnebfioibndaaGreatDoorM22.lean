/- A ring in line: which comes next, in plain Lean: the program's and the document's. · slices.IndexFunc and ContainsFunc at order.Edge, at whatever predicate. · Rows of numbers that grow side by side (the edges of a walker, while they are laid). · A list of rows that is told row by row. -/
import Derived.Test.YtnfnebfioibndaaGreatDoorM21
import Derived.Test.YtnfnebfioibndaaGreatDoorM17
import Derived.Deep.AppendLies
import Derived.Deep.OwnRows
namespace Go.Proofs.YtnfnebfioibndaaGreatDoor
set_option maxRecDepth 10000

/-- Of what is left, somebody comes ahead of it by a strong edge. -/
def badV (strong : List EdgeD) (left : List Nat) (v : Nat) : Bool := strong.any fun e => e.2 == ((v : Nat) : Int) && (!(e.1 == ((v : Nat) : Int)) && (left.map fun x => ((x : Nat) : Int)).contains e.1)
def pickK (strong : List EdgeD) (left : List Nat) : Nat := (left.findIdx? fun v => !badV strong left v).getD 0
def lineN (strong : List EdgeD) : Nat → List Nat → List Nat
  | 0, _ => []
  | m + 1, left => if left = [] then [] else left.getD (pickK strong left) 0 :: lineN strong m (left.eraseIdx (pickK strong left))
def lineOf (strong : List EdgeD) (left : List Nat) : List Nat := lineN strong left.length left
theorem pickK_lt (strong : List EdgeD) {left : List Nat} (h : left ≠ []) : pickK strong left < left.length := by
  unfold pickK
  cases e : left.findIdx? fun v => !badV strong left v with
  | none => exact List.length_pos_iff.2 h
  | some k => exact (List.findIdx?_eq_some_iff_getElem.1 e).1
theorem lineOf_step (strong : List EdgeD) {left : List Nat} (h : left ≠ []) : lineOf strong left = left.getD (pickK strong left) 0 :: lineOf strong (left.eraseIdx (pickK strong left)) := by
  have hl := pickK_lt strong h
  unfold lineOf
  have e : left.length = (left.eraseIdx (pickK strong left)).length + 1 := by
    rw [List.length_eraseIdx, if_pos hl]
    omega
  rw [e]
  show (if left = [] then [] else _) = _
  rw [if_neg h]
theorem lineOf_nil (strong : List EdgeD) : lineOf strong [] = [] := rfl
def linesOf (strong : List EdgeD) (rings : List (List Nat)) : List Nat := rings.flatMap (lineOf strong)
theorem linesOf_snoc (strong : List EdgeD) (rings : List (List Nat)) (r : List Nat) : linesOf strong (rings ++ [r]) = linesOf strong rings ++ lineOf strong r := by simp [linesOf]
theorem lineOf_len (strong : List EdgeD) (left : List Nat) : (lineOf strong left).length = left.length := by
  induction hm : left.length generalizing left with
  | zero => rw [List.length_eq_zero_iff.1 hm]; rfl
  | succ m ih =>
    have hne : left ≠ [] := by intro e; rw [e] at hm; cases hm
    have hl := pickK_lt strong hne
    rw [lineOf_step strong hne, List.length_cons, ih _ (by rw [List.length_eraseIdx, if_pos hl, hm]; omega)]
theorem lineOf_perm (strong : List EdgeD) (left : List Nat) : (lineOf strong left).Perm left := by
  induction hm : left.length generalizing left with
  | zero => rw [List.length_eq_zero_iff.1 hm]; exact List.Perm.refl _
  | succ m ih =>
    have hne : left ≠ [] := by intro e; rw [e] at hm; cases hm
    have hl := pickK_lt strong hne
    rw [lineOf_step strong hne]
    have h1 := ih (left.eraseIdx (pickK strong left)) (by rw [List.length_eraseIdx, if_pos hl, hm]; omega)
    refine (List.Perm.cons _ h1).trans ?_
    have e : left.getD (pickK strong left) 0 = left[pickK strong left] := by simp [List.getD, List.getElem?_eq_getElem hl]
    rw [e]
    rw [List.eraseIdx_eq_take_drop_succ]
    have h2 : left = left.take (pickK strong left) ++ left[pickK strong left] :: left.drop (pickK strong left + 1) := by rw [← List.drop_eq_getElem_cons hl, List.take_append_drop]
    exact List.perm_middle.symm.trans (by rw [← h2])

/-! ### the document's: r stays, what was told is counted -/
def freeV (strong : List EdgeD) (r : List Nat) (told : Nat → Nat) (v : Nat) : Bool := told v == 0 && !(strong.any fun e => r.any fun u => e.1 == ((u : Nat) : Int) && (e.2 == ((v : Nat) : Int) && (!(u == v) && told u == 0)))
def leftOf (r : List Nat) (told : Nat → Nat) : List Nat := r.filter fun v => told v == 0
theorem freeV_eq (strong : List EdgeD) (r : List Nat) (told : Nat → Nat) (v : Nat) : freeV strong r told v = (told v == 0 && !badV strong (leftOf r told) v) := by
  unfold freeV
  congr 2
  unfold badV
  congr 1
  funext e
  rw [Bool.eq_iff_iff]
  simp only [List.any_eq_true, Bool.and_eq_true, beq_iff_eq, Bool.not_eq_true', beq_eq_false_iff_ne, List.contains_iff_mem, List.mem_map, leftOf, List.mem_filter]
  constructor
  · rintro ⟨u, hu, h1, h2, h3, h4⟩
    exact ⟨h2, by omega, u, ⟨hu, h4⟩, h1.symm⟩
  · rintro ⟨h2, h3, u, ⟨hu, h4⟩, h1⟩
    exact ⟨u, hu, h1.symm, h2, by omega, h4⟩
/-- The best of the first k of r: the first that is free. -/
def BestV (c : Nat → Bool) (r : List Nat) (k : Nat) (best : Int) : Prop :=
  (best = -1 ∧ (r.take k).find? c = none) ∨ ∃ b : Nat, best = ((b : Nat) : Int) ∧ (r.take k).find? c = some b
theorem BestV.start (c : Nat → Bool) (r : List Nat) : BestV c r 0 (-1) := Or.inl ⟨rfl, rfl⟩
theorem BestV.keep {c : Nat → Bool} {r : List Nat} {k : Nat} {best : Int} (h : BestV c r k best) (hk : k < r.length) (hc : c (r.getD k 0) = false ∨ 0 ≤ best) : BestV c r (k + 1) best := by
  unfold BestV
  rw [take_snoc' 0 hk, List.find?_append]
  rcases h with ⟨rfl, h1⟩ | ⟨b, rfl, h1⟩
  · refine Or.inl ⟨rfl, ?_⟩
    rw [h1]
    rcases hc with hc | hc
    · rw [List.find?_cons, hc]; rfl
    · omega
  · exact Or.inr ⟨b, rfl, by rw [h1]; rfl⟩
theorem BestV.take {c : Nat → Bool} {r : List Nat} {k : Nat} {best : Int} (h : BestV c r k best) (hk : k < r.length) (hc : c (r.getD k 0) = true) (hb : best < 0) : BestV c r (k + 1) ((r.getD k 0 : Nat) : Int) := by
  unfold BestV
  rw [take_snoc' 0 hk, List.find?_append]
  rcases h with ⟨rfl, h1⟩ | ⟨b, rfl, h1⟩
  · refine Or.inr ⟨_, rfl, ?_⟩
    rw [h1, List.find?_cons, hc]
    rfl
  · omega
theorem BestV.end {c : Nat → Bool} {r : List Nat} {k : Nat} {best : Int} (h : BestV c r k best) (hk : r.length ≤ k) : (best = -1 ∧ r.find? c = none) ∨ ∃ b : Nat, best = ((b : Nat) : Int) ∧ r.find? c = some b := by
  unfold BestV at h
  rwa [List.take_of_length_le hk] at h
/-- The second time round: the first that is left, if there was none. -/
def BestW (b1 : Int) (told : Nat → Nat) (r : List Nat) (k : Nat) (best : Int) : Prop :=
  (0 ≤ b1 ∧ best = b1) ∨ (b1 < 0 ∧ BestV (fun v => told v == 0) r k best)

theorem find_left {p q : Nat → Bool} : ∀ {l : List Nat}, (l.filter q).find? p = l.find? fun v => q v && p v
  | [] => rfl
  | a :: l => by
    rw [List.filter_cons]
    cases hq : q a
    · simp [List.find?_cons, hq, find_left (l := l)]
    · cases hp : p a
      · simp [List.find?_cons, hq, hp, find_left (l := l)]
      · simp [List.find?_cons, hq, hp]
theorem find_getD {p : Nat → Bool} {l : List Nat} : l.find? p = (l.findIdx? p).map fun k => l.getD k 0 := by
  induction l with
  | nil => rfl
  | cons a l ih =>
    rw [List.find?_cons, List.findIdx?_cons]
    cases h : p a
    · simp only [ih]
      cases l.findIdx? p <;> simp [List.getD]
    · simp [List.getD]
/-- What the document tells next is what the program tells next. -/
theorem best_pick {strong : List EdgeD} {r : List Nat} {told : Nat → Nat} (hne : leftOf r told ≠ []) {b1 b2 : Int} (h1 : BestV (freeV strong r told) r r.length b1) (h2 : BestW b1 told r r.length b2) :
    b2 = (((leftOf r told).getD (pickK strong (leftOf r told)) 0 : Nat) : Int) := by
  have e1 : r.find? (freeV strong r told) = (leftOf r told).find? fun v => !badV strong (leftOf r told) v := by
    unfold leftOf
    rw [find_left]
    congr 1
    funext v
    rw [freeV_eq]
    rfl
  have e2 : r.find? (fun v => told v == 0) = (leftOf r told).head? := by
    unfold leftOf
    rw [List.head?_filter]
  have g1 := h1.end (Nat.le_refl _)
  rw [e1, find_getD] at g1
  unfold pickK
  cases e : (leftOf r told).findIdx? fun v => !badV strong (leftOf r told) v with
  | some k =>
    rw [e] at g1
    rcases g1 with ⟨rfl, g⟩ | ⟨b, rfl, g⟩
    · cases g
    · simp only [Option.map_some, Option.some.injEq] at g
      rcases h2 with ⟨_, rfl⟩ | ⟨h, _⟩
      · rw [← g]; rfl
      · omega
  | none =>
    rw [e] at g1
    rcases g1 with ⟨rfl, g⟩ | ⟨b, rfl, g⟩
    · rcases h2 with ⟨h, _⟩ | ⟨_, h2⟩
      · omega
      · have g2 := h2.end (Nat.le_refl _)
        rw [e2] at g2
        cases hL : leftOf r told with
        | nil => exact absurd hL hne
        | cons a L =>
          rw [hL] at g2
          rcases g2 with ⟨_, g⟩ | ⟨b, rfl, g⟩
          · cases g
          · simp only [List.head?_cons, Option.some.injEq] at g
            rw [← g]; rfl
    · cases g
theorem leftOf_told {r : List Nat} (hr : r.Nodup) {told : Nat → Nat} {k : Nat} (hk : k < (leftOf r told).length) : leftOf r (fun u => if u = (leftOf r told).getD k 0 then told u + 1 else told u) = (leftOf r told).eraseIdx k := by
  have hnd : (leftOf r told).Nodup := hr.filter _
  have e0 : (leftOf r told).getD k 0 = (leftOf r told)[k] := by simp [List.getD, List.getElem?_eq_getElem hk]
  have e1 : (leftOf r told).eraseIdx k = (leftOf r told).filter fun u => !(u == (leftOf r told).getD k 0) := by
    rw [e0]
    have e2 : (leftOf r told).erase (leftOf r told)[k] = (leftOf r told).filter (fun x => x != (leftOf r told)[k]) := hnd.erase_eq_filter _
    have e3 : (leftOf r told).erase (leftOf r told)[k] = (leftOf r told).eraseIdx k := by exact List.erase_eq_eraseIdx_of_idxOf (hnd.idxOf_getElem k hk)
    rw [← e3, e2]
    rfl
  rw [e1]
  unfold leftOf
  rw [List.filter_filter]
  apply List.filter_congr
  intro u _
  obtain ⟨z, hz⟩ : ∃ z, (r.filter fun v => told v == 0).getD k 0 = z := ⟨_, rfl⟩
  rw [hz]
  by_cases h : u = z
  · simp [h]
  · simp [h]
end Go.Proofs.YtnfnebfioibndaaGreatDoor
namespace Go.Proofs.YtnfnebfioibndaaGreatDoor
open Go.RowKit
set_option maxRecDepth 100000
set_option maxHeartbeats 2000000

theorem any_stepE {α : Type} {p : α → Bool} {l : List α} {i : Nat} (d : α) (hi : i < l.length) (h : (l.take i).any p = false) (hp : p (l.getD i d) = false) : (l.take (i + 1)).any p = false := by
  rw [List.take_add_one, List.any_append, h, List.getElem?_eq_getElem hi]
  have : l.getD i d = l[i] := by simp [List.getD, List.getElem?_eq_getElem hi]
  rw [this] at hp
  simp [hp]
theorem retE_bool {a b : Bool} (h : a = b) : Ending.returned (.bool a) = .returned (.bool b) := by rw [h]
def FoundEdge (ts : List EdgeD) (p : EdgeD → Bool) (w : World) (e : Ending) (w' : World) : Prop := ∃ k : Int, e = .returned (.int .i64 k) ∧ decide (0 ≤ k) = ts.any p ∧ Below w.heap.size w w'

/-- slices.IndexFunc at Edge: is there one, and where. -/
theorem indexEdge_calls (v : Value) (ts : List EdgeD) (g : FuncId) (caps : Array Value) (p : EdgeD → Bool) (w : World) (hT : Edges w v ts)
    (eg : ∀ args w, (callFunc g args).run Tryz.prog w = .ok (.enter g args) w)
    (hf : ∀ t ∈ ts, ∀ w', Below w.heap.size w w' → Calls Tryz.prog g (#[.agg #[.int .i64 t.1, .int .i64 t.2]] ++ caps) w' fun e w'' => e = .returned (.bool (p t)) ∧ Below w'.heap.size w' w'') :
    Calls Tryz.prog 98 #[v, .func (.func g) #[] caps] w fun e w' => ∃ k : Int, e = .returned (.int .i64 k) ∧ decide (0 ≤ k) = ts.any p ∧ Below w.heap.size w w' := by
  obtain ⟨a, cap, rfl, hcap, hmax, hcell⟩ := hT
  unfold maxLen at hmax
  obtain ⟨n, hn⟩ : ∃ n, ts.length = n := ⟨_, rfl⟩
  have Hcell := Lib.hid hcell
  have Hf := Lib.hid hf
  clear hcell hf
  rw [hn] at hcap Hcell ⊢
  have Hn := Lib.hid hn
  clear hn
  refine Calls.mono (?_ : Calls _ _ _ _ (FoundEdge ts p w)) (fun e w' h => h)
  go_enter Tryz.func98, Tryz.ntmps98
  go_wp2_with fail
  go_loopg [8] n (fun k v8 wr => ∃ i : Nat, v8 = .int .i64 i ∧ i ≤ n ∧ k = n - i ∧ (ts.take i).any p = false ∧ Below w.heap.size w wr)
  case atStart => exact ⟨0, rfl, Nat.zero_le _, rfl, rfl, Below.refl _ _⟩
  case round =>
    obtain ⟨i, rfl, hi, hk, hall, hB⟩ := hrel
    have Hk := Lib.hid hk
    have Hall := Lib.hid hall
    clear hk hall
    by_cases hlt : i < n
    · obtain ⟨b, o, rfl, hb, hc⟩ := Hcell.out.resolve_left (by omega)
      obtain ⟨t, ht⟩ : ∃ t, ts.getD i (0, 0) = t := ⟨_, rfl⟩
      have HM : Hid (t ∈ ts) := by
        show t ∈ ts
        rw [← ht]
        exact mem_getD' _ (by rw [Hn.out]; exact hlt)
      have c0 : wr.cell? ⟨b, o + i * 2, none⟩ = some (.int .i64 t.1) := (hB.cell (p := ⟨b, o + i * 2, none⟩) hb).trans (by have := hc i 0 hlt (by decide); rw [ht] at this; exact this)
      have c1 : wr.cell? ⟨b, o + i * 2 + 1, none⟩ = some (.int .i64 t.2) := (hB.cell (p := ⟨b, o + i * 2 + 1, none⟩) hb).trans (by have := hc i 1 hlt (by decide); rw [ht] at this; exact this)
      have HT := Lib.hid ht
      clear hc ht hb
      go_wp2_with fail
      refine (Hf.out t HM.out _ hB).mono ?_
      rintro e w1 ⟨rfl, hb1⟩
      have hB1 := hB.trans (hb1.mono hB.size)
      clear hB hb1
      cases hp : p t
      · have HS : Hid ((ts.take (i + 1)).any p = false) := by
          show _ = _
          exact any_stepE (0, 0) (by rw [Hn.out]; exact hlt) Hall.out (by rw [show ts.getD i (0, 0) = t from HT.out]; exact hp)
        clear hp
        go_wp2_with fail
        go_roundg (n - (i + 1))
        case rel => exact ⟨i + 1, by go_num, by omega, rfl, HS.out, hB1⟩
        case measure => have := Hk.out; omega
      · have HF : Hid (ts.any p = true) := by
          show _ = _
          rw [List.any_eq_true]
          exact ⟨t, HM.out, hp⟩
        clear hp
        go_wp2_with fail
        go_ret
        exact ⟨_, rfl, by rw [HF.out]; exact decide_eq_true (by omega), hB1⟩
    · have HF : Hid (ts.any p = false) := by
        have := Hall.out
        rwa [List.take_of_length_le (by rw [Hn.out]; omega)] at this
      go_wp2_with fail
      go_ret
      exact ⟨-1, rfl, by rw [HF.out]; rfl, hB⟩

/-- slices.ContainsFunc at Edge. -/
theorem containsEdge_calls (v : Value) (ts : List EdgeD) (g : FuncId) (caps : Array Value) (p : EdgeD → Bool) (w : World) (hT : Edges w v ts)
    (eg : ∀ args w, (callFunc g args).run Tryz.prog w = .ok (.enter g args) w)
    (hf : ∀ t ∈ ts, ∀ w', Below w.heap.size w w' → Calls Tryz.prog g (#[.agg #[.int .i64 t.1, .int .i64 t.2]] ++ caps) w' fun e w'' => e = .returned (.bool (p t)) ∧ Below w'.heap.size w' w'') :
    Calls Tryz.prog 76 #[v, .func (.func g) #[] caps] w fun e w' => e = .returned (.bool (ts.any p)) ∧ Below w.heap.size w w' := by
  have HI := Lib.hid (indexEdge_calls v ts g caps p w hT eg hf)
  clear hf eg hT
  go_enter Tryz.func76, Tryz.ntmps76
  go_wp2_with fail
  refine HI.out.mono ?_
  rintro e w1 ⟨k, rfl, hk, hb⟩
  have HK := Lib.hid hk
  clear hk HI
  go_wp2_with fail
  go_ret
  exact ⟨retE_bool HK.out, hb⟩
end Go.Proofs.YtnfnebfioibndaaGreatDoor
namespace Go.Proofs.YtnfnebfioibndaaGreatDoor
open Go.RowKit
set_option maxRecDepth 100000

theorem row_owned {w : World} {base : Nat} {e : TypeId} {v : Value} {xs : List Nat} (h : w.ownsRow base e 1 v xs.length (natRow xs)) : Row w v xs := by
  rcases id h.2 with ⟨rfl, h0⟩ | ⟨g, cap, cur, rfl, _, hg, h1, h2, _⟩
  · refine ⟨none, 0, by rw [h0], by omega, by decide, Or.inl h0⟩
  · refine ⟨_, cap, rfl, h1, h2, Or.inr ⟨g, 0, rfl, lt_of_block hg, fun i j hi hj => ?_⟩⟩
    obtain rfl : j = 0 := by omega
    have := h.cellAt i (by omega)
    rw [Nat.zero_add, Nat.mul_one, Nat.add_zero, this]
    simp [natRow, List.getD, List.getElem?_eq_getElem hi]

structure Adj (base O n : Nat) (rows : Nat → Value) (adj : Nat → List Nat) (w : World) : Prop where
  blk : w.heap[O]? = some (.cells ((List.range n).map rows).toArray 31)
  row : ∀ i, i < n → w.ownsRow base 3 1 (rows i) (adj i).length (natRow (adj i))
  off : ∀ i, i < n → (rows i).ownBlock ≠ some O
  apart : ∀ i j, i < n → j < n → i ≠ j → ∀ k, (rows i).ownBlock = some k → (rows j).ownBlock ≠ some k

def updV (f : Nat → Value) (i : Nat) (v : Value) : Nat → Value := fun u => if u = i then v else f u
theorem updV_set (f : Nat → Value) (n i : Nat) (v : Value) : ((List.range n).map f).set i v = (List.range n).map (updV f i v) := by
  apply List.ext_getElem?
  intro k
  rw [List.getElem?_set]
  rcases Nat.lt_or_ge k n with hk | hk
  · by_cases e : i = k
    · subst e
      simp [updV, hk]
    · rw [if_neg e]
      simp [updV, hk, Ne.symm e]
  · have e1 : ((List.range n).map f)[k]? = none := List.getElem?_eq_none (by simpa using hk)
    have e2 : ((List.range n).map (updV f i v))[k]? = none := List.getElem?_eq_none (by simpa using hk)
    rw [e1, e2]
    by_cases e : i = k
    · rw [if_pos e, if_neg (by simp; omega)]
    · rw [if_neg e]

section
variable {base O n : Nat} {rows : Nat → Value} {adj : Nat → List Nat} {w : World}
theorem Adj.lt (h : Adj base O n rows adj w) : O < w.heap.size := lt_of_block h.blk
theorem Adj.rlt (h : Adj base O n rows adj w) {i : Nat} (hi : i < n) {k : Nat} (e : (rows i).ownBlock = some k) : base ≤ k ∧ k < w.heap.size := (h.row i hi).lt k e
theorem Adj.keep {w' : World} (h : Adj base O n rows adj w) (hk : ∀ k, k < w.heap.size → w'.heap[k]? = w.heap[k]?) : Adj base O n rows adj w' :=
  ⟨by rw [hk O h.lt]; exact h.blk, fun i hi => ownsRow_kept (h.row i hi) (fun k e => hk k (h.rlt hi e).2), h.off, h.apart⟩
theorem Adj.alloc (h : Adj base O n rows adj w) (o : Obj) : Adj base O n rows adj (w.alloc o) := h.keep (fun k hk => Below.heap_alloc w o k hk)
theorem Adj.of_heap {w' : World} (h : Adj base O n rows adj w) (e : w'.heap = w.heap) : Adj base O n rows adj w' := h.keep (fun k _ => by rw [e])
theorem Adj.cell (h : Adj base O n rows adj w) {i : Nat} (hi : i < n) : w.cell? ⟨O, i, none⟩ = some (rows i) := by
  simp [World.cell?, h.blk, hi]
theorem Adj.free (h : Adj base O n rows adj w) (i : Nat) : w.frozen? ⟨O, i, none⟩ = false := by
  simp [World.frozen?, h.blk]
theorem Adj.step (h : Adj base O n rows adj w) {i y : Nat} (hi : i < n) {w' : World} {v' : Value} (hg : w.grownBy w' (rows i).ownBlock)
    (ho : w'.ownsRow base 3 1 v' ((adj i).length + 1) (natRow (adj i) ++ [.int .i64 ((y : Nat) : Int)])) (hat : v'.ownBlock = (rows i).ownBlock ∨ v'.ownBlock = some w.heap.size) :
    Adj base O n (updV rows i v') (fun a => if a = i then adj a ++ [y] else adj a) (w'.setCell ⟨O, i, none⟩ v') := by
  have hO := h.lt
  have hb : ∀ k, k < w.heap.size → (rows i).ownBlock ≠ some k → w'.heap[k]? = w.heap[k]? := fun k hk hne => hg.block k hk (Ne.symm hne)
  have hkk : ∀ k, k ≠ O → (w'.setCell ⟨O, i, none⟩ v').heap[k]? = w'.heap[k]? := fun k hk => heap_setCell_ne w' O i _ hk
  have hnew : ∀ k, v'.ownBlock = some k → (rows i).ownBlock = some k ∨ k = w.heap.size := by
    intro k e
    rcases hat with e' | e'
    · exact Or.inl (by rw [← e']; exact e)
    · rw [e] at e'; injection e' with e'; exact Or.inr e'
  have hoff : v'.ownBlock ≠ some O := by
    intro e
    rcases hnew O e with e | e
    · exact h.off i hi e
    · omega
  refine ⟨?_, fun j hj => ?_, fun j hj => ?_, fun j k hj hk hjk b e => ?_⟩
  · rw [heap_setCell_same w' O i v' (by rw [hb O hO (h.off i hi)]; exact h.blk), List.setIfInBounds_toArray, updV_set]
  · by_cases e : j = i
    · subst e
      have e1 : (updV rows j v') j = v' := by simp [updV]
      have e2 : (if j = j then adj j ++ [y] else adj j) = adj j ++ [y] := if_pos rfl
      have e3 : (adj j ++ [y]).length = (adj j).length + 1 := by simp
      have e4 : natRow (adj j ++ [y]) = natRow (adj j) ++ [.int .i64 ((y : Nat) : Int)] := by simp [natRow]
      show World.ownsRow _ _ _ _ (updV rows j v' j) (if j = j then adj j ++ [y] else adj j).length (natRow (if j = j then adj j ++ [y] else adj j))
      rw [e1, e2, e3, e4]
      exact ownsRow_kept ho (fun k e => hkk k (fun ek => hoff (by rw [← ek]; exact e)))
    · have e1 : (updV rows i v') j = rows j := by simp [updV, e]
      have e2 : (if j = i then adj j ++ [y] else adj j) = adj j := if_neg e
      show World.ownsRow _ _ _ _ (updV rows i v' j) (if j = i then adj j ++ [y] else adj j).length (natRow (if j = i then adj j ++ [y] else adj j))
      rw [e1, e2]
      refine ownsRow_kept (h.row j hj) (fun k ek => ?_)
      rw [hkk k (fun e' => h.off j hj (by rw [← e']; exact ek)), hb k (h.rlt hj ek).2 (fun e' => h.apart j i hj hi e k ek e')]
  · by_cases e : j = i
    · simp only [updV, if_pos e]; exact hoff
    · simp only [updV, if_neg e]; exact h.off j hj
  · by_cases e1 : j = i
    · have e2 : k ≠ i := fun e2 => hjk (e1.trans e2.symm)
      simp only [updV, if_pos e1] at e
      simp only [updV, if_neg e2]
      intro e'
      rcases hnew b e with e | e
      · exact h.apart i k hi hk (Ne.symm e2) b e e'
      · have := (h.rlt hk e').2; omega
    · simp only [updV, if_neg e1] at e
      by_cases e2 : k = i
      · simp only [updV, if_pos e2]
        intro e'
        rcases hnew b e' with e' | e'
        · exact h.apart j i hj hi e1 b e e'
        · have := (h.rlt hj e).2; omega
      · simp only [updV, if_neg e2]
        exact h.apart j k hj hk hjk b e
theorem Adj.out (h : Adj base O n rows adj w) (hn : n ≤ maxLen) : Sl w (.slice (some ⟨O, 0, none⟩) n n) n 1 (fun i _ => rows i) :=
  ⟨_, n, rfl, Nat.le_refl _, hn, Or.inr ⟨O, 0, rfl, h.lt, fun i j hi hj => by
    obtain rfl : j = 0 := by omega
    rw [Nat.zero_add, Nat.mul_one, Nat.add_zero]
    exact h.cell hi⟩⟩
theorem Adj.start (w : World) (O n : Nat) (hO : w.heap[O]? = some (.cells ((List.range n).map fun _ => Value.slice none 0 0).toArray 31)) : Adj base O n (fun _ => .slice none 0 0) (fun _ => []) w :=
  ⟨hO, fun _ _ => World.ownsRow_nil _ _ _ _, (fun _ _ e => by cases e), (fun _ _ _ _ _ _ e => by cases e)⟩
end

/-! ### what make lays -/
theorem made_toList (z : Value) (n : Nat) : madeCells #[z] n = ((List.range n).map fun _ => z).toArray := by
  apply Array.ext'
  rw [toList_madeCells_one]
  simp [List.map_const']
theorem info_bools : (Tryz.prog.info? 4).map (fun i => (i.zero, i.size, i.bytes)) = some (some (.bool false), 1, 1) := by kernel_rfl
theorem mk_ints (n : Nat) (hn : n ≤ 1000) : ∀ w, (Instr.makeSlice 31 (.int .i64 ((n : Nat) : Int)) (.int .i64 ((n : Nat) : Int))).run Tryz.prog w = .ok (.slice (some ⟨w.heap.size, 0, none⟩) n n) (w.alloc (.cells (natCells (fun _ => 0) n).toArray 3)) := fun w => by
  rw [run_make_row' 31 3 (.int .i64 0) 8 Tryz.underlying31 info_int2 rfl _ _ n (by omega) (by omega) w, made_toList]
  rfl
theorem mk_rows (n : Nat) (hn : n ≤ 1000) : ∀ w, (Instr.makeSlice 132 (.int .i64 ((n : Nat) : Int)) (.int .i64 ((n : Nat) : Int))).run Tryz.prog w = .ok (.slice (some ⟨w.heap.size, 0, none⟩) n n) (w.alloc (.cells ((List.range n).map fun _ => Value.slice none 0 0).toArray 31)) := fun w => by
  rw [run_make_row' 132 31 (.slice none 0 0) 24 Tryz.underlying132 info_ints rfl _ _ n (by omega) (by omega) w, made_toList]
theorem mk_bools (n : Nat) (hn : n ≤ 1000) : ∀ w, (Instr.makeSlice 171 (.int .i64 ((n : Nat) : Int)) (.int .i64 ((n : Nat) : Int))).run Tryz.prog w = .ok (.slice (some ⟨w.heap.size, 0, none⟩) n n) (w.alloc (.cells ((List.range n).map fun _ => Value.bool false).toArray 4)) := fun w => by
  rw [run_make_row' 171 4 (.bool false) 1 Tryz.underlying171 info_bools rfl _ _ n (by omega) (by omega) w, made_toList]
end Go.Proofs.YtnfnebfioibndaaGreatDoor
namespace Go.Proofs.YtnfnebfioibndaaGreatDoor
open Go.RowKit
set_option maxRecDepth 100000

/-- A slice of slices of numbers. -/
def Rows2 (w : World) (v : Value) (xss : List (List Nat)) : Prop := ∃ V : Nat → Value, Sl w v xss.length 1 (fun i _ => V i) ∧ ∀ i, i < xss.length → Row w (V i) (ringAt xss i)
theorem Rows2.below {w w' : World} {v : Value} {xss : List (List Nat)} (h : Rows2 w v xss) {B : Nat} (hb : Below B w w') (hB : w.heap.size ≤ B) : Rows2 w' v xss := by
  obtain ⟨V, h1, h2⟩ := h
  exact ⟨V, h1.below hb hB, fun i hi => (h2 i hi).below hb hB⟩

structure Outs (base : Nat) (outv : Value) (vs : List Value) (xss : List (List Nat)) (w : World) : Prop where
  own : w.ownsRow base 31 1 outv vs.length vs
  lens : vs.length = xss.length
  row : ∀ (i : Nat) (v : Value) (S : List Nat), vs[i]? = some v → xss[i]? = some S → Row w v S
  off : ∀ v ∈ vs, ∀ k, v.ownBlock = some k → outv.ownBlock ≠ some k ∧ k < w.heap.size

theorem sl_owned {w : World} {base : Nat} {e : TypeId} {v : Value} {vs : List Value} (h : w.ownsRow base e 1 v vs.length vs) (d : Value) : Sl w v vs.length 1 (fun i _ => vs.getD i d) := by
  rcases id h.2 with ⟨rfl, h0⟩ | ⟨g, cap, cur, rfl, _, hg, h1, h2, _⟩
  · refine ⟨none, 0, by rw [h0], by omega, by decide, Or.inl h0⟩
  · refine ⟨_, cap, rfl, h1, h2, Or.inr ⟨g, 0, rfl, lt_of_block hg, fun i j hi hj => ?_⟩⟩
    obtain rfl : j = 0 := by omega
    have := h.cellAt i (by omega)
    rw [Nat.zero_add, Nat.mul_one, Nat.add_zero, this]
    simp [List.getD, List.getElem?_eq_getElem hi]

section
variable {base : Nat} {outv : Value} {vs : List Value} {xss : List (List Nat)} {w : World}
theorem Outs.start (base : Nat) (w : World) : Outs base (.slice none 0 0) [] [] w := ⟨World.ownsRow_nil _ _ _ _, rfl, fun _ _ _ h => by simp at h, fun _ h => by cases h⟩
theorem Outs.kept {w' : World} (h : Outs base outv vs xss w) (hs : w.heap.size ≤ w'.heap.size) (hk : ∀ k, (outv.ownBlock = some k ∨ ∃ v ∈ vs, v.ownBlock = some k) → w'.heap[k]? = w.heap[k]?) : Outs base outv vs xss w' :=
  ⟨ownsRow_kept h.own (fun k e => hk k (Or.inl e)), h.lens, fun i v S h1 h2 => (h.row i v S h1 h2).kept hs (fun k e => hk k (Or.inr ⟨v, List.mem_of_getElem? h1, e⟩)), fun v hv k e => ⟨(h.off v hv k e).1, Nat.lt_of_lt_of_le (h.off v hv k e).2 hs⟩⟩
theorem Outs.lt (h : Outs base outv vs xss w) {k : Nat} (e : outv.ownBlock = some k ∨ ∃ v ∈ vs, v.ownBlock = some k) : k < w.heap.size := by
  rcases e with e | ⟨v, hv, e⟩
  · exact (h.own.lt k e).2
  · exact (h.off v hv k e).2
theorem Outs.keep {w' : World} (h : Outs base outv vs xss w) (hs : w.heap.size ≤ w'.heap.size) (hk : ∀ k, k < w.heap.size → w'.heap[k]? = w.heap[k]?) : Outs base outv vs xss w' := h.kept hs (fun k e => hk k (h.lt e))
theorem Outs.push (h : Outs base outv vs xss w) {w' : World} {outv' v : Value} {S : List Nat} (hg : w.grownBy w' outv.ownBlock) (ho : w'.ownsRow base 31 1 outv' (vs.length + 1) (vs ++ [v]))
    (hat : outv'.ownBlock = outv.ownBlock ∨ outv'.ownBlock = some w.heap.size) (hv : Row w v S) (hoff : ∀ k, v.ownBlock = some k → outv.ownBlock ≠ some k ∧ k < w.heap.size) : Outs base outv' (vs ++ [v]) (xss ++ [S]) w' := by
  have hk : ∀ k, k < w.heap.size → outv.ownBlock ≠ some k → w'.heap[k]? = w.heap[k]? := fun k hk hne => hg.block k hk (Ne.symm hne)
  have hoff' : ∀ u ∈ vs ++ [v], ∀ k, u.ownBlock = some k → outv.ownBlock ≠ some k ∧ k < w.heap.size := by
    intro u hu k e
    rcases List.mem_append.1 hu with hu | hu
    · exact h.off u hu k e
    · rw [List.mem_singleton.1 hu] at e; exact hoff k e
  refine ⟨by simpa using ho, by simp [h.lens], fun i u T h1 h2 => ?_, fun u hu k e => ?_⟩
  · have key : Row w u T := by
      rcases Nat.lt_or_ge i vs.length with hi | hi
      · rw [List.getElem?_append_left hi] at h1
        rw [List.getElem?_append_left (by rw [← h.lens]; exact hi)] at h2
        exact h.row i u T h1 h2
      · rw [List.getElem?_append_right hi] at h1
        rw [List.getElem?_append_right (by rw [← h.lens]; exact hi), ← h.lens] at h2
        have hz : i - vs.length = 0 := by
          rcases Nat.eq_zero_or_pos (i - vs.length) with e | e
          · exact e
          · rw [List.getElem?_eq_none (by simp; omega)] at h1; cases h1
        rw [hz] at h1 h2
        have e1 : v = u := by simpa using h1
        have e2 : S = T := by simpa using h2
        rw [← e1, ← e2]
        exact hv
    exact key.kept hg.size (fun k e => hk k (hoff' u (List.mem_of_getElem? h1) k e).2 (hoff' u (List.mem_of_getElem? h1) k e).1)
  · obtain ⟨p1, p2⟩ := hoff' u hu k e
    refine ⟨fun e' => ?_, Nat.lt_of_lt_of_le p2 hg.size⟩
    rcases hat with e2 | e2
    · rw [e2] at e'; exact p1 e'
    · rw [e2] at e'; injection e' with e'; omega
theorem Outs.rows (h : Outs base outv vs xss w) : Rows2 w outv xss := by
  refine ⟨fun i => vs.getD i (.slice none 0 0), ?_, fun i hi => ?_⟩
  · rw [← h.lens]
    exact sl_owned h.own _
  · have hi' : i < vs.length := by rw [h.lens]; exact hi
    have e1 : vs.getD i (.slice none 0 0) = vs[i] := by simp [List.getD, List.getElem?_eq_getElem hi']
    show Row w (vs.getD i (.slice none 0 0)) (ringAt xss i)
    rw [e1, ringAt_get hi]
    exact h.row i _ _ (List.getElem?_eq_getElem hi') (List.getElem?_eq_getElem hi)
end

/-- The walker's own rings. -/
theorem Wk.rows2 {base B A L n : Nat} {adj : Nat → List Nat} {outv : Value} {rows : Nat → Value} {w : World} {s : St} {ov qv : Value} {qs : List Value} (h : Wk base B A L n adj outv rows w s ov qv qs) : Rows2 w qv s.sets := by
  refine ⟨fun i => qs.getD i (.slice none 0 0), ?_, fun i hi => ?_⟩
  · rw [← h.lens]
    exact sl_owned h.sets _
  · have hi' : i < qs.length := by rw [h.lens]; exact hi
    have e1 : qs.getD i (.slice none 0 0) = qs[i] := by simp [List.getD, List.getElem?_eq_getElem hi']
    show Row w (qs.getD i (.slice none 0 0)) (ringAt s.sets i)
    rw [e1, ringAt_get hi]
    exact h.set i _ _ (List.getElem?_eq_getElem hi') (List.getElem?_eq_getElem hi)

/-! ### a table of marks -/
def boolCells (f : Nat → Bool) (n : Nat) : List Value := (List.range n).map fun i => .bool (f i)
def updT (f : Nat → Bool) (v : Nat) (x : Bool) : Nat → Bool := fun u => if u = v then x else f u
theorem boolCells_len (f : Nat → Bool) (n : Nat) : (boolCells f n).length = n := by simp [boolCells]
theorem boolCells_at (f : Nat → Bool) {n i : Nat} (h : i < n) : (boolCells f n)[i]? = some (.bool (f i)) := by simp [boolCells, h]
theorem boolCells_set (f : Nat → Bool) (n v : Nat) (x : Bool) : (boolCells f n).set v (.bool x) = boolCells (updT f v x) n := by
  apply List.ext_getElem?
  intro i
  rw [List.getElem?_set]
  rcases Nat.lt_or_ge i n with hi | hi
  · rw [boolCells_at _ hi, boolCells_at _ hi, boolCells_len]
    by_cases e : v = i
    · subst e
      simp [updT, hi]
    · rw [if_neg e]
      simp [updT, Ne.symm e]
  · have e1 : (boolCells f n)[i]? = none := List.getElem?_eq_none (by rw [boolCells_len]; exact hi)
    have e2 : (boolCells (updT f v x) n)[i]? = none := List.getElem?_eq_none (by rw [boolCells_len]; exact hi)
    rw [e1, e2, boolCells_len]
    by_cases e : v = i
    · rw [if_pos e, if_neg (by omega)]
    · rw [if_neg e]
/-- A row of marks of its own. -/
def Marks (w : World) (b n : Nat) (f : Nat → Bool) : Prop := w.heap[b]? = some (.cells (boolCells f n).toArray 4)
theorem Marks.cell {w : World} {b n : Nat} {f : Nat → Bool} (h : Marks w b n f) {i : Nat} (hi : i < n) : w.cell? ⟨b, i, none⟩ = some (.bool (f i)) := by
  have h : w.heap[b]? = _ := h
  have := boolCells_at f hi
  simp only [World.cell?, h]
  simpa using this
theorem Marks.free {w : World} {b n : Nat} {f : Nat → Bool} (h : Marks w b n f) (i : Nat) : w.frozen? ⟨b, i, none⟩ = false := by
  have h : w.heap[b]? = _ := h
  simp [World.frozen?, h]
theorem Marks.lt {w : World} {b n : Nat} {f : Nat → Bool} (h : Marks w b n f) : b < w.heap.size := lt_of_block h
theorem Marks.set {w : World} {b n : Nat} {f : Nat → Bool} (h : Marks w b n f) (i : Nat) (x : Bool) : Marks (w.setCell ⟨b, i, none⟩ (.bool x)) b n (updT f i x) := by
  unfold Marks
  rw [heap_setCell_same w b i _ h, List.setIfInBounds_toArray, boolCells_set]
theorem Marks.keep {w w' : World} {b n : Nat} {f : Nat → Bool} (h : Marks w b n f) (hk : w'.heap[b]? = w.heap[b]?) : Marks w' b n f := Eq.trans hk h
/-- A row of numbers of its own. -/
def Nums (w : World) (b n : Nat) (f : Nat → Nat) : Prop := w.heap[b]? = some (.cells (natCells f n).toArray 3)
theorem Nums.cell {w : World} {b n : Nat} {f : Nat → Nat} (h : Nums w b n f) {i : Nat} (hi : i < n) : w.cell? ⟨b, i, none⟩ = some (.int .i64 ((f i : Nat) : Int)) := by
  have h : w.heap[b]? = _ := h
  have := natCells_at f hi
  simp only [World.cell?, h]
  simpa using this
theorem Nums.free {w : World} {b n : Nat} {f : Nat → Nat} (h : Nums w b n f) (i : Nat) : w.frozen? ⟨b, i, none⟩ = false := by
  have h : w.heap[b]? = _ := h
  simp [World.frozen?, h]
theorem Nums.lt {w : World} {b n : Nat} {f : Nat → Nat} (h : Nums w b n f) : b < w.heap.size := lt_of_block h
theorem Nums.set {w : World} {b n : Nat} {f : Nat → Nat} (h : Nums w b n f) (i x : Nat) : Nums (w.setCell ⟨b, i, none⟩ (.int .i64 ((x : Nat) : Int))) b n (upd f i x) := by
  unfold Nums
  rw [heap_setCell_same w b i _ h, List.setIfInBounds_toArray, natCells_set]
theorem Nums.keep {w w' : World} {b n : Nat} {f : Nat → Nat} (h : Nums w b n f) (hk : w'.heap[b]? = w.heap[b]?) : Nums w' b n f := Eq.trans hk h
end Go.Proofs.YtnfnebfioibndaaGreatDoor
