/- slices.DeleteFunc at offers: the walk. -/
import Derived.Test.YtnfnebfioibndaaGreatDoorDel
namespace Go.Proofs.YtnfnebfioibndaaGreatDoor
open Go.RowKit
set_option maxRecDepth 100000
set_option maxHeartbeats 4000000

theorem owns_below {w w' : World} {base : Nat} {e : TypeId} {sz : Nat} {v : Value} {n : Nat} {xs : List Value} (h : w.ownsRow base e sz v n xs) (hb : Below w.heap.size w w') : w'.ownsRow base e sz v n xs :=
  h.kept (row := none) ⟨hb.os, hb.tape, hb.output, hb.size, fun k hk _ => hb.block k hk⟩ (by cases v.ownBlock <;> simp)

/-- In the midst of DeleteFunc: i rows are kept, from j on they lie as they lay. -/
structure Mid (w : World) (base : Nat) (g n cap : Nat) (os : List OffD) (p : OffD → Bool) (i j : Nat) (wr : World) (xs : List Value) : Prop where
  own : wr.ownsRow base 73 5 (.slice (some ⟨g, 0, none⟩) n cap) n xs
  len : i = ((os.take j).filter (fun o => !p o)).length
  ij : i < j
  kept : ∀ r c, r < i → c < 5 → xs[r * 5 + c]? = some ((((os.take j).filter (fun o => !p o)).getD r default).row c)
  rest : ∀ r c, j ≤ r → r < n → c < 5 → xs[r * 5 + c]? = some ((os.getD r default).row c)
  below : Below g w wr
  size : w.heap.size ≤ wr.heap.size

theorem filter_len_take {os : List OffD} {p : OffD → Bool} {k : Nat} (hk : k ≤ os.length) (h : ∀ j, j < k → p (os.getD j default) = false) : (os.take k).filter (fun o => !p o) = os.take k := by
  rw [List.filter_eq_self]
  intro o ho
  obtain ⟨j, hj, rfl⟩ := List.mem_take_iff_getElem.1 ho
  have hj' : j < k := by omega
  have := h j hj'
  rw [List.getD, List.getElem?_eq_getElem (by omega)] at this
  simpa using this

theorem filter_one_no {p : OffD → Bool} {o : OffD} (h : p o = true) : ([o] : List OffD).filter (fun o => !p o) = [] := by
  rw [List.filter_cons, h]; rfl
theorem filter_one_yes {p : OffD → Bool} {o : OffD} (h : p o = false) : ([o] : List OffD).filter (fun o => !p o) = [o] := by
  rw [List.filter_cons, h]; rfl

theorem Mid.start {w wr : World} {base g n cap : Nat} {os : List OffD} {p : OffD → Bool} {i0 : Nat} (hn : os.length = n) (hown : wr.ownsRow base 73 5 (.slice (some ⟨g, 0, none⟩) n cap) n (rowsOf os)) (hi : i0 < n) (hp : p (os.getD i0 default) = true) (hq : ∀ j, j < i0 → p (os.getD j default) = false) (hb : Below g w wr) (hs : w.heap.size ≤ wr.heap.size) :
    Mid w base g n cap os p i0 (i0 + 1) wr (rowsOf os) := by
  have e : (os.take (i0 + 1)).filter (fun o => !p o) = os.take i0 := by
    rw [take_snoc default (by omega), List.filter_append, filter_len_take (by omega) hq, filter_one_no hp, List.append_nil]
  refine ⟨hown, ?_, Nat.lt_succ_self _, ?_, ?_, hb, hs⟩
  · rw [e]; simp; omega
  · intro r c hr hc
    rw [rowsOf_at os r c (by omega) hc, e]
    have : (os.take i0).getD r default = os.getD r default := by simp [List.getD, hr]
    rw [this]
  · intro r c _ hr hc
    exact rowsOf_at os r c (by omega) hc
/-- One that goes. -/
theorem Mid.skip {w wr w' : World} {base g n cap : Nat} {os : List OffD} {p : OffD → Bool} {i j : Nat} {xs : List Value} (hn : os.length = n) (h : Mid w base g n cap os p i j wr xs) (hj : j < n) (hp : p (os.getD j default) = true) (hb : Below wr.heap.size wr w') (hg : g ≤ wr.heap.size) :
    Mid w base g n cap os p i (j + 1) w' xs := by
  have e : (os.take (j + 1)).filter (fun o => !p o) = (os.take j).filter (fun o => !p o) := by
    rw [take_snoc default (by omega), List.filter_append, filter_one_no hp, List.append_nil]
  refine ⟨owns_below h.own hb, by rw [e]; exact h.len, Nat.lt_succ_of_lt h.ij, ?_, fun r c hr => h.rest r c (by omega), h.below.trans (hb.mono hg), Nat.le_trans h.size hb.size⟩
  rw [e]
  exact h.kept

/-- One that stays: its cells are laid at i. -/
theorem Mid.keep {w wr w' : World} {base g n cap : Nat} {os : List OffD} {p : OffD → Bool} {i j : Nat} {xs : List Value} (hn : os.length = n) (h : Mid w base g n cap os p i j wr xs) (hj : j < n) (hp : p (os.getD j default) = false) (hb : Below wr.heap.size wr w') (hg : g ≤ wr.heap.size) (hbase : base ≤ g)
    (o : OffD) (ho : os.getD j default = o) :
    Mid w base g n cap os p (i + 1) (j + 1) (((((w'.setCell ⟨g, i * 5, none⟩ (o.row 0)).setCell ⟨g, i * 5 + 1, none⟩ (o.row 1)).setCell ⟨g, i * 5 + 2, none⟩ (o.row 2)).setCell ⟨g, i * 5 + 3, none⟩ (o.row 3)).setCell ⟨g, i * 5 + 4, none⟩ (o.row 4)) (((((xs.set (i * 5) (o.row 0)).set (i * 5 + 1) (o.row 1)).set (i * 5 + 2) (o.row 2)).set (i * 5 + 3) (o.row 3)).set (i * 5 + 4) (o.row 4)) := by
  have e : (os.take (j + 1)).filter (fun o => !p o) = (os.take j).filter (fun o => !p o) ++ [o] := by
    rw [take_snoc default (by omega), List.filter_append, ho, filter_one_yes (by rw [← ho]; exact hp)]
  have hl := h.len
  have hij := h.ij
  have hxl : xs.length = n * 5 := h.own.1
  have o1 := owns_below h.own hb
  have a0 := (o1.stored (i * 5) (o.row 0)).1
  have a1 := (a0.stored (i * 5 + 1) (o.row 1)).1
  have a2 := (a1.stored (i * 5 + 2) (o.row 2)).1
  have a3 := (a2.stored (i * 5 + 3) (o.row 3)).1
  have a4 := (a3.stored (i * 5 + 4) (o.row 4)).1
  have key : ∀ k, (((((xs.set (i * 5) (o.row 0)).set (i * 5 + 1) (o.row 1)).set (i * 5 + 2) (o.row 2)).set (i * 5 + 3) (o.row 3)).set (i * 5 + 4) (o.row 4))[k]? = if i * 5 ≤ k ∧ k < i * 5 + 5 ∧ k < n * 5 then some (o.row (k - i * 5)) else xs[k]? := by
    intro k
    simp only [List.getElem?_set, List.length_set, hxl]
    by_cases hk : i * 5 ≤ k ∧ k < i * 5 + 5 ∧ k < n * 5
    · rw [if_pos hk]
      obtain ⟨h1, h2, h3⟩ := hk
      have hm : k = i * 5 ∨ k = i * 5 + 1 ∨ k = i * 5 + 2 ∨ k = i * 5 + 3 ∨ k = i * 5 + 4 := by omega
      rcases hm with rfl | rfl | rfl | rfl | rfl <;> simp [h3, OffD.row]
    · rw [if_neg hk]
      rw [if_neg (by omega), if_neg (by omega), if_neg (by omega), if_neg (by omega), if_neg (by omega)]
  refine ⟨a4, by rw [e, List.length_append, ← hl]; rfl, by omega, ?_, ?_, ?_, ?_⟩
  · intro r c hr hc
    rw [key, e]
    by_cases hri : r = i
    · subst hri
      rw [if_pos ⟨by omega, by omega, by omega⟩, show r * 5 + c - r * 5 = c by omega]
      have : (((os.take j).filter (fun o => !p o)) ++ [o]).getD r default = o := by
        rw [List.getD, List.getElem?_append_right (by omega), hl]
        simp
      rw [this]
    · rw [if_neg (by omega)]
      have hr' : r < i := by omega
      rw [h.kept r c hr' hc]
      have : (((os.take j).filter (fun o => !p o)) ++ [o]).getD r default = ((os.take j).filter (fun o => !p o)).getD r default := by
        rw [List.getD, List.getD, List.getElem?_append_left (by omega)]
      rw [this]
  · intro r c hr hrn hc
    rw [key, if_neg (by omega)]
    exact h.rest r c (by omega) hrn hc
  · have hb' := h.below.trans (hb.mono hg)
    exact ((((hb'.setCell (Nat.le_refl _) _).setCell (Nat.le_refl _) _).setCell (Nat.le_refl _) _).setCell (Nat.le_refl _) _).setCell (Nat.le_refl _) _
  · have := h.size
    have := hb.size
    simp [World.setCell]
    omega
end Go.Proofs.YtnfnebfioibndaaGreatDoor
