/- slices.ContainsFunc at packages that are known, at whatever predicate. · slices.DeleteFunc at offers, at whatever predicate: an own row is cut to those that stay. · slices.DeleteFunc at offers: the walk. · slices.DeleteFunc at offers: the walk itself. · A package that is known, its twenty cells written out. · stevedoreref.working: the packages that work, but some. -/
import Derived.Test.YtnfnebfioibndaaGreatDoorM09
import Derived.Laws.IdiomCopy
namespace Go.Proofs.YtnfnebfioibndaaGreatDoor
open Go.RowKit
set_option maxRecDepth 100000
set_option maxHeartbeats 2000000

def row20 (R : Nat → Value) : List Value := (List.range 20).map R
theorem row20_len (R : Nat → Value) : (row20 R).length = 20 := by simp [row20]
theorem rangeAt_row20 {w : World} {b o : Nat} {R : Nat → Value} (h : ∀ j, j < 20 → w.cell? ⟨b, o + j, none⟩ = some (R j)) : w.rangeAt b o (row20 R) := by
  intro j v hv
  have hj : j < 20 := by
    rcases Nat.lt_or_ge j 20 with h' | h'
    · exact h'
    · rw [List.getElem?_eq_none (by rw [row20_len]; exact h')] at hv
      cases hv
  have : (row20 R)[j]? = some (R j) := by simp [row20, hj]
  rw [this] at hv
  rw [h j hj, hv]

def FoundK (n : Nat) (p : Nat → Bool) (w : World) (e : Ending) (w' : World) : Prop := ∃ k : Int, e = .returned (.int .i64 k) ∧ decide (0 ≤ k) = (List.range n).any p ∧ Below w.heap.size w w'

theorem any_range_step {p : Nat → Bool} {i : Nat} (h : (List.range i).any p = false) (hp : p i = false) : (List.range (i + 1)).any p = false := by
  rw [List.range_succ, List.any_append, h]
  simp [hp]

theorem indexKnown_calls (v : Value) (n : Nat) (R : Nat → Nat → Value) (g : FuncId) (caps : Array Value) (p : Nat → Bool) (w : World) (hT : Sl w v n 20 R)
    (eg : ∀ args w, (callFunc g args).run Tryz.prog w = .ok (.enter g args) w)
    (hf : ∀ i, i < n → ∀ w', Below w.heap.size w w' → Calls Tryz.prog g (#[.agg (row20 (R i)).toArray] ++ caps) w' fun e w'' => e = .returned (.bool (p i)) ∧ Below w'.heap.size w' w'') :
    Calls Tryz.prog 54 #[v, .func (.func g) #[] caps] w (FoundK n p w) := by
  obtain ⟨a, cap, rfl, hcap, hmax, hcell⟩ := hT
  unfold maxLen at hmax
  have Hcell := Lib.hid hcell
  have Hf := Lib.hid hf
  clear hcell hf
  go_enter Tryz.func54, Tryz.ntmps54
  go_wp2_with fail
  go_loopg [8] n (fun k v8 wr => ∃ i : Nat, v8 = .int .i64 i ∧ i ≤ n ∧ k = n - i ∧ (List.range i).any p = false ∧ Below w.heap.size w wr)
  case atStart => exact ⟨0, rfl, Nat.zero_le _, rfl, rfl, Below.refl _ _⟩
  case round =>
    obtain ⟨i, rfl, hi, hk, hall, hB⟩ := hrel
    have Hk := Lib.hid hk
    have Hall := Lib.hid hall
    clear hk hall
    by_cases hlt : i < n
    · obtain ⟨b, o, rfl, hb, hc⟩ := Hcell.out.resolve_left (by omega)
      have HR : Hid (wr.rangeAt b (o + i * 20) (row20 (R i))) := rangeAt_row20 fun j hj => (hB.cell (p := ⟨b, o + i * 20 + j, none⟩) hb).trans (hc i j hlt hj)
      clear hc hb
      go_wp2_with (refine wpList_load_mid (by rfl) 61 _ (by rfl) b (o + i * 20) (by rfl) _ _ HR.out Tryz.underlying61 (by rfl) (by rw [row20_len]; kernel_rfl) ?_)
      refine (Hf.out i hlt _ hB).mono ?_
      rintro e w1 ⟨rfl, hb1⟩
      have hB1 := hB.trans (hb1.mono hB.size)
      clear hB hb1
      cases hp : p i
      · have HS : Hid ((List.range (i + 1)).any p = false) := any_range_step Hall.out hp
        clear hp
        go_wp2_with fail
        go_roundg (n - (i + 1))
        case rel => exact ⟨i + 1, by go_num, by omega, rfl, HS.out, hB1⟩
        case measure => have := Hk.out; omega
      · have HF : Hid ((List.range n).any p = true) := by
          show _ = _
          rw [List.any_eq_true]
          exact ⟨i, List.mem_range.2 hlt, hp⟩
        clear hp
        go_wp2_with fail
        go_ret
        exact ⟨_, rfl, by rw [HF.out]; exact decide_eq_true (by omega), hB1⟩
    · have HF : Hid ((List.range n).any p = false) := by
        have := Hall.out
        rwa [show i = n by omega] at this
      go_wp2_with fail
      go_ret
      exact ⟨-1, rfl, by rw [HF.out]; rfl, hB⟩

theorem containsKnown_calls (v : Value) (n : Nat) (R : Nat → Nat → Value) (g : FuncId) (caps : Array Value) (p : Nat → Bool) (w : World) (hT : Sl w v n 20 R)
    (eg : ∀ args w, (callFunc g args).run Tryz.prog w = .ok (.enter g args) w)
    (hf : ∀ i, i < n → ∀ w', Below w.heap.size w w' → Calls Tryz.prog g (#[.agg (row20 (R i)).toArray] ++ caps) w' fun e w'' => e = .returned (.bool (p i)) ∧ Below w'.heap.size w' w'') :
    Calls Tryz.prog 22 #[v, .func (.func g) #[] caps] w fun e w' => e = .returned (.bool ((List.range n).any p)) ∧ Below w.heap.size w w' := by
  have HI := Lib.hid (indexKnown_calls v n R g caps p w hT eg hf)
  clear hf eg hT
  go_enter Tryz.func22, Tryz.ntmps22
  go_wp2_with fail
  refine HI.out.mono ?_
  rintro e w1 ⟨k, rfl, hk, hb⟩
  have HK := Lib.hid hk
  clear hk HI
  go_wp2_with fail
  go_ret
  exact ⟨ret_bool HK.out, hb⟩
end Go.Proofs.YtnfnebfioibndaaGreatDoor
namespace Go.Proofs.YtnfnebfioibndaaGreatDoor
open Go.RowKit
set_option maxRecDepth 100000
set_option maxHeartbeats 2000000

theorem zeroCells_mem {zs : Array Value} {n : Nat} (hz : zs.all (·.oneCell') = true) : ∀ v ∈ (Builtin.zeroCells zs n).toList, v.oneCell' = true := by
  intro v hv
  unfold Builtin.zeroCells at hv
  rw [Array.toList_map] at hv
  obtain ⟨i, hi, rfl⟩ := List.mem_map.1 hv
  have hi' : i < n * zs.size := by simpa using hi
  have hp : 0 < zs.size := by
    rcases Nat.eq_zero_or_pos zs.size with h | h
    · rw [h] at hi'; simp at hi'
    · exact h
  have hlt : i % zs.size < zs.size := Nat.mod_lt _ hp
  rw [getElem!_pos zs (i % zs.size) hlt]
  rw [Array.all_eq_true_iff_forall_mem] at hz
  exact hz _ (Array.getElem_mem hlt)

/-- 'clear(s)' at elements of several cells. -/
theorem run_clear_cells (w : World) (t e ty : TypeId) (z : Value) (zs : Array Value) (ht : Tryz.prog.underlying t = some (.slice e)) (hv : ∀ w, (zeroValue e).run Tryz.prog w = .ok z w) (hz : z.cells = zs) (h1 : zs.all (·.oneCell') = true) (b o n c : Nat) (hn : 0 < n)
    (hc : ∀ j, j < n * zs.size → (w.cell? ⟨b, o + j, none⟩).isSome = true) (hf : ∀ j, j < n * zs.size → w.frozen? ⟨b, o + j, none⟩ = false) :
    (Builtin.clear_ #[t] ty #[.slice (some ⟨b, o, none⟩) n c]).run Tryz.prog w = .ok (.tuple #[]) (w.setCells b o (Builtin.zeroCells zs n).toList) := by
  have hlen : (Builtin.zeroCells zs n).toList.length = n * zs.size := by unfold Builtin.zeroCells; simp
  have hst := run_storeCells_cells (P := Tryz.prog) b o (Builtin.zeroCells zs n).toList 0 w (by rw [hlen]; simpa using hc) (by rw [hlen]; simpa using hf) (zeroCells_mem h1)
  simp only [Nat.add_zero] at hst
  obtain ⟨m, rfl⟩ : ∃ m, n = m + 1 := ⟨n - 1, by omega⟩
  simp [Builtin.clear_, run_underlying ht, hv, hz, hst]

def FirstK (n : Nat) (p : Nat → Bool) (w : World) (e : Ending) (w' : World) : Prop :=
  ∃ k : Int, e = .returned (.int .i64 k) ∧ ((k = -1 ∧ ∀ i, i < n → p i = false) ∨ ∃ i : Nat, k = i ∧ i < n ∧ p i = true ∧ ∀ j, j < i → p j = false) ∧ Below w.heap.size w w'

/-- slices.IndexFunc at offers: which is the first. -/
theorem firstOff_calls (v : Value) (n : Nat) (f : Nat → OffD) (g : FuncId) (caps : Array Value) (p : Nat → Bool) (w : World) (hT : Sl w v n 5 (fun i j => (f i).row j))
    (eg : ∀ args w, (callFunc g args).run Tryz.prog w = .ok (.enter g args) w)
    (hf : ∀ i, i < n → ∀ w', Below w.heap.size w w' → Calls Tryz.prog g (#[.agg #[.string (f i).name, .int .i64 (f i).ep, .string (f i).up, .string (f i).rv, (f i).pv]] ++ caps) w' fun e w'' => e = .returned (.bool (p i)) ∧ Below w'.heap.size w' w'') :
    Calls Tryz.prog 55 #[v, .func (.func g) #[] caps] w (FirstK n p w) := by
  obtain ⟨a, cap, rfl, hcap, hmax, hcell⟩ := hT
  unfold maxLen at hmax
  have Hcell := Lib.hid hcell
  have Hf := Lib.hid hf
  clear hcell hf
  go_enter Tryz.func55, Tryz.ntmps55
  go_wp2_with fail
  go_loopg [8] n (fun k v8 wr => ∃ i : Nat, v8 = .int .i64 i ∧ i ≤ n ∧ k = n - i ∧ (∀ j, j < i → p j = false) ∧ Below w.heap.size w wr)
  case atStart => exact ⟨0, rfl, Nat.zero_le _, rfl, fun j hj => absurd hj (Nat.not_lt_zero _), Below.refl _ _⟩
  case round =>
    obtain ⟨i, rfl, hi, hk, hall, hB⟩ := hrel
    have Hk := Lib.hid hk
    have Hall := Lib.hid hall
    clear hk hall
    by_cases hlt : i < n
    · obtain ⟨b, o, rfl, hb, hc⟩ := Hcell.out.resolve_left (by omega)
      obtain ⟨t, ht⟩ : ∃ t, f i = t := ⟨_, rfl⟩
      have hat : ∀ j, j < 5 → wr.cell? ⟨b, o + i * 5 + j, none⟩ = some (t.row j) := fun j hj => by rw [← ht]; exact (hB.cell (p := ⟨b, o + i * 5 + j, none⟩) hb).trans (hc i j hlt hj)
      have c0 : wr.cell? ⟨b, o + i * 5, none⟩ = some (.string t.name) := hat 0 (by decide)
      have c1 : wr.cell? ⟨b, o + i * 5 + 1, none⟩ = some (.int .i64 t.ep) := hat 1 (by decide)
      have c2 : wr.cell? ⟨b, o + i * 5 + 2, none⟩ = some (.string t.up) := hat 2 (by decide)
      have c3 : wr.cell? ⟨b, o + i * 5 + 3, none⟩ = some (.string t.rv) := hat 3 (by decide)
      have c4 : wr.cell? ⟨b, o + i * 5 + 4, none⟩ = some t.pv := hat 4 (by decide)
      have HC := Lib.hid (Hf.out i hlt wr hB)
      rw [ht] at HC
      clear hc hb hat ht
      go_wp2_with fail
      refine HC.out.mono ?_
      rintro e w1 ⟨rfl, hb1⟩
      have hB1 := hB.trans (hb1.mono hB.size)
      clear hB hb1 HC c0 c1 c2 c3 c4
      cases hp : p i
      · have HS : Hid (∀ j, j < i + 1 → p j = false) := fun j hj => by
          rcases Nat.lt_or_ge j i with h | h
          · exact Hall.out j h
          · rw [show j = i by omega]; exact hp
        clear hp
        go_wp2_with fail
        go_roundg (n - (i + 1))
        case rel => exact ⟨i + 1, by go_num, by omega, rfl, HS.out, hB1⟩
        case measure => have := Hk.out; omega
      · have HF := Lib.hid hp
        clear hp
        go_wp2_with fail
        go_ret
        exact ⟨_, rfl, Or.inr ⟨i, rfl, hlt, HF.out, Hall.out⟩, hB1⟩
    · go_wp2_with fail
      go_ret
      exact ⟨-1, rfl, Or.inl ⟨rfl, fun j hj => Hall.out j (by omega)⟩, hB⟩
end Go.Proofs.YtnfnebfioibndaaGreatDoor
namespace Go.Proofs.YtnfnebfioibndaaGreatDoor
open Go.RowKit
set_option maxRecDepth 100000
set_option maxHeartbeats 4000000

theorem owns_below {w w' : World} {base : Nat} {e : TypeId} {sz : Nat} {v : Value} {n : Nat} {xs : List Value} (h : w.ownsRow base e sz v n xs) (hb : Below w.heap.size w w') : w'.ownsRow base e sz v n xs :=
  h.kept (row := none) ⟨hb.os, hb.tape, hb.output, hb.size, fun k hk _ => hb.block k hk⟩ (by cases v.ownBlock <;> simp)

/-- In the midst of DeleteFunc: i rows are kept, from j on they lie as they lay. -/
structure Mid (w : World) (base : Nat) (g n cap : Nat) (os : List OffD) (p : OffD → Bool) (i j : Nat) (wr : World) (xs : List Value) : Prop where
  own : wr.ownsRow base 73 5 (.slice (some ⟨g, 0, none⟩) n cap) n xs
  len : i = ((os.take j).filter (fun o => !p o)).length
  ij : i < j
  kept : ∀ r c, r < i → c < 5 → xs[r * 5 + c]? = some ((((os.take j).filter (fun o => !p o)).getD r default).row c)
  rest : ∀ r c, j ≤ r → r < n → c < 5 → xs[r * 5 + c]? = some ((os.getD r default).row c)
  below : Below g w wr
  size : w.heap.size ≤ wr.heap.size

theorem filter_len_take {os : List OffD} {p : OffD → Bool} {k : Nat} (hk : k ≤ os.length) (h : ∀ j, j < k → p (os.getD j default) = false) : (os.take k).filter (fun o => !p o) = os.take k := by
  rw [List.filter_eq_self]
  intro o ho
  obtain ⟨j, hj, rfl⟩ := List.mem_take_iff_getElem.1 ho
  have hj' : j < k := by omega
  have := h j hj'
  rw [List.getD, List.getElem?_eq_getElem (by omega)] at this
  simpa using this

theorem filter_one_no {p : OffD → Bool} {o : OffD} (h : p o = true) : ([o] : List OffD).filter (fun o => !p o) = [] := by
  rw [List.filter_cons, h]; rfl
theorem filter_one_yes {p : OffD → Bool} {o : OffD} (h : p o = false) : ([o] : List OffD).filter (fun o => !p o) = [o] := by
  rw [List.filter_cons, h]; rfl

theorem Mid.start {w wr : World} {base g n cap : Nat} {os : List OffD} {p : OffD → Bool} {i0 : Nat} (hn : os.length = n) (hown : wr.ownsRow base 73 5 (.slice (some ⟨g, 0, none⟩) n cap) n (rowsOf os)) (hi : i0 < n) (hp : p (os.getD i0 default) = true) (hq : ∀ j, j < i0 → p (os.getD j default) = false) (hb : Below g w wr) (hs : w.heap.size ≤ wr.heap.size) :
    Mid w base g n cap os p i0 (i0 + 1) wr (rowsOf os) := by
  have e : (os.take (i0 + 1)).filter (fun o => !p o) = os.take i0 := by
    rw [take_snoc default (by omega), List.filter_append, filter_len_take (by omega) hq, filter_one_no hp, List.append_nil]
  refine ⟨hown, ?_, Nat.lt_succ_self _, ?_, ?_, hb, hs⟩
  · rw [e]; simp; omega
  · intro r c hr hc
    rw [rowsOf_at os r c (by omega) hc, e]
    have : (os.take i0).getD r default = os.getD r default := by simp [List.getD, hr]
    rw [this]
  · intro r c _ hr hc
    exact rowsOf_at os r c (by omega) hc
/-- One that goes. -/
theorem Mid.skip {w wr w' : World} {base g n cap : Nat} {os : List OffD} {p : OffD → Bool} {i j : Nat} {xs : List Value} (hn : os.length = n) (h : Mid w base g n cap os p i j wr xs) (hj : j < n) (hp : p (os.getD j default) = true) (hb : Below wr.heap.size wr w') (hg : g ≤ wr.heap.size) :
    Mid w base g n cap os p i (j + 1) w' xs := by
  have e : (os.take (j + 1)).filter (fun o => !p o) = (os.take j).filter (fun o => !p o) := by
    rw [take_snoc default (by omega), List.filter_append, filter_one_no hp, List.append_nil]
  refine ⟨owns_below h.own hb, by rw [e]; exact h.len, Nat.lt_succ_of_lt h.ij, ?_, fun r c hr => h.rest r c (by omega), h.below.trans (hb.mono hg), Nat.le_trans h.size hb.size⟩
  rw [e]
  exact h.kept

/-- One that stays: its cells are laid at i. -/
theorem Mid.keep {w wr w' : World} {base g n cap : Nat} {os : List OffD} {p : OffD → Bool} {i j : Nat} {xs : List Value} (hn : os.length = n) (h : Mid w base g n cap os p i j wr xs) (hj : j < n) (hp : p (os.getD j default) = false) (hb : Below wr.heap.size wr w') (hg : g ≤ wr.heap.size) (hbase : base ≤ g)
    (o : OffD) (ho : os.getD j default = o) :
    Mid w base g n cap os p (i + 1) (j + 1) (((((w'.setCell ⟨g, i * 5, none⟩ (o.row 0)).setCell ⟨g, i * 5 + 1, none⟩ (o.row 1)).setCell ⟨g, i * 5 + 2, none⟩ (o.row 2)).setCell ⟨g, i * 5 + 3, none⟩ (o.row 3)).setCell ⟨g, i * 5 + 4, none⟩ (o.row 4)) (((((xs.set (i * 5) (o.row 0)).set (i * 5 + 1) (o.row 1)).set (i * 5 + 2) (o.row 2)).set (i * 5 + 3) (o.row 3)).set (i * 5 + 4) (o.row 4)) := by
  have e : (os.take (j + 1)).filter (fun o => !p o) = (os.take j).filter (fun o => !p o) ++ [o] := by
    rw [take_snoc default (by omega), List.filter_append, ho, filter_one_yes (by rw [← ho]; exact hp)]
  have hl := h.len
  have hij := h.ij
  have hxl : xs.length = n * 5 := h.own.1
  have o1 := owns_below h.own hb
  have a0 := (o1.stored (i * 5) (o.row 0)).1
  have a1 := (a0.stored (i * 5 + 1) (o.row 1)).1
  have a2 := (a1.stored (i * 5 + 2) (o.row 2)).1
  have a3 := (a2.stored (i * 5 + 3) (o.row 3)).1
  have a4 := (a3.stored (i * 5 + 4) (o.row 4)).1
  have key : ∀ k, (((((xs.set (i * 5) (o.row 0)).set (i * 5 + 1) (o.row 1)).set (i * 5 + 2) (o.row 2)).set (i * 5 + 3) (o.row 3)).set (i * 5 + 4) (o.row 4))[k]? = if i * 5 ≤ k ∧ k < i * 5 + 5 ∧ k < n * 5 then some (o.row (k - i * 5)) else xs[k]? := by
    intro k
    simp only [List.getElem?_set, List.length_set, hxl]
    by_cases hk : i * 5 ≤ k ∧ k < i * 5 + 5 ∧ k < n * 5
    · rw [if_pos hk]
      obtain ⟨h1, h2, h3⟩ := hk
      have hm : k = i * 5 ∨ k = i * 5 + 1 ∨ k = i * 5 + 2 ∨ k = i * 5 + 3 ∨ k = i * 5 + 4 := by omega
      rcases hm with rfl | rfl | rfl | rfl | rfl <;> simp [h3, OffD.row]
    · rw [if_neg hk]
      rw [if_neg (by omega), if_neg (by omega), if_neg (by omega), if_neg (by omega), if_neg (by omega)]
  refine ⟨a4, by rw [e, List.length_append, ← hl]; rfl, by omega, ?_, ?_, ?_, ?_⟩
  · intro r c hr hc
    rw [key, e]
    by_cases hri : r = i
    · subst hri
      rw [if_pos ⟨by omega, by omega, by omega⟩, show r * 5 + c - r * 5 = c by omega]
      have : (((os.take j).filter (fun o => !p o)) ++ [o]).getD r default = o := by
        rw [List.getD, List.getElem?_append_right (by omega), hl]
        simp
      rw [this]
    · rw [if_neg (by omega)]
      have hr' : r < i := by omega
      rw [h.kept r c hr' hc]
      have : (((os.take j).filter (fun o => !p o)) ++ [o]).getD r default = ((os.take j).filter (fun o => !p o)).getD r default := by
        rw [List.getD, List.getD, List.getElem?_append_left (by omega)]
      rw [this]
  · intro r c hr hrn hc
    rw [key, if_neg (by omega)]
    exact h.rest r c (by omega) hrn hc
  · have hb' := h.below.trans (hb.mono hg)
    exact ((((hb'.setCell (Nat.le_refl _) _).setCell (Nat.le_refl _) _).setCell (Nat.le_refl _) _).setCell (Nat.le_refl _) _).setCell (Nat.le_refl _) _
  · have := h.size
    have := hb.size
    simp [World.setCell]
    omega
end Go.Proofs.YtnfnebfioibndaaGreatDoor
namespace Go.Proofs.YtnfnebfioibndaaGreatDoor
open Go.RowKit
set_option maxRecDepth 100000
set_option maxHeartbeats 4000000

def DelR (g : Nat) (w : World) (os : List OffD) (p : OffD → Bool) (e : Ending) (w' : World) : Prop := ∃ v', e = .returned v' ∧ Offs w' v' (os.filter (fun o => !p o)) ∧ Below g w w'

theorem below_setCells {B g : Nat} (hg : B ≤ g) : ∀ (L : List Value) (o : Nat) {a : World} (w : World), Below B a w → Below B a (w.setCells g o L)
  | [], _, _, _, h => h
  | v :: L, o, _, w, h => below_setCells hg L (o + 1) (w.setCell ⟨g, o, none⟩ v) (h.setCell hg v)
theorem size_setCells (g : Nat) : ∀ (L : List Value) (o : Nat) (w : World), (w.setCells g o L).heap.size = w.heap.size
  | [], _, _ => rfl
  | v :: L, o, w => (size_setCells g L (o + 1) (w.setCell ⟨g, o, none⟩ v)).trans (by simp [World.setCell])

theorem deleteOff_calls (g n cap base : Nat) (os : List OffD) (fg : FuncId) (caps : Array Value) (p : OffD → Bool) (w : World) (hn : os.length = n) (hn20 : n ≤ 20)
    (hown : w.ownsRow base 73 5 (.slice (some ⟨g, 0, none⟩) n cap) n (rowsOf os)) (hbase : base ≤ g) (hg : g < w.heap.size) (hcap : n ≤ cap ∧ cap ≤ 2 ^ 63 - 1)
    (hpv : ∀ o ∈ os, ∃ a k c, o.pv = .slice a k c)
    (eg : ∀ args w, (callFunc fg args).run Tryz.prog w = .ok (.enter fg args) w)
    (hf : ∀ o ∈ os, ∀ w', Below g w w' → w.heap.size ≤ w'.heap.size → Calls Tryz.prog fg (#[.agg #[.string o.name, .int .i64 o.ep, .string o.up, .string o.rv, o.pv]] ++ caps) w' fun e w'' => e = .returned (.bool (p o)) ∧ Below w'.heap.size w' w'') :
    Calls Tryz.prog 24 #[.slice (some ⟨g, 0, none⟩) n cap, .func (.func fg) #[] caps] w (DelR g w os p) := by
  have HI := Lib.hid (firstOff_calls (.slice (some ⟨g, 0, none⟩) n cap) n (fun i => os.getD i default) fg caps (fun i => p (os.getD i default)) w (by have := (offs_owned (os := os) (by rw [hn]; exact hown)).1; rwa [hn] at this) eg (fun i hi w' hb => hf _ (mem_getD _ (by omega)) w' (hb.mono (by omega)) hb.size))
  have Hown := Lib.hid hown
  have Hpv := Lib.hid hpv
  have Hf := Lib.hid hf
  have Hn := Lib.hid hn
  obtain ⟨hc1, hc2⟩ := hcap
  clear hown hpv hf hn
  go_enter Tryz.func24, Tryz.ntmps24
  go_wp2_with fail
  refine HI.out.mono ?_
  rintro e w1 ⟨k, rfl, hk, hb⟩
  clear HI
  rcases hk with ⟨rfl, hall⟩ | ⟨i0, rfl, hi0, hp0, hq0⟩
  · have Hall := Lib.hid hall
    clear hall
    go_wp2_with fail
    go_ret
    refine ⟨_, rfl, ?_, hb.mono (by omega)⟩
    have : os.filter (fun o => !p o) = os := by
      have := filter_len_take (os := os) (p := p) (k := n) (by rw [Hn.out]; exact Nat.le_refl _) Hall.out
      rwa [List.take_of_length_le (by rw [Hn.out]; exact Nat.le_refl _)] at this
    rw [this]
    exact (offs_owned (by rw [Hn.out]; exact Hown.out)).below hb (Nat.le_refl _)
  · have HM := Lib.hid (Mid.start (w := w) (g := g) Hn.out (owns_below Hown.out hb) hi0 hp0 hq0 (hb.mono (by omega)) hb.size)
    have hsz1 := hb.size
    clear hp0 hq0 hb
    go_wp2_with fail
    go_loopg [5, 6] n (fun k v5 v6 wr => ∃ (i j : Nat) (xs : List Value), v5 = .int .i64 i ∧ v6 = .int .i64 j ∧ j ≤ n ∧ n - j ≤ k ∧ Mid w base g n cap os p i j wr xs)
    case atStart => exact ⟨i0, i0 + 1, _, rfl, by go_num, by omega, by omega, HM.out⟩
    case round =>
      clear HM
      obtain ⟨i, j, xs, rfl, rfl, hj, hk, hM⟩ := hrel
      have Hk := Lib.hid hk
      have HM := Lib.hid hM
      have hij := hM.ij
      have hgr : g < wr.heap.size := Nat.lt_of_lt_of_le hg hM.size
      clear hk
      by_cases hjl : j < n
      · obtain ⟨o, ho⟩ : ∃ o, os.getD j default = o := ⟨_, rfl⟩
        have hmem : o ∈ os := by rw [← ho]; exact mem_getD _ (by rw [Hn.out]; exact hjl)
        obtain ⟨pa, pn, pc, hpv⟩ := Hpv.out o hmem
        have hat : ∀ c, c < 5 → wr.cell? ⟨g, j * 5 + c, none⟩ = some (o.row c) := fun c hc => by
          rw [hM.own.cellAt (j * 5 + c) (by omega), hM.rest j c (Nat.le_refl _) hjl hc, ho]
        have c0 : wr.cell? ⟨g, j * 5, none⟩ = some (.string o.name) := hat 0 (by decide)
        have c1 : wr.cell? ⟨g, j * 5 + 1, none⟩ = some (.int .i64 o.ep) := hat 1 (by decide)
        have c2 : wr.cell? ⟨g, j * 5 + 2, none⟩ = some (.string o.up) := hat 2 (by decide)
        have c3 : wr.cell? ⟨g, j * 5 + 3, none⟩ = some (.string o.rv) := hat 3 (by decide)
        have c4 : wr.cell? ⟨g, j * 5 + 4, none⟩ = some (.slice pa pn pc) := by rw [← hpv]; exact hat 4 (by decide)
        have Ho := Lib.hid ho
        have HC : Hid (∀ w', Below wr.heap.size wr w' → Calls Tryz.prog fg (#[.agg #[.string o.name, .int .i64 o.ep, .string o.up, .string o.rv, .slice pa pn pc]] ++ caps) w' fun e w'' => e = .returned (.bool (p o)) ∧ Below w'.heap.size w' w'') := by
          intro w' hb'
          have := Hf.out o hmem w' (HM.out.below.trans (hb'.mono (by omega))) (Nat.le_trans HM.out.size hb'.size)
          rwa [hpv] at this
        have Hpo := Lib.hid hpv
        clear hM hat hmem hpv ho
        obtain ⟨wt, hwt⟩ : ∃ wt : World, wt = wr.alloc (.cells #[.string o.name, .int .i64 o.ep, .string o.up, .string o.rv, .slice pa pn pc] 73) := ⟨_, rfl⟩
        have hBt : Below wr.heap.size wr wt := by rw [hwt]; exact (Below.refl _ _).alloc (Nat.le_refl _) _
        have b0 : wt.cell? ⟨wr.heap.size, 0, none⟩ = some (.string o.name) := by rw [hwt, World.cell?_alloc_new]; rfl
        have b1 : wt.cell? ⟨wr.heap.size, 1, none⟩ = some (.int .i64 o.ep) := by rw [hwt, World.cell?_alloc_new]; rfl
        have b2 : wt.cell? ⟨wr.heap.size, 2, none⟩ = some (.string o.up) := by rw [hwt, World.cell?_alloc_new]; rfl
        have b3 : wt.cell? ⟨wr.heap.size, 3, none⟩ = some (.string o.rv) := by rw [hwt, World.cell?_alloc_new]; rfl
        have b4 : wt.cell? ⟨wr.heap.size, 4, none⟩ = some (.slice pa pn pc) := by rw [hwt, World.cell?_alloc_new]; rfl
        have hzt : wr.heap.size < wt.heap.size := by rw [hwt]; simp
        have Hwt := Lib.hid hwt
        clear hwt
        go_wp2_with fail
        rw [show wr.alloc (.cells _ _) = wt from Hwt.out.symm]
        refine (HC.out wt hBt).mono ?_
        rintro e1 w2 ⟨rfl, hb2⟩
        have hB2 := hBt.trans (hb2.mono hBt.size)
        clear c0 c1 c2 c3 c4 HC
        cases hpo : p o
        · have HK := Lib.hid (Mid.keep Hn.out HM.out hjl (by rw [Ho.out]; exact hpo) hB2 (by omega) hbase o Ho.out)
          have e0 := (hb2.cell (p := ⟨wr.heap.size, 0, none⟩) hzt).trans b0
          have e1 := (hb2.cell (p := ⟨wr.heap.size, 1, none⟩) hzt).trans b1
          have e2 := (hb2.cell (p := ⟨wr.heap.size, 2, none⟩) hzt).trans b2
          have e3 := (hb2.cell (p := ⟨wr.heap.size, 3, none⟩) hzt).trans b3
          have e4 := (hb2.cell (p := ⟨wr.heap.size, 4, none⟩) hzt).trans b4
          have ow := owns_below HM.out.own hB2
          have hx : xs.length = n * 5 := HM.out.own.1
          have f0 : w2.cell? ⟨g, i * 5, none⟩ = some (xs[i * 5]'(by omega)) := by rw [ow.cellAt (i * 5) (by omega)]; exact List.getElem?_eq_getElem _
          have f1 : w2.cell? ⟨g, i * 5 + 1, none⟩ = some (xs[i * 5 + 1]'(by omega)) := by rw [ow.cellAt (i * 5 + 1) (by omega)]; exact List.getElem?_eq_getElem _
          have f2 : w2.cell? ⟨g, i * 5 + 2, none⟩ = some (xs[i * 5 + 2]'(by omega)) := by rw [ow.cellAt (i * 5 + 2) (by omega)]; exact List.getElem?_eq_getElem _
          have f3 : w2.cell? ⟨g, i * 5 + 3, none⟩ = some (xs[i * 5 + 3]'(by omega)) := by rw [ow.cellAt (i * 5 + 3) (by omega)]; exact List.getElem?_eq_getElem _
          have f4 : w2.cell? ⟨g, i * 5 + 4, none⟩ = some (xs[i * 5 + 4]'(by omega)) := by rw [ow.cellAt (i * 5 + 4) (by omega)]; exact List.getElem?_eq_getElem _
          have z0 := ow.frozenAt (i * 5)
          have z1 := ow.frozenAt (i * 5 + 1)
          have z2 := ow.frozenAt (i * 5 + 2)
          have z3 := ow.frozenAt (i * 5 + 3)
          have z4 := ow.frozenAt (i * 5 + 4)
          have hgw : g < w2.heap.size := by have := hB2.size; omega
          clear b0 b1 b2 b3 b4 ow hpo hb2
          go_wp2_with fail
          go_roundg (n - (j + 1))
          case rel => exact ⟨i + 1, j + 1, _, by go_num, by go_num, by omega, Nat.le_refl _, by have := HK.out; rw [show o.row 4 = .slice pa pn pc from Hpo.out] at this; exact this⟩
          case measure => have := Hk.out; omega
        · have HK := Lib.hid (Mid.skip Hn.out HM.out hjl (by rw [Ho.out]; exact hpo) hB2 (by omega))
          clear b0 b1 b2 b3 b4 hpo hb2
          go_wp2_with fail
          go_roundg (n - (j + 1))
          case rel => exact ⟨i, j + 1, xs, rfl, by go_num, by omega, Nat.le_refl _, HK.out⟩
          case measure => have := Hk.out; omega
      · obtain rfl : j = n := by omega
        have zc : ∀ w, (zeroValue 73).run Tryz.prog w = .ok (.agg #[.string ⟨#[]⟩, .int .i64 0, .string ⟨#[]⟩, .string ⟨#[]⟩, .slice none 0 0]) w := fun w => by kernel_rfl
        have hxl : xs.length = j * 5 := hM.own.1
        have hcl : ∀ ty, (Builtin.clear_ #[70] ty #[.slice (some ⟨g, i * 5, none⟩) (j - i) (cap - i)]).run Tryz.prog wr = .ok (.tuple #[]) (wr.setCells g (i * 5) (Builtin.zeroCells #[.string ⟨#[]⟩, .int .i64 0, .string ⟨#[]⟩, .string ⟨#[]⟩, .slice none 0 0] (j - i)).toList) := fun ty =>
          run_clear_cells wr _ _ ty _ #[.string ⟨#[]⟩, .int .i64 0, .string ⟨#[]⟩, .string ⟨#[]⟩, .slice none 0 0] Tryz.underlying70 zc rfl (by simp [Value.oneCell']) g (i * 5) (j - i) (cap - i) (by omega)
            (fun t ht => by
              have ht' : t < (j - i) * 5 := ht
              rw [hM.own.cellAt (i * 5 + t) (by omega), List.getElem?_eq_getElem (by omega)]; rfl)
            (fun t _ => hM.own.frozenAt _)
        clear zc hM hxl
        go_wp2_with fail
        go_ret
        refine ⟨.slice (some ⟨g, 0, none⟩) i cap, rfl, ?_, below_setCells (Nat.le_refl _) _ _ _ HM.out.below⟩
        have htk : os.take j = os := List.take_of_length_le (by rw [Hn.out]; exact Nat.le_refl _)
        have hlen := HM.out.len
        have hkept := HM.out.kept
        rw [htk] at hlen hkept
        refine ⟨⟨some ⟨g, 0, none⟩, cap, by rw [← hlen], by omega, by unfold maxLen; omega, Or.inr ⟨g, 0, rfl, by rw [size_setCells]; exact hgr, fun r c hr hc => ?_⟩⟩, trivial⟩
        rw [World.cell?_setCells_out g _ _ _ _ (by intro _ _; left; show 0 + r * 5 + c < _; omega), Nat.zero_add, HM.out.own.cellAt (r * 5 + c) (by omega)]
        exact hkept r c (by omega) hc
end Go.Proofs.YtnfnebfioibndaaGreatDoor
namespace Go.Proofs.YtnfnebfioibndaaGreatDoor
open Go.RowKit
set_option maxRecDepth 100000

theorem KnownOk.cells {w : World} {k : KnownD} {R : Nat → Value} (h : KnownOk w k R) :
    ∃ (fw : Option Addr) (nw qw : Nat) (ft : Option Addr) (nt qt : Nat) (f4 : Option Addr) (n4 q4 : Nat) (f5 : Option Addr) (n5 q5 : Nat) (f6 : Option Addr) (n6 q6 : Nat) (f7 : Option Addr) (n7 q7 : Nat) (f8 : Option Addr) (n8 q8 : Nat) (f9 : Option Addr) (n9 q9 : Nat) (f10 : Option Addr) (n10 q10 : Nat) (f11 : Option Addr) (n11 q11 : Nat) (fa : Option Addr) (fn fc : Nat),
    row20 R = [.int .i64 k.state, .int .i64 k.ep, .string k.up, .string k.rv, .bool k.held, .slice fw nw qw, .slice ft nt qt, .string k.pack.name, .int .i64 k.pack.ep, .string k.pack.up, .string k.pack.rv, .slice f4 n4 q4, .slice f5 n5 q5, .slice f6 n6 q6, .slice f7 n7 q7, .slice f8 n8 q8, .slice f9 n9 q9, .slice f10 n10 q10, .slice f11 n11 q11, .slice fa fn fc] ∧
    PackV w k.pack (.slice f4 n4 q4) (.slice f5 n5 q5) (.slice f6 n6 q6) (.slice f7 n7 q7) (.slice f8 n8 q8) (.slice f9 n9 q9) (.slice f10 n10 q10) (.slice f11 n11 q11) fa fn fc ∧ Strs w (.slice fw nw qw) k.waits ∧ Strs w (.slice ft nt qt) k.tasks := by
  have hpk := h.pack
  obtain ⟨dv, av, gv, bv, rv, pv, sv, lv, fa, fn, fc, e4, e5, e6, e7, e8, e9, e10, e11, e12, hV⟩ := hpk.cells
  obtain ⟨f4, n4, q4, rfl⟩ := hV.depends.slice
  obtain ⟨f5, n5, q5, rfl⟩ := hV.ahead.slice
  obtain ⟨f6, n6, q6, rfl⟩ := hV.against.1.slice
  obtain ⟨f7, n7, q7, rfl⟩ := hV.breaks.1.slice
  obtain ⟨f8, n8, q8, rfl⟩ := hV.replaces.1.slice
  obtain ⟨f9, n9, q9, rfl⟩ := hV.provides.1.slice
  obtain ⟨f10, n10, q10, rfl⟩ := hV.settings.1.slice
  obtain ⟨f11, n11, q11, rfl⟩ := hV.listens.1.slice
  obtain ⟨fw, nw, qw, ew⟩ := h.waits.1.slice
  obtain ⟨ft, nt, qt, et⟩ := h.tasks.1.slice
  refine ⟨fw, nw, qw, ft, nt, qt, f4, n4, q4, f5, n5, q5, f6, n6, q6, f7, n7, q7, f8, n8, q8, f9, n9, q9, f10, n10, q10, f11, n11, q11, fa, fn, fc, ?_, hV, by rw [← ew]; exact h.waits, by rw [← et]; exact h.tasks⟩
  have r7 : R 7 = .string k.pack.name := hpk.name
  have r8 : R 8 = .int .i64 k.pack.ep := hpk.ep
  have r9 : R 9 = .string k.pack.up := hpk.up
  have r10 : R 10 = .string k.pack.rv := hpk.rv
  have r11 : R 11 = _ := e4
  have r12 : R 12 = _ := e5
  have r13 : R 13 = _ := e6
  have r14 : R 14 = _ := e7
  have r15 : R 15 = _ := e8
  have r16 : R 16 = _ := e9
  have r17 : R 17 = _ := e10
  have r18 : R 18 = _ := e11
  have r19 : R 19 = _ := e12
  show [R 0, R 1, R 2, R 3, R 4, R 5, R 6, R 7, R 8, R 9, R 10, R 11, R 12, R 13, R 14, R 15, R 16, R 17, R 18, R 19] = _
  rw [h.state, h.ep, h.up, h.rv, h.held, ew, et, r7, r8, r9, r10, r11, r12, r13, r14, r15, r16, r17, r18, r19]
end Go.Proofs.YtnfnebfioibndaaGreatDoor
namespace Go.Proofs.YtnfnebfioibndaaGreatDoor
open Go.RowKit
set_option maxRecDepth 100000
set_option maxHeartbeats 4000000

theorem info_pack : (Tryz.prog.info? 30).map (fun i => (i.zero, i.size, i.bytes)) = some (some (.agg #[.string ⟨#[]⟩, .int .i64 0, .string ⟨#[]⟩, .string ⟨#[]⟩, .slice none 0 0, .slice none 0 0, .slice none 0 0, .slice none 0 0, .slice none 0 0, .slice none 0 0, .slice none 0 0, .slice none 0 0, .slice none 0 0]), 13, 272) := by kernel_rfl

/-- Packages, each with its cells. -/
structure PackC where
  pack : PackD
  cells : List Value
def packsRows (os : List PackC) : List Value := os.flatMap PackC.cells
structure PackCOk (w : World) (o : PackC) : Prop where
  len : o.cells.length = 13
  ok : PackOk w o.pack (fun j => o.cells.getD j .nilFunc)
theorem packsRows_len (os : List PackC) (h : ∀ o ∈ os, o.cells.length = 13) : (packsRows os).length = os.length * 13 := by
  induction os with
  | nil => rfl
  | cons o os ih =>
    have e : packsRows (o :: os) = o.cells ++ packsRows os := rfl
    rw [e, List.length_append, ih (fun x hx => h x (List.mem_cons_of_mem _ hx)), h o (List.mem_cons_self ..), List.length_cons]
    omega
theorem packsRows_at (os : List PackC) (h : ∀ o ∈ os, o.cells.length = 13) (i j : Nat) (o : PackC) (hi : os[i]? = some o) (hj : j < 13) : (packsRows os)[i * 13 + j]? = some (o.cells.getD j .nilFunc) := by
  induction os generalizing i with
  | nil => simp at hi
  | cons p os ih =>
    have e : packsRows (p :: os) = p.cells ++ packsRows os := rfl
    have hp : p.cells.length = 13 := h p (List.mem_cons_self ..)
    rw [e]
    cases i with
    | zero =>
      obtain rfl : p = o := by simpa using hi
      rw [List.getElem?_append_left (by omega), show 0 * 13 + j = j by omega]
      simp [List.getD, List.getElem?_eq_getElem (show j < p.cells.length by omega)]
    | succ i =>
      rw [List.getElem?_append_right (by omega), hp, show (i + 1) * 13 + j - 13 = i * 13 + j by omega]
      exact ih (fun x hx => h x (List.mem_cons_of_mem _ hx)) i (by simpa using hi)
theorem packs_owned {w : World} {base : Nat} {e : TypeId} {v : Value} {os : List PackC} (h : w.ownsRow base e 13 v os.length (packsRows os)) (hk : ∀ o ∈ os, PackCOk w o) : Packs w v (os.map PackC.pack) := by
  have hl : ∀ o ∈ os, o.cells.length = 13 := fun o ho => (hk o ho).len
  refine ⟨fun i j => (os.getD i ⟨PackD.none, []⟩).cells.getD j .nilFunc, ?_, ?_⟩
  · rw [List.length_map]
    rcases id h.2 with ⟨rfl, h0⟩ | ⟨g, cap, cur, rfl, _, hg, h1, h2, _⟩
    · rw [h0]
      exact Sl.nil _ _ _
    · refine ⟨_, cap, rfl, h1, h2, Or.inr ⟨g, 0, rfl, ?_, fun i j hi hj => ?_⟩⟩
      · rcases Nat.lt_or_ge g w.heap.size with hlt | hge
        · exact hlt
        · rw [Array.getElem?_eq_none hge] at hg; cases hg
      · have := h.cellAt (i * 13 + j) (by omega)
        rw [packsRows_at os hl i j os[i] (List.getElem?_eq_getElem hi) hj] at this
        rw [Nat.zero_add, this]
        simp [List.getD, List.getElem?_eq_getElem hi]
  · intro i hi
    rw [List.length_map] at hi
    have e1 : (os.map PackC.pack).getD i PackD.none = os[i].pack := by simp [List.getD, List.getElem?_eq_getElem hi]
    have e2 : os.getD i ⟨PackD.none, []⟩ = os[i] := by simp [List.getD, List.getElem?_eq_getElem hi]
    rw [e1]
    show PackOk w os[i].pack (fun j => (os.getD i ⟨PackD.none, []⟩).cells.getD j .nilFunc)
    rw [e2]
    exact (hk _ (List.getElem_mem hi)).ok
end Go.Proofs.YtnfnebfioibndaaGreatDoor
