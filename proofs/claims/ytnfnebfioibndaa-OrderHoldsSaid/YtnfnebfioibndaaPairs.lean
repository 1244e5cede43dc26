/- Pairs as a map: where each stands, and in which ring. -/
import Derived.Test.YtnfnebfioibndaaMapJ
import Derived.Test.YtnfnebfioibndaaHoldP
namespace Go.Proofs.Ytnfnebfioibndaa
open Go.RowKit Go.Maps
set_option maxRecDepth 10000

def pairM (l : List (Nat × Nat)) : MapG := fun s => (l.find? fun p => decide (((p.1 : Nat) : Int) = s)).map fun p => .int .i64 ((p.2 : Nat) : Int)
theorem pairM_nil : pairM [] = fun _ => none := rfl
theorem pairM_no {l : List (Nat × Nat)} {x : Nat} (h : x ∉ l.map (·.1)) : pairM l ((x : Nat) : Int) = none := by
  unfold pairM
  have : (l.find? fun p => decide (((p.1 : Nat) : Int) = ((x : Nat) : Int))) = none := by
    rw [List.find?_eq_none]
    intro p hp e
    have e' : p.1 = x := by have := of_decide_eq_true e; omega
    exact h (by rw [← e']; exact List.mem_map_of_mem hp)
  rw [this]; rfl
theorem pairM_snoc {l : List (Nat × Nat)} {x i : Nat} (h : x ∉ l.map (·.1)) : ∀ s, putJ (pairM l) ((x : Nat) : Int) (some (.int .i64 ((i : Nat) : Int))) s = pairM (l ++ [(x, i)]) s := by
  intro s
  unfold putJ
  by_cases e : s = ((x : Nat) : Int)
  · rw [if_pos e]
    have h1 := pairM_no h
    unfold pairM at *
    rw [List.find?_append, e]
    cases hf : l.find? fun p => decide (((p.1 : Nat) : Int) = ((x : Nat) : Int)) with
    | none => simp
    | some p => rw [hf] at h1; cases h1
  · rw [if_neg e]
    unfold pairM
    rw [List.find?_append]
    have : ([(x, i)] : List (Nat × Nat)).find? (fun p => decide (((p.1 : Nat) : Int) = s)) = none := by
      simp [List.find?_cons, Ne.symm e]
    rw [this]
    simp
theorem pairM_get {l : List (Nat × Nat)} (hn : (l.map (·.1)).Nodup) {x i : Nat} (h : (x, i) ∈ l) : pairM l ((x : Nat) : Int) = some (.int .i64 ((i : Nat) : Int)) := by
  induction l with
  | nil => cases h
  | cons p l ih =>
    rw [List.map_cons, List.nodup_cons] at hn
    unfold pairM at *
    rw [List.find?_cons]
    rcases List.mem_cons.1 h with rfl | h
    · simp
    · have hne : p.1 ≠ x := fun e => hn.1 (by rw [e]; exact List.mem_map.2 ⟨_, h, rfl⟩)
      have : decide (((p.1 : Nat) : Int) = ((x : Nat) : Int)) = false := decide_eq_false (by omega)
      rw [this]
      exact ih hn.2 h
theorem pairM_keys {l : List (Nat × Nat)} (hn : (l.map (·.1)).Nodup) : KeysJ (pairM l) (l.map fun p => ((p.1 : Nat) : Int)) := by
  refine ⟨?_, fun s => ?_⟩
  · have : (l.map fun p => ((p.1 : Nat) : Int)) = (l.map (·.1)).map fun x : Nat => ((x : Nat) : Int) := by simp
    rw [this]
    exact List.pairwise_map.2 (hn.imp (fun h e => h (by omega)))
  · unfold pairM
    rw [Option.isSome_map, List.find?_isSome]
    simp [List.mem_map]

/-! ### where each stands -/
def atL (xs : List Nat) (i : Nat) : List (Nat × Nat) := (xs.take i).zipIdx
theorem atL_keys (xs : List Nat) (i : Nat) : (atL xs i).map (·.1) = xs.take i := by simp [atL]
theorem atL_snoc {xs : List Nat} {i : Nat} (h : i < xs.length) : atL xs (i + 1) = atL xs i ++ [(xs.getD i 0, i)] := by
  unfold atL
  rw [take_snoc' 0 h, List.zipIdx_append]
  simp
  omega
theorem atL_new {xs : List Nat} (hn : xs.Nodup) {i : Nat} (h : i < xs.length) : xs.getD i 0 ∉ (atL xs i).map (·.1) := by
  rw [atL_keys]
  intro hm
  obtain ⟨j, hj, e⟩ := List.mem_take_iff_getElem.1 hm
  have e2 : xs.getD i 0 = xs[i] := by simp [List.getD, List.getElem?_eq_getElem h]
  rw [e2] at e
  have := (List.getElem_inj hn).1 e
  omega
theorem atL_nodup {xs : List Nat} (hn : xs.Nodup) (i : Nat) : ((atL xs i).map (·.1)).Nodup := by
  rw [atL_keys]
  exact hn.sublist (List.take_sublist _ _)
theorem atL_mem {xs : List Nat} {i p x : Nat} (hp : xs[p]? = some x) (h : xs.length ≤ i) : (x, p) ∈ atL xs i := by
  unfold atL
  rw [List.take_of_length_le h, List.mem_zipIdx_iff_getElem?]
  exact hp

/-! ### in which ring -/
def ofL (rings : List (List Nat)) (i : Nat) : List (Nat × Nat) := (rings.take i).zipIdx.flatMap fun p => p.1.map fun v => (v, p.2)
theorem ofL_zero (rings : List (List Nat)) : ofL rings 0 = [] := rfl
theorem ofL_snoc {rings : List (List Nat)} {i : Nat} (h : i < rings.length) : ofL rings (i + 1) = ofL rings i ++ (ringAt rings i).map fun v => (v, i) := by
  unfold ofL
  rw [take_snoc' [] h, List.zipIdx_append, List.flatMap_append]
  simp [ringAt]
  intro _ _
  omega
theorem ofL_keys (rings : List (List Nat)) (i : Nat) : (ofL rings i).map (·.1) = (rings.take i).flatten := by
  unfold ofL
  rw [List.map_flatMap]
  have : ((rings.take i).zipIdx.flatMap fun p => (p.1.map fun v => (v, p.2)).map (·.1)) = ((rings.take i).zipIdx.map (·.1)).flatten := by
    rw [List.flatMap_def]
    congr 1
    apply List.map_congr_left
    intro p _
    rw [List.map_map]
    exact List.map_id' p.1
  rw [this]
  simp
theorem ofL_mem {rings : List (List Nat)} {i j : Nat} {S : List Nat} (hS : rings[j]? = some S) {x : Nat} (hx : x ∈ S) (h : rings.length ≤ i) : (x, j) ∈ ofL rings i := by
  unfold ofL
  rw [List.take_of_length_le h, List.mem_flatMap]
  exact ⟨(S, j), List.mem_zipIdx_iff_getElem?.2 hS, List.mem_map.2 ⟨x, hx, rfl⟩⟩
/-- The part that is told in the middle of a ring. -/
def ofP (rings : List (List Nat)) (i k : Nat) : List (Nat × Nat) := ofL rings i ++ ((ringAt rings i).take k).map fun v => (v, i)
theorem ofP_zero (rings : List (List Nat)) (i : Nat) : ofP rings i 0 = ofL rings i := by simp [ofP]
theorem ofP_full {rings : List (List Nat)} {i k : Nat} (h : i < rings.length) (hk : (ringAt rings i).length ≤ k) : ofP rings i k = ofL rings (i + 1) := by
  rw [ofL_snoc h, ofP, List.take_of_length_le hk]
theorem ofP_snoc {rings : List (List Nat)} {i k : Nat} (hk : k < (ringAt rings i).length) : ofP rings i (k + 1) = ofP rings i k ++ [((ringAt rings i).getD k 0, i)] := by
  unfold ofP
  rw [take_snoc' 0 hk]
  simp
theorem ofP_new {E : Nat → Nat → Prop} {n : Nat} {rings : List (List Nat)} (h : InOrder E n rings) {i k : Nat} (hi : i < rings.length) (hk : k < (ringAt rings i).length) : (ringAt rings i).getD k 0 ∉ (ofP rings i k).map (·.1) := by
  have hS : rings[i]? = some (ringAt rings i) := by rw [ringAt_get hi]; exact List.getElem?_eq_getElem hi
  unfold ofP
  rw [List.map_append, ofL_keys, List.mem_append]
  have hm : (ringAt rings i).getD k 0 ∈ ringAt rings i := mem_getD' _ hk
  rintro (hx | hx)
  · obtain ⟨S, hS', hxS⟩ := List.mem_flatten.1 hx
    exact ((h i _ hS).free _ hm).un ⟨S, hS', hxS⟩
  · rw [List.map_map, List.mem_map] at hx
    obtain ⟨v, hv, e⟩ := hx
    have e : v = (ringAt rings i).getD k 0 := e
    obtain ⟨j, hj, e'⟩ := List.mem_take_iff_getElem.1 hv
    have e2 : (ringAt rings i).getD k 0 = (ringAt rings i)[k] := by simp [List.getD, List.getElem?_eq_getElem hk]
    rw [e, e2] at e'
    have := (List.getElem_inj (ord_nodup h hS)).1 e'
    omega
theorem ofL_nodup {E : Nat → Nat → Prop} {n : Nat} {rings : List (List Nat)} (h : InOrder E n rings) (i : Nat) : ((ofL rings i).map (·.1)).Nodup := by
  rw [ofL_keys]
  refine (flat_nodup h).sublist ?_
  have e : rings.flatten = (rings.take i).flatten ++ (rings.drop i).flatten := by rw [← List.flatten_append, List.take_append_drop]
  rw [e]
  exact List.sublist_append_left _ _

section
variable {P : Program} (w : World) {ops : Array Oper} {rest : List Oper} {o : Oper} {a : Act} {Q : Exit → Act → World → Prop}
theorem wpList_lenP (hg : o.guard = none) (m : Operand) (t : TypeId) (hop : o.op = Op.call { callee := Callee.builtin Builtin.len, args := #[m], argTypes := #[t] }) (k e : TypeId) (hk : P.underlying k = some (.int .i64)) (ht : P.underlying t = some (.map k e)) (b n : Nat) (l : List (Nat × Nat))
    (hm : a.eval m = .map (some b)) (h : MapJ P k w b n (pairM l)) (hn : (l.map (·.1)).Nodup) (c : Nat) (hc : (l.map (·.1)).length = c)
    (hK : wpList P ops Q rest (a.put o.dst (.int .i64 ((c : Nat) : Int))) w) : wpList P ops Q (o :: rest) a w := by
  refine wpList_lenJ w hg m t hop k e hk ht b n _ hm h _ (pairM_keys hn) ?_
  rw [List.length_map, ← List.length_map (f := (·.1)), hc]
  exact hK
theorem wpList_lenPw (hw : Region.wanted o (yielded ops a.tmps) = true) (m : Operand) (t : TypeId) (hop : o.op = Op.call { callee := Callee.builtin Builtin.len, args := #[m], argTypes := #[t] }) (k e : TypeId) (hk : P.underlying k = some (.int .i64)) (ht : P.underlying t = some (.map k e)) (b n : Nat) (l : List (Nat × Nat))
    (hm : a.eval m = .map (some b)) (h : MapJ P k w b n (pairM l)) (hn : (l.map (·.1)).Nodup) (c : Nat) (hc : (l.map (·.1)).length = c)
    (hK : wpList P ops Q rest (a.put o.dst (.int .i64 ((c : Nat) : Int))) w) : wpList P ops Q (o :: rest) a w := by
  refine wpList_lenJw w hw m t hop k e hk ht b n _ hm h _ (pairM_keys hn) ?_
  rw [List.length_map, ← List.length_map (f := (·.1)), hc]
  exact hK
end
end Go.Proofs.Ytnfnebfioibndaa
