/- Stanzas as they are read: the rows in memory, and how long they are. -/
import Derived.Test.YtpiobckemlkomaaDoorStanG
import Derived.Maps.AppendAt
import Derived.Laws.AppendOwn
import Derived.Laws.OwnMore
import Derived.Deep.AppendLies
namespace Go.Proofs.YtpiobckemlkomaaDoor
open Go.RowKit
set_option maxRecDepth 100000

/-! ### how long things are -/
theorem trimS_le (l cs : List UInt8) : (Lib.trimS l cs).length ≤ l.length := by
  unfold Lib.trimS Lib.trimLeftS Lib.trimRightS
  have h1 := (List.dropWhile_sublist (l := (l.reverse.dropWhile (cs.contains ·)).reverse) (p := (cs.contains ·))).length_le
  have h2 := (List.dropWhile_sublist (l := l.reverse) (p := (cs.contains ·))).length_le
  rw [List.length_reverse] at h1 h2
  omega
theorem trimB_le (s : ByteArray) : (trimB s).size ≤ s.size := trimS_le _ _
theorem cut_le (l : List UInt8) (c : UInt8) : (Lib.cut l [c]).1.length ≤ l.length ∧ (Lib.cut l [c]).2.1.length ≤ l.length := by
  obtain ⟨a, b, m, ps, h1, _, h3⟩ := cut_split c l
  rw [h1]
  rcases h3 with ⟨_, _, h⟩ | ⟨_, _, h, h'⟩
  · rw [h]; simp; omega
  · rw [h, h']; simp
structure GS (N c : Nat) (st : PS) : Prop where
  sz : ∀ f ∈ st.l, f.1.size ≤ N ∧ f.2.size ≤ N
  outs : st.outs.length ≤ c
  len : st.l.length ≤ 40
theorem lastD_eq {l : List FieldD} (h : l ≠ []) : l.getLastD default = l.getLast h := by
  cases l with
  | nil => exact absurd rfl h
  | cons a l => rfl
theorem ofL_size' (l : List UInt8) : (ofL l).size = l.length := rfl
theorem addL_len {l : List FieldD} (h : l ≠ []) (t : List UInt8) : (addL l t).length = l.length := by
  unfold addL
  have := List.length_pos_iff.2 h
  simp
  omega
theorem addL_mem {l : List FieldD} {t : List UInt8} {f : FieldD} (h : l ≠ []) (hf : f ∈ addL l t) : f ∈ l ∨ ∃ g ∈ l, f = (g.1, g.2 ++ ofL (10 :: t)) := by
  unfold addL at hf
  rcases List.mem_append.1 hf with h1 | h1
  · exact Or.inl ((List.dropLast_sublist l).subset h1)
  · refine Or.inr ⟨l.getLastD default, ?_, List.mem_singleton.1 h1⟩
    rw [lastD_eq h]
    exact List.getLast_mem h
theorem moreP_some {st st' : PS} {t : List UInt8} (h : moreP st t = some st') : st.l ≠ [] ∧ t.all lineC = true ∧ ∃ u, u.length ≤ t.length ∧ st' = ⟨st.outs, addL st.l u⟩ := by
  unfold moreP at h
  split at h
  · cases h
  · rename_i h0
    have h1 : st.l ≠ [] := fun e => h0 (Or.inl e)
    have h2 : t.all lineC = true := by
      cases e : t.all lineC
      · exact absurd (Or.inr e) h0
      · rfl
    split at h
    · split at h
      · injection h with h
        exact ⟨h1, h2, t.tail, by simp, h.symm⟩
      · cases h
    · injection h with h
      exact ⟨h1, h2, t, Nat.le_refl _, h.symm⟩
theorem fieldP_some {st st' : PS} {x : ByteArray} (h : fieldP st x = some st') : ∃ a b, a.size ≤ x.size ∧ b.size ≤ x.size ∧ st.l.length < 40 ∧ nameS a = true ∧ lineS b = true ∧ st.l.any (sameN a) = false ∧ st' = ⟨st.outs, st.l ++ [(a, b)]⟩ := by
  unfold fieldP at h
  dsimp only at h
  split at h
  · rename_i h0
    simp only [Bool.and_eq_true, decide_eq_true_iff, Bool.not_eq_true'] at h0
    injection h with h
    have hc := cut_le x.data.toList 58
    refine ⟨ofL (Lib.cut x.data.toList [58]).1, trimB (ofL (Lib.cut x.data.toList [58]).2.1), hc.1, Nat.le_trans (trimB_le (ofL (Lib.cut x.data.toList [58]).2.1)) hc.2, h0.1.2, h0.1.1.1.2, h0.1.1.2, h0.2, h.symm⟩
  · cases h
theorem GS.step {N c : Nat} {st st' : PS} {x : ByteArray} (h : GS N c st) (hs : stepP st x = some st') : GS (N + x.size + 1) (c + 1) st' := by
  have mono : ∀ f ∈ st.l, f.1.size ≤ N + x.size + 1 ∧ f.2.size ≤ N + x.size + 1 := fun f hf => by
    have := h.sz f hf
    omega
  unfold stepP at hs
  split at hs
  · injection hs with hs
    subst hs
    exact ⟨mono, by have := h.outs; omega, h.len⟩
  · split at hs
    · injection hs with hs
      subst hs
      unfold flushP
      split
      · exact ⟨mono, by have := h.outs; omega, h.len⟩
      · exact ⟨(fun f hf => by cases hf), by have := h.outs; simp; omega, by simp⟩
    · split at hs
      · obtain ⟨h1, h2, u, hu, rfl⟩ := moreP_some hs
        have hul : u.length ≤ x.size := Nat.le_trans hu (trimB_le x)
        refine ⟨fun f hf => ?_, by have := h.outs; dsimp only; omega, by rw [addL_len h1]; exact h.len⟩
        rcases addL_mem h1 hf with hf | ⟨g, hg, rfl⟩
        · exact mono f hf
        · have := h.sz g hg
          dsimp only
          rw [ByteArray.size_append, ofL_size', List.length_cons]
          omega
      · obtain ⟨a, b, ha, hb, hl, _, _, _, rfl⟩ := fieldP_some hs
        refine ⟨fun f hf => ?_, by have := h.outs; dsimp only; omega, by simp; omega⟩
        rcases List.mem_append.1 hf with hf | hf
        · exact mono f hf
        · rw [List.mem_singleton.1 hf]
          dsimp only
          omega
def sumL (xs : List ByteArray) : Nat := (xs.map fun x => x.size + 1).sum
theorem sumL_take {xs : List ByteArray} {i : Nat} (h : i < xs.length) : sumL (xs.take (i + 1)) = sumL (xs.take i) + ((xs.getD i ⟨#[]⟩).size + 1) := by
  unfold sumL
  have e : xs.getD i ⟨#[]⟩ = xs[i] := by simp [List.getD_eq_getElem?_getD, h]
  rw [e, List.take_succ_eq_append_getElem h, List.map_append, List.sum_append]
  simp
theorem sumL_lines (s : ByteArray) : sumL (linesB s) = s.size + 1 := by
  unfold sumL linesB
  have e : s.size = s.data.toList.length := rfl
  rw [e, List.map_map]
  generalize s.data.toList = l
  induction l with
  | nil => rfl
  | cons c l ih =>
    unfold splitC
    split
    · rw [List.map_cons, List.sum_cons, ih]
      show (ofL []).size + 1 + _ = _
      rw [ofL_size']
      simp
      omega
    · cases e2 : splitC 10 l with
      | nil => exact absurd e2 (splitC_ne 10 l)
      | cons p ps =>
        rw [e2] at ih
        simp only [consHead, List.map_cons, List.sum_cons, Function.comp, ofL_size', List.length_cons] at ih ⊢
        omega
theorem sumL_le (xs : List ByteArray) (i : Nat) : sumL (xs.take i) ≤ sumL xs := by
  have h : sumL xs = sumL (xs.take i) + sumL (xs.drop i) := by
    unfold sumL
    rw [← List.sum_append, ← List.map_append, List.take_append_drop]
  omega
theorem fold_good (ls : List ByteArray) : ∀ (i : Nat) (st : PS), i ≤ ls.length → foldP PS.zero (ls.take i) = some st → GS (sumL (ls.take i)) i st
  | 0, st, _, h => by
    injection h with h
    subst h
    exact ⟨(fun f hf => by cases hf), Nat.le_refl _, Nat.zero_le _⟩
  | i + 1, st, hi, h => by
    rw [foldP_take ls _ (by omega)] at h
    cases e : foldP PS.zero (ls.take i) with
    | none => rw [e] at h; cases h
    | some st0 =>
      rw [e] at h
      have := (fold_good ls i st0 (by omega) e).step h
      rw [sumL_take (show i < ls.length by omega)]
      exact this

/-! ### rows of fields of the call's own -/
def cellsF (l : List FieldD) : List Value := l.flatMap fun f => [.string f.1, .string f.2]
theorem cellsF_snoc (l : List FieldD) (f : FieldD) : cellsF (l ++ [f]) = cellsF l ++ [.string f.1, .string f.2] := by
  unfold cellsF
  simp
theorem cellsF_len (l : List FieldD) : (cellsF l).length = l.length * 2 := by
  induction l with
  | nil => rfl
  | cons f l ih =>
    have e : cellsF (f :: l) = .string f.1 :: .string f.2 :: cellsF l := rfl
    rw [e, List.length_cons, List.length_cons, List.length_cons, ih]
    omega
theorem cellsF_at : ∀ (l : List FieldD) (i j : Nat), i < l.length → j < 2 → (cellsF l)[i * 2 + j]? = some (fRow (l.getD i default) j)
  | [], i, j, hi, _ => by simp at hi
  | f :: l, 0, j, _, hj => by
    match j, hj with
    | 0, _ => rfl
    | 1, _ => rfl
  | f :: l, i + 1, j, hi, hj => by
    have e : cellsF (f :: l) = .string f.1 :: .string f.2 :: cellsF l := rfl
    have e2 : (i + 1) * 2 + j = (i * 2 + j) + 2 := by omega
    rw [e, e2, List.getElem?_cons_succ, List.getElem?_cons_succ, cellsF_at l i j (by rw [List.length_cons] at hi; omega) hj]
    rfl
theorem cellsF_app (l m : List FieldD) : cellsF (l ++ m) = cellsF l ++ cellsF m := by
  unfold cellsF
  rw [List.flatMap_append]
theorem cellsF_last {l : List FieldD} (h : l ≠ []) (y : ByteArray) : (cellsF l).set ((l.length - 1) * 2 + 1) (.string y) = cellsF (l.dropLast ++ [((l.getLastD default).1, y)]) := by
  have hl := List.length_pos_iff.2 h
  have e : l = l.dropLast ++ [l.getLastD default] := by
    rw [lastD_eq h]
    exact (List.dropLast_concat_getLast h).symm
  have e2 : cellsF l = cellsF l.dropLast ++ cellsF [l.getLastD default] := by
    rw [← cellsF_app, ← e]
  have hd : (cellsF l.dropLast).length = (l.length - 1) * 2 := by rw [cellsF_len, List.length_dropLast]
  rw [e2, List.set_append_right _ _ (by omega), hd, cellsF_app]
  congr 1
  have e3 : (l.length - 1) * 2 + 1 - (l.length - 1) * 2 = 1 := by omega
  rw [e3]
  rfl
theorem sl_owned {w : World} {B : Nat} {e : TypeId} {sz : Nat} {v : Value} {n : Nat} {xs : List Value} {R : Nat → Nat → Value} (h : w.ownsRow B e sz v n xs) (hR : ∀ i j, i < n → j < sz → xs[i * sz + j]? = some (R i j)) : Sl w v n sz R := by
  have h0 := h
  obtain ⟨hlen, hv⟩ := h
  rcases hv with ⟨rfl, rfl⟩ | ⟨g, cap, cur, rfl, hb, hg, h1, h2, h3, h4⟩
  · exact Sl.nil w sz _
  · refine ⟨_, cap, rfl, h1, h2, Or.inr ⟨g, 0, rfl, blk_lt hg, fun i j hi hj => ?_⟩⟩
    have hij : i * sz + j < n * sz := by
      have : (i + 1) * sz ≤ n * sz := Nat.mul_le_mul_right sz (by omega)
      rw [Nat.add_mul] at this
      omega
    have := h0.cellAt (i * sz + j) hij
    rw [hR i j hi hj] at this
    rw [Nat.zero_add]
    exact this
theorem flds_owned {w : World} {B : Nat} {v : Value} {l : List FieldD} (h : w.ownsRow B 48 2 v l.length (cellsF l)) (hs : ∀ f ∈ l, SzF f) : Flds w v l := ⟨sl_owned h fun i j hi hj => cellsF_at l i j hi hj, hs⟩

/-- Rows of rows of fields. -/
def Grps (w : World) (v : Value) (outs : List (List FieldD)) : Prop := ∃ V : Nat → Value, Sl w v outs.length 1 (fun i _ => V i) ∧ ∀ i, i < outs.length → Flds w (V i) (outs.getD i [])
theorem Grps.below {w w' : World} {v : Value} {outs : List (List FieldD)} (h : Grps w v outs) {B : Nat} (hb : Below B w w') (hB : w.heap.size ≤ B) : Grps w' v outs := by
  obtain ⟨V, h1, h2⟩ := h
  exact ⟨V, h1.below hb hB, fun i hi => (h2 i hi).below hb hB⟩
theorem Grps.nil (w : World) : Grps w (.slice none 0 0) [] := ⟨fun _ => .nilFunc, Sl.nil _ _ _, fun _ hi => absurd hi (Nat.not_lt_zero _)⟩

theorem Sl.kept {w w' : World} {v : Value} {n sz : Nat} {R : Nat → Nat → Value} (h : Sl w v n sz R) (hs : w.heap.size ≤ w'.heap.size) (hk : ∀ k, v.ownBlock = some k → k < w.heap.size → w'.heap[k]? = w.heap[k]?) : Sl w' v n sz R := by
  obtain ⟨a, cap, rfl, h1, h2, h3⟩ := h
  refine ⟨a, cap, rfl, h1, h2, ?_⟩
  rcases h3 with h0 | ⟨b, o, rfl, hb, hc⟩
  · exact Or.inl h0
  · refine Or.inr ⟨b, o, rfl, Nat.lt_of_lt_of_le hb hs, fun i j hi hj => ?_⟩
    rw [← hc i j hi hj]
    exact World.cell?_of_block (hk b rfl hb)
theorem Flds.kept {w w' : World} {v : Value} {l : List FieldD} (h : Flds w v l) (hs : w.heap.size ≤ w'.heap.size) (hk : ∀ k, v.ownBlock = some k → k < w.heap.size → w'.heap[k]? = w.heap[k]?) : Flds w' v l := ⟨h.1.kept hs hk, h.2⟩
theorem ownsRow_kept {w w' : World} {base : Nat} {e : TypeId} {sz : Nat} {v : Value} {n : Nat} {xs : List Value} (h : w.ownsRow base e sz v n xs) (hk : ∀ k, v.ownBlock = some k → w'.heap[k]? = w.heap[k]?) : w'.ownsRow base e sz v n xs := by
  refine ⟨h.1, ?_⟩
  rcases h.2 with hn | ⟨g, cap, cur, rfl, hb, hg, rest⟩
  · exact Or.inl hn
  · exact Or.inr ⟨g, cap, cur, rfl, hb, by rw [hk g rfl]; exact hg, rest⟩

/-- What has been read so far, in memory: the stanzas (ov), the fields of the one that is read (lv). -/
structure PW (B : Nat) (w : World) (ov lv : Value) (qs : List Value) (st : PS) : Prop where
  out : w.ownsRow B 34 1 ov qs.length qs
  row : w.ownsRow B 48 2 lv st.l.length (cellsF st.l)
  len : qs.length = st.outs.length
  sz : ∀ f ∈ st.l, SzF f
  each : ∀ i v, qs[i]? = some v → Flds w v (st.outs.getD i [])
  apO : ∀ k, ov.ownBlock = some k → lv.ownBlock ≠ some k
  apQ : ∀ v ∈ qs, ∀ k, v.ownBlock = some k → ov.ownBlock ≠ some k ∧ lv.ownBlock ≠ some k ∧ k < w.heap.size ∧ B ≤ k
  one : ∀ v ∈ qs, v.oneCell' = true
section
variable {B : Nat} {w : World} {ov lv : Value} {qs : List Value} {st : PS}
theorem PW.zero (B : Nat) (w : World) : PW B w (.slice none 0 0) (.slice none 0 0) [] PS.zero :=
  ⟨World.ownsRow_nil _ _ _ _, World.ownsRow_nil _ _ _ _, rfl, (fun f hf => by cases hf), (fun i v h => by simp at h), (fun k h => by cases h), (fun v hv => by cases hv), (fun v hv => by cases hv)⟩
theorem PW.flds (h : PW B w ov lv qs st) : Flds w lv st.l := flds_owned h.row h.sz
theorem PW.keep (h : PW B w ov lv qs st) {w' : World} (hb : Below w.heap.size w w') : PW B w' ov lv qs st :=
  ⟨ownsRow_kept h.out fun k e => hb.block k (h.out.lt k e).2, ownsRow_kept h.row fun k e => hb.block k (h.row.lt k e).2, h.len, h.sz, fun i v e => (h.each i v e).below hb (Nat.le_refl _), h.apO, fun v hv k e => ⟨(h.apQ v hv k e).1, (h.apQ v hv k e).2.1, Nat.lt_of_lt_of_le (h.apQ v hv k e).2.2.1 hb.size, (h.apQ v hv k e).2.2.2⟩, h.one⟩
/-- A write below B. -/
theorem PW.other (h : PW B w ov lv qs st) {w' : World} (hs : w.heap.size ≤ w'.heap.size) (hk : ∀ k, B ≤ k → w'.heap[k]? = w.heap[k]?) : PW B w' ov lv qs st :=
  ⟨ownsRow_kept h.out fun k e => hk k (h.out.lt k e).1, ownsRow_kept h.row fun k e => hk k (h.row.lt k e).1, h.len, h.sz, fun i v e => (h.each i v e).kept hs fun k e2 _ => hk k (h.apQ v (List.mem_of_getElem? e) k e2).2.2.2, h.apO, fun v hv k e => ⟨(h.apQ v hv k e).1, (h.apQ v hv k e).2.1, Nat.lt_of_lt_of_le (h.apQ v hv k e).2.2.1 hs, (h.apQ v hv k e).2.2.2⟩, h.one⟩
theorem PW.flush (h : PW B w ov lv qs st) {w' : World} {ov' : Value} (hg : w.grownBy w' ov.ownBlock) (hown : w'.ownsRow B 34 1 ov' (qs.length + 1) (qs ++ [lv])) (hat : ov'.ownBlock = ov.ownBlock ∨ ov'.ownBlock = some w.heap.size) (hone : lv.oneCell' = true) :
    PW B w' ov' (.slice none 0 0) (qs ++ [lv]) ⟨st.outs ++ [st.l], []⟩ := by
  have kp : ∀ v : Value, (∀ k, v.ownBlock = some k → ov.ownBlock ≠ some k) → ∀ k, v.ownBlock = some k → k < w.heap.size → w'.heap[k]? = w.heap[k]? := fun v hv k e hk => hg.block k hk (fun e2 => hv k e e2.symm)
  have hl : ∀ k, lv.ownBlock = some k → ov.ownBlock ≠ some k := fun k e e2 => h.apO k e2 e
  refine ⟨by rw [List.length_append]; exact hown, World.ownsRow_nil _ _ _ _, by rw [List.length_append, List.length_append, h.len]; rfl, (fun f hf => by cases hf), fun i v e => ?_, (fun k e e2 => by cases e2), fun v hv k e => ?_, fun v hv => ?_⟩
  · rcases Nat.lt_or_ge i qs.length with hi | hi
    · rw [List.getElem?_append_left hi] at e
      have e3 : (st.outs ++ [st.l]).getD i [] = st.outs.getD i [] := by
        rw [List.getD_eq_getElem?_getD, List.getD_eq_getElem?_getD, List.getElem?_append_left (by rw [← h.len]; exact hi)]
      dsimp only
      rw [e3]
      exact (h.each i v e).kept hg.size (kp v fun k e2 => (h.apQ v (List.mem_of_getElem? e) k e2).1)
    · rw [List.getElem?_append_right hi] at e
      have hi0 : i - qs.length = 0 := by
        rcases Nat.eq_zero_or_pos (i - qs.length) with h0 | h0
        · exact h0
        · rw [List.getElem?_eq_none (by simp; omega)] at e; cases e
      have hi1 : i = st.outs.length := by rw [← h.len]; omega
      rw [hi0] at e
      injection e with e
      subst e
      have e3 : (st.outs ++ [st.l]).getD i [] = st.l := by
        rw [List.getD_eq_getElem?_getD, hi1, List.getElem?_append_right (Nat.le_refl _)]
        simp
      dsimp only
      rw [e3]
      exact h.flds.kept hg.size (kp lv hl)
  · have key : ov.ownBlock ≠ some k ∧ k < w.heap.size ∧ B ≤ k := by
      rcases List.mem_append.1 hv with hv | hv
      · exact ⟨(h.apQ v hv k e).1, (h.apQ v hv k e).2.2⟩
      · rw [List.mem_singleton.1 hv] at e
        exact ⟨hl k e, (h.row.lt k e).2, (h.row.lt k e).1⟩
    refine ⟨fun e2 => ?_, (fun e2 => by cases e2), Nat.lt_of_lt_of_le key.2.1 hg.size, key.2.2⟩
    rcases hat with h1 | h1
    · exact key.1 (h1.symm.trans e2)
    · rw [h1] at e2
      injection e2 with e2
      omega
  · rcases List.mem_append.1 hv with hv | hv
    · exact h.one v hv
    · rw [List.mem_singleton.1 hv]; exact hone
theorem PW.add (h : PW B w ov lv qs st) {w' : World} {lv' : Value} {a b : ByteArray} (hg : w.grownBy w' lv.ownBlock) (hown : w'.ownsRow B 48 2 lv' (st.l.length + 1) (cellsF st.l ++ [.string a, .string b])) (hat : lv'.ownBlock = lv.ownBlock ∨ lv'.ownBlock = some w.heap.size) (hs : SzF (a, b)) :
    PW B w' ov lv' qs ⟨st.outs, st.l ++ [(a, b)]⟩ := by
  refine ⟨ownsRow_kept h.out fun k e => hg.block k (h.out.lt k e).2 (fun e2 => h.apO k e e2.symm), ?_, h.len, fun f hf => ?_, fun i v e => (h.each i v e).kept hg.size fun k e2 hk => hg.block k hk fun e3 => (h.apQ v (List.mem_of_getElem? e) k e2).2.1 e3.symm, fun k e e2 => ?_, fun v hv k e => ?_, h.one⟩
  · dsimp only
    rw [cellsF_snoc, List.length_append]
    exact hown
  · rcases List.mem_append.1 hf with hf | hf
    · exact h.sz f hf
    · rw [List.mem_singleton.1 hf]; exact hs
  · rcases hat with h1 | h1
    · exact h.apO k e (h1.symm.trans e2)
    · rw [h1] at e2
      injection e2 with e2
      have := (h.out.lt k e).2
      omega
  · have key := h.apQ v hv k e
    refine ⟨key.1, fun e2 => ?_, Nat.lt_of_lt_of_le key.2.2.1 hg.size, key.2.2.2⟩
    rcases hat with h1 | h1
    · exact key.2.1 (h1.symm.trans e2)
    · rw [h1] at e2
      injection e2 with e2
      omega
theorem PW.form (h : PW B w ov lv qs st) (hn : st.l ≠ []) : ∃ g cap, lv = .slice (some ⟨g, 0, none⟩) st.l.length cap ∧ B ≤ g ∧ st.l.length ≤ cap ∧ cap ≤ maxLen ∧ g < w.heap.size := by
  have hp := List.length_pos_iff.2 hn
  rcases h.row.2 with ⟨_, h0⟩ | ⟨g, cap, cur, e, hb, hg, h1, h2, _⟩
  · omega
  · exact ⟨g, cap, e, hb, h1, h2, blk_lt hg⟩
theorem PW.any_form (h : PW B w ov lv qs st) : ∃ a cap, lv = .slice a st.l.length cap := by
  rcases h.row.2 with ⟨e, h0⟩ | ⟨g, cap, cur, e, _⟩
  · exact ⟨none, 0, by rw [e, h0]⟩
  · exact ⟨_, cap, e⟩
theorem PW.out_form (h : PW B w ov lv qs st) : ∃ a cap, ov = .slice a qs.length cap := by
  rcases h.out.2 with ⟨e, h0⟩ | ⟨g, cap, cur, e, _⟩
  · exact ⟨none, 0, by rw [e, h0]⟩
  · exact ⟨_, cap, e⟩
theorem PW.line {g cap : Nat} (h : PW B w ov (.slice (some ⟨g, 0, none⟩) st.l.length cap) qs st) (hn : st.l ≠ []) (t : List UInt8) (hs : ((st.l.getLastD default).2 ++ ofL (10 :: t)).size ≤ 100000) :
    PW B (w.setCell ⟨g, (st.l.length - 1) * 2 + 1, none⟩ (.string ((st.l.getLastD default).2 ++ ofL (10 :: t)))) ov (.slice (some ⟨g, 0, none⟩) st.l.length cap) qs ⟨st.outs, addL st.l t⟩ := by
  obtain ⟨h1, hg⟩ := h.row.stored ((st.l.length - 1) * 2 + 1) (.string ((st.l.getLastD default).2 ++ ofL (10 :: t)))
  rw [cellsF_last hn] at h1
  refine ⟨ownsRow_kept h.out fun k e => hg.block k (h.out.lt k e).2 (fun e2 => h.apO k e e2.symm), ?_, h.len, fun f hf => ?_, fun i v e => (h.each i v e).kept hg.size fun k e2 hk => hg.block k hk fun e3 => (h.apQ v (List.mem_of_getElem? e) k e2).2.1 e3.symm, h.apO, fun v hv k e => ?_, h.one⟩
  · dsimp only
    rw [addL_len hn]
    exact h1
  · unfold addL at hf
    rcases List.mem_append.1 hf with hf | hf
    · exact h.sz f ((List.dropLast_sublist _).subset hf)
    · rw [List.mem_singleton.1 hf]
      refine ⟨?_, hs⟩
      have : st.l.getLastD default ∈ st.l := by
        rw [lastD_eq hn]
        exact List.getLast_mem hn
      exact (h.sz _ this).1
  · have key := h.apQ v hv k e
    exact ⟨key.1, key.2.1, Nat.lt_of_lt_of_le key.2.2.1 hg.size, key.2.2.2⟩
theorem PW.last_cells {g cap : Nat} (h : PW B w ov (.slice (some ⟨g, 0, none⟩) st.l.length cap) qs st) (hn : st.l ≠ []) : w.cell? ⟨g, (st.l.length - 1) * 2 + 1, none⟩ = some (.string (st.l.getLastD default).2) ∧ w.frozen? ⟨g, (st.l.length - 1) * 2 + 1, none⟩ = false := by
  have hp := List.length_pos_iff.2 hn
  refine ⟨?_, h.row.frozenAt _⟩
  have := h.row.cellAt ((st.l.length - 1) * 2 + 1) (by omega)
  rw [cellsF_at st.l (st.l.length - 1) 1 (by omega) (by decide)] at this
  rw [this]
  have e : st.l.getD (st.l.length - 1) default = st.l.getLastD default := by
    rw [List.getLastD_eq_getLast?, List.getLast?_eq_getElem?, List.getD_eq_getElem?_getD]
  rw [e]
  rfl
theorem PW.grps (h : PW B w ov lv qs st) : Grps w ov st.outs := by
  refine ⟨fun i => qs.getD i .nilFunc, ?_, fun i hi => ?_⟩
  · have h0 := h.out
    rw [← h.len]
    refine sl_owned h0 fun i j hi hj => ?_
    have : j = 0 := by omega
    subst this
    rw [Nat.mul_one, Nat.add_zero]
    dsimp only
    rw [List.getD_eq_getElem?_getD, List.getElem?_eq_getElem hi]
    rfl
  · have hi' : i < qs.length := by rw [h.len]; exact hi
    refine h.each i _ ?_
    dsimp only
    rw [List.getD_eq_getElem?_getD, List.getElem?_eq_getElem hi']
    rfl
end
theorem slice_one (a : Option Addr) (n c : Nat) : (Value.slice a n c).oneCell' = true := by simp [Value.oneCell']
theorem info_field : (Tryd.prog.info? 48).map (fun i => (i.zero, i.size, i.bytes)) = some (some (.agg #[.string ⟨#[]⟩, .string ⟨#[]⟩]), 2, 32) := by kernel_rfl
theorem info_flds : (Tryd.prog.info? 34).map (fun i => (i.zero, i.size, i.bytes)) = some (some (.slice none 0 0), 1, 24) := by kernel_rfl
end Go.Proofs.YtpiobckemlkomaaDoor
