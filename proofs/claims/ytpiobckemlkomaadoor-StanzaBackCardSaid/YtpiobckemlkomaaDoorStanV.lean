/- What was read may be written: in plain Lean. -/
import Derived.Test.YtpiobckemlkomaaDoorStanU
import Derived.Lib.Case
namespace Go.Proofs.YtpiobckemlkomaaDoor
open Go.RowKit
set_option maxRecDepth 100000

/-- Fields that may be a stanza (how long its text is, and whether there is one, apart). -/
structure GoodL (l : List FieldD) : Prop where
  each : ∀ f ∈ l, nameS f.1 = true ∧ linesOk f.2 = true
  names : (l.map fun f => smallB f.1).Nodup
theorem GoodL.nil : GoodL [] := ⟨(fun _ h => by cases h), List.nodup_nil⟩
theorem GoodL.right {l : List FieldD} (h : GoodL l) : ∀ j, j < l.length → rightOne l j = true := by
  intro j hj
  have hm := mem_getD (default : FieldD) hj
  obtain ⟨h1, h2⟩ := h.each _ hm
  have hany : (l.take j).any (sameN (l.getD j default).1) = false := by
    rw [List.any_eq_false]
    intro f hf
    have e : l.getD j default = l[j] := by simp [List.getD, List.getElem?_eq_getElem hj]
    rw [e]
    intro hs
    unfold sameN at hs
    rw [decide_eq_true_iff] at hs
    obtain ⟨i, hi, hfe⟩ := List.getElem_of_mem hf
    rw [List.length_take] at hi
    rw [List.getElem_take] at hfe
    have hn := List.pairwise_iff_getElem.1 h.names i j (by rw [List.length_map]; omega) (by rw [List.length_map]; exact hj) (by omega)
    refine hn ?_
    rw [List.getElem_map, List.getElem_map, hfe, hs]
  unfold rightOne
  rw [h1, h2, hany]
  rfl
theorem linesOk_one {b : ByteArray} (h : lineS b = true) : linesOk b = true ∧ splitC 10 b.data.toList = [b.data.toList] := by
  have hn : (10 : UInt8) ∉ b.data.toList := by
    intro hm
    have := List.all_eq_true.1 (lineS_parts h).1 10 hm
    exact absurd this (by decide)
  have e := splitC_no hn
  refine ⟨?_, e⟩
  unfold linesOk
  rw [e]
  simp only [List.headD_cons, List.tail_cons, List.all_nil, Bool.and_true, ofL_eta]
  exact h
theorem splitC_more (v : ByteArray) {u : List UInt8} (hu : (10 : UInt8) ∉ u) : splitC 10 (v ++ ofL (10 :: u)).data.toList = splitC 10 v.data.toList ++ [u] := by
  have e : (v ++ ofL (10 :: u)).data.toList = v.data.toList ++ 10 :: u := by simp [ofL]
  rw [e, splitC_app, splitC_no hu]
theorem linesOk_more {v : ByteArray} {u : List UInt8} (hv : linesOk v = true) (hu : lineS (ofL u) = true) (hne : u ≠ []) : linesOk (v ++ ofL (10 :: u)) = true := by
  have hn : (10 : UInt8) ∉ u := by
    intro hm
    have := List.all_eq_true.1 (lineS_parts hu).1 10 hm
    exact absurd this (by decide)
  unfold linesOk at hv ⊢
  rw [splitC_more v hn]
  cases e : splitC 10 v.data.toList with
  | nil => exact absurd e (splitC_ne 10 _)
  | cons a ps =>
    rw [e] at hv
    simp only [List.headD_cons, List.tail_cons, List.cons_append, Bool.and_eq_true, List.all_append, List.all_cons, List.all_nil, Bool.and_true] at hv ⊢
    exact ⟨hv.1, hv.2, hu, decide_eq_true hne⟩
theorem fieldL_more (n v : ByteArray) {u : List UInt8} (hn : (10 : UInt8) ∉ u) : fieldL (n, v ++ ofL (10 :: u)) = fieldL (n, v) ++ restL u := by
  unfold fieldL
  dsimp only
  rw [splitC_more v hn]
  cases e : splitC 10 v.data.toList with
  | nil => exact absurd e (splitC_ne 10 _)
  | cons a ps =>
    simp only [List.headD_cons, List.tail_cons, List.cons_append, List.flatMap_append, List.flatMap_cons, List.flatMap_nil, List.append_nil, List.append_assoc]
theorem textL_app (l m : List FieldD) : textL (l ++ m) = textL l ++ textL m := by
  unfold textL
  rw [List.flatMap_append]
theorem moreP_line {st st' : PS} {x : ByteArray} (hx : ¬ trimB x = ⟨#[]⟩) (h : moreP st (trimB x).data.toList = some st') : st.l ≠ [] ∧ ∃ u, u.length ≤ x.size ∧ lineS (ofL u) = true ∧ u ≠ [] ∧ st' = ⟨st.outs, addL st.l u⟩ := by
  have hs : Lib.trimS (trimB x).data.toList [32, 9] = (trimB x).data.toList := by
    have := congrArg (fun b : ByteArray => b.data.toList) (trimB_trimB x)
    exact this
  have hle : (trimB x).data.toList.length ≤ x.size := trimB_le x
  obtain ⟨h1, h2, _⟩ := moreP_some h
  refine ⟨h1, ?_⟩
  unfold moreP at h
  rw [if_neg (by rintro (h3 | h3); exact h1 h3; rw [h2] at h3; cases h3)] at h
  split at h
  · rename_i hd
    split at h
    · rename_i hd2
      injection h with h
      refine ⟨(trimB x).data.toList.tail, by rw [List.length_tail]; omega, ?_, ?_, h.symm⟩
      · have hl := line_tail (t := (trimB x).data.toList) (cs := [32, 9]) (by decide) hs hd2
        have hT : trimB (ofL (trimB x).data.toList.tail) = ofL (trimB x).data.toList.tail := by
          unfold trimB at hl ⊢
          rw [ofL_data, hl]
        unfold lineS
        rw [hT, ofL_data]
        have : (trimB x).data.toList.tail.all lineC = true := by
          cases e : (trimB x).data.toList with
          | nil => rfl
          | cons a l =>
            rw [e, List.all_cons, Bool.and_eq_true] at h2
            exact h2.2
        rw [this]
        simp
      · intro e
        rw [e] at hd2
        cases hd2
    · cases h
  · injection h with h
    refine ⟨_, hle, ?_, ?_, h.symm⟩
    · rw [ofL_eta, lineS_trim]
      exact h2
    · intro e
      exact hx (by rw [← ofL_eta (trimB x), e]; rfl)
/-- What holds of all that was read so far: N: how much of the text was. -/
structure GP (N : Nat) (st : PS) : Prop where
  outs : ∀ l ∈ st.outs, GoodL l ∧ l ≠ [] ∧ l.length ≤ 40 ∧ (textL l).length ≤ N
  cur : GoodL st.l
  len : st.l.length ≤ 40
  txt : (textL st.l).length ≤ N
theorem fieldL_one {a b : ByteArray} (h : lineS b = true) : (fieldL (a, b)).length ≤ a.size + b.size + 3 := by
  unfold fieldL
  rw [(linesOk_one h).2]
  unfold firstL
  simp only [List.headD_cons, List.tail_cons, List.flatMap_nil, List.append_nil]
  rw [List.length_append, List.length_cons, List.length_append]
  have e1 : a.data.toList.length = a.size := rfl
  have e2 : b.data.toList.length = b.size := rfl
  have e3 : (if b.data.toList = [] then [] else 32 :: b.data.toList).length ≤ b.data.toList.length + 1 := by
    by_cases hb : b.data.toList = []
    · rw [if_pos hb]; simp
    · rw [if_neg hb, List.length_cons]; exact Nat.le_refl _
  have e4 : ([10] : List UInt8).length = 1 := rfl
  refine Nat.le_trans (Nat.add_le_add_left (Nat.add_le_add_right (Nat.add_le_add_right e3 _) _) _) ?_
  omega
theorem fieldP_room {st st' : PS} {x : ByteArray} (h : fieldP st x = some st') : ∃ a b, a.size + b.size ≤ x.size ∧ st.l.length < 40 ∧ nameS a = true ∧ lineS b = true ∧ st.l.any (sameN a) = false ∧ st' = ⟨st.outs, st.l ++ [(a, b)]⟩ := by
  obtain ⟨a, b, m, ps, h1, _, h3⟩ := cut_split 58 x.data.toList
  rw [fieldP_eq h1] at h
  split at h
  · rename_i h0
    simp only [Bool.and_eq_true, decide_eq_true_iff, Bool.not_eq_true'] at h0
    injection h with h
    refine ⟨ofL a, trimB (ofL b), ?_, h0.1.2, h0.1.1.1.2, h0.1.1.2, h0.2, h.symm⟩
    have e1 := trimB_le (ofL b)
    have e2 : (ofL a).size = a.length := rfl
    have e3 : (ofL b).size = b.length := rfl
    have e4 : x.size = x.data.toList.length := rfl
    rcases h3 with ⟨_, _, h3⟩ | ⟨h3, _⟩
    · rw [e4, h3, List.length_append, List.length_cons]
      omega
    · rw [h3] at h0
      exact absurd h0.1.1.1.1 (by decide)
  · cases h
theorem GP.step {N : Nat} {st st' : PS} {x : ByteArray} (h : GP N st) (hs : stepP st x = some st') : GP (N + x.size + 3) st' := by
  have mo : ∀ l ∈ st.outs, GoodL l ∧ l ≠ [] ∧ l.length ≤ 40 ∧ (textL l).length ≤ N + x.size + 3 := fun l hl => by
    obtain ⟨h1, h2, h3, h4⟩ := h.outs l hl
    exact ⟨h1, h2, h3, by omega⟩
  have same : GP (N + x.size + 3) st := ⟨mo, h.cur, h.len, by have := h.txt; omega⟩
  unfold stepP at hs
  split at hs
  · injection hs with hs
    rw [← hs]
    exact same
  · split at hs
    · injection hs with hs
      rw [← hs]
      unfold flushP
      split
      · exact same
      · rename_i hne
        refine ⟨fun l hl => ?_, GoodL.nil, Nat.zero_le _, Nat.zero_le _⟩
        rcases List.mem_append.1 hl with hl | hl
        · exact mo l hl
        · rw [List.mem_singleton.1 hl]
          exact ⟨h.cur, hne, h.len, by have := h.txt; omega⟩
    · rename_i hx
      split at hs
      · obtain ⟨h1, u, hu, hul, hune, rfl⟩ := moreP_line hx hs
        have hn : (10 : UInt8) ∉ u := by
          intro hm
          have := List.all_eq_true.1 (lineS_parts hul).1 10 hm
          exact absurd this (by decide)
        have e0 : st.l = st.l.dropLast ++ [st.l.getLastD default] := by
          rw [lastD_eq h1]
          exact (List.dropLast_concat_getLast h1).symm
        obtain ⟨n, v, hnv⟩ : ∃ n v, st.l.getLastD default = (n, v) := ⟨_, _, rfl⟩
        rw [hnv] at e0
        obtain ⟨L, hL⟩ : ∃ L, st.l.dropLast = L := ⟨_, rfl⟩
        rw [hL] at e0
        have eA : addL st.l u = L ++ [(n, v ++ ofL (10 :: u))] := by
          unfold addL
          rw [hL, hnv]
        have hc := h.cur
        have ht := h.txt
        have hlen := h.len
        rw [e0] at hc ht hlen
        refine ⟨mo, ⟨fun f hf => ?_, ?_⟩, ?_, ?_⟩
        · dsimp only at hf
          rw [eA] at hf
          rcases List.mem_append.1 hf with hf | hf
          · exact hc.each f (List.mem_append_left _ hf)
          · rw [List.mem_singleton.1 hf]
            obtain ⟨g1, g2⟩ := hc.each (n, v) (by simp)
            exact ⟨g1, linesOk_more g2 hul hune⟩
        · dsimp only
          rw [eA]
          have := hc.names
          rw [List.map_append] at this ⊢
          exact this
        · dsimp only
          rw [eA]
          simpa using hlen
        · dsimp only
          rw [eA, textL_app]
          rw [textL_app] at ht
          have e9 : ∀ f : FieldD, textL [f] = fieldL f := fun f => by unfold textL; simp
          rw [e9] at ht ⊢
          rw [fieldL_more n v hn]
          have := rest_len u
          simp only [List.length_append] at ht ⊢
          omega
      · obtain ⟨a, b, hab, hl, hna, hlb, hany, rfl⟩ := fieldP_room hs
        refine ⟨mo, ⟨fun f hf => ?_, ?_⟩, ?_, ?_⟩
        · rcases List.mem_append.1 hf with hf | hf
          · exact h.cur.each f hf
          · rw [List.mem_singleton.1 hf]
            exact ⟨hna, (linesOk_one hlb).1⟩
        · dsimp only
          rw [List.map_append, List.nodup_append]
          refine ⟨h.cur.names, by simp, fun p hp q hq => ?_⟩
          obtain ⟨f, hf, rfl⟩ := List.mem_map.1 hp
          have hq' : q = smallB a := by simpa using hq
          rw [hq']
          intro he
          rw [List.any_eq_false] at hany
          exact hany f hf (by unfold sameN; rw [decide_eq_true_iff]; exact he)
        · dsimp only
          rw [List.length_append, List.length_singleton]
          omega
        · dsimp only
          rw [textL_app, List.length_append]
          have e9 : textL [(a, b)] = fieldL (a, b) := by unfold textL; simp
          rw [e9]
          have := fieldL_one (a := a) hlb
          have := h.txt
          omega
def sum3 (xs : List ByteArray) : Nat := (xs.map fun x => x.size + 3).sum
theorem fold_gp : ∀ (ls : List ByteArray) (N : Nat) (st st' : PS), GP N st → foldP st ls = some st' → GP (N + sum3 ls) st'
  | [], N, st, st', h, e => by
    injection e with e
    rw [← e]
    exact h
  | x :: ls, N, st, st', h, e => by
    have e' : (match stepP st x with | none => none | some st1 => foldP st1 ls) = some st' := e
    cases h1 : stepP st x with
    | none => rw [h1] at e'; cases e'
    | some st1 =>
      rw [h1] at e'
      have := fold_gp ls _ st1 st' (h.step h1) e'
      have e2 : N + x.size + 3 + sum3 ls = N + sum3 (x :: ls) := by
        unfold sum3
        rw [List.map_cons, List.sum_cons]
        omega
      rwa [e2] at this
theorem sum3_le (xs : List ByteArray) : sum3 xs = sumL xs + 2 * xs.length := by
  unfold sum3 sumL
  induction xs with
  | nil => rfl
  | cons x xs ih =>
    rw [List.map_cons, List.sum_cons, List.map_cons, List.sum_cons, List.length_cons, ih]
    omega
/-- What was read may be written. -/
theorem parsed_right {s : ByteArray} {outs : List (List FieldD)} (hs : s.size ≤ 1000) (h : parseS s = some outs) : ∀ l ∈ outs, rightF l = true := by
  unfold parseS at h
  cases e : foldP PS.zero (linesB s) with
  | none => rw [e] at h; cases h
  | some st =>
    rw [e] at h
    have h0 : GP 0 PS.zero := ⟨(fun l hl => by cases hl), GoodL.nil, Nat.zero_le _, Nat.le_refl _⟩
    have hg := fold_gp (linesB s) 0 _ st h0 e
    have hN : 0 + sum3 (linesB s) ≤ 4000 := by
      rw [sum3_le, sumL_lines]
      have := linesB_le s (Nat.le_refl _)
      omega
    have e2 : (flushP st).outs = outs := by
      injection h
    intro l hl
    rw [← e2] at hl
    have key : GoodL l ∧ l ≠ [] ∧ l.length ≤ 40 ∧ (textL l).length ≤ 4000 := by
      unfold flushP at hl
      split at hl
      · obtain ⟨k1, k2, k3, k4⟩ := hg.outs l hl
        exact ⟨k1, k2, k3, by omega⟩
      · rename_i hne
        rcases List.mem_append.1 hl with hl | hl
        · obtain ⟨k1, k2, k3, k4⟩ := hg.outs l hl
          exact ⟨k1, k2, k3, by omega⟩
        · rw [List.mem_singleton.1 hl]
          exact ⟨hg.cur, hne, hg.len, by have := hg.txt; omega⟩
    obtain ⟨k1, k2, k3, k4⟩ := key
    rw [rightF_end ⟨List.length_pos_iff.2 k2, k3⟩ k1.right]
    exact decide_eq_true k4

/-! ### in capital letters -/
def upB (s : ByteArray) : ByteArray := ⟨(Lib.toUpperA s.data.toList).toArray⟩
theorem small_up_nat : ∀ n, n < 128 → lowC (Lib.upperB (UInt8.ofNat n)) = lowC (UInt8.ofNat n) := by decide
theorem small_up1 (c : UInt8) (h : c.toNat < 128) : lowC (Lib.upperB c) = lowC c := by
  have := small_up_nat c.toNat h
  rwa [UInt8.ofNat_toNat] at this
theorem name_ascii {n : ByteArray} (h : nameS n = true) : ∀ c ∈ n.data.toList, c.toNat < 128 := by
  intro c hc
  unfold nameS at h
  simp only [Bool.and_eq_true, List.all_eq_true] at h
  have := (nameC_iff c).1 (h.1.1.1.1 c hc)
  omega
theorem small_up {n : ByteArray} (h : nameS n = true) : smallB (upB n) = smallB n := by
  unfold smallB upB Lib.toUpperA
  congr 1
  rw [List.map_map]
  refine List.map_congr_left fun c hc => ?_
  exact small_up1 c (name_ascii h c hc)
theorem get_up {l : List FieldD} (h : rightF l = true) {k : Nat} (hk : k < l.length) : getF l (upB (l.getD k default).1) = ((l.getD k default).2, true) := by
  obtain ⟨h1, h2, _⟩ := rightOne_parts ((rightF_parts h).2.1 k hk)
  have e : sameN (upB (l.getD k default).1) = sameN (l.getD k default).1 := by
    funext f
    unfold sameN
    rw [small_up h1]
  exact getF_some hk (by rw [e]; exact h2) (by rw [e]; unfold sameN; simp)
theorem upB_size (n : ByteArray) : (upB n).size = n.size := by
  show (Lib.toUpperA n.data.toList).toArray.size = n.data.size
  unfold Lib.toUpperA
  simp
end Go.Proofs.YtpiobckemlkomaaDoor
