/- Stanzas: the document's ParseStanzas. (Written by gen_stans.py.) -/
import Derived.Test.YtpiobckemlkomaaDoorStanR
import Derived.Deep.AppendLies
import Derived.StillTailTactics
import Derived.Deep.MidRow
namespace Go.Proofs.YtpiobckemlkomaaDoor
open Go.RowKit
set_option maxRecDepth 100000
set_option maxHeartbeats 4000000

/-- The variable Fine. -/
structure FineR (w : World) : Prop where
  lt : 0 < w.heap.size
  c0 : w.cell? ⟨0, 0, none⟩ = some (.int .i64 0)
  c1 : w.cell? ⟨0, 1, none⟩ = some (.int .i64 (-1))
theorem FineR.below {w w' : World} (h : FineR w) {B : Nat} (hb : Below B w w') (hB : w.heap.size ≤ B) : FineR w' :=
  ⟨Nat.lt_of_lt_of_le h.lt hb.size, (hb.cell (p := ⟨0, 0, none⟩) (Nat.lt_of_lt_of_le h.lt hB)).trans h.c0, (hb.cell (p := ⟨0, 1, none⟩) (Nat.lt_of_lt_of_le h.lt hB)).trans h.c1⟩
/-- A result of two numbers, in a variable that nothing was written into. -/
structure ResC (w : World) (b : Nat) : Prop where
  lt : b < w.heap.size
  c : w.heap[b]? = some (.cells #[.int .i64 0, .int .i64 0] 25)
theorem ResC.below {w w' : World} {b : Nat} (h : ResC w b) {B : Nat} (hb : Below B w w') (hB : b < B) : ResC w' b := ⟨Nat.lt_of_lt_of_le h.lt hb.size, (hb.block b hB).trans h.c⟩
theorem ResC.new (w : World) : ResC (w.alloc (.cells #[.int .i64 0, .int .i64 0] 25)) w.heap.size := ⟨by simp, heap_alloc_new w _⟩
theorem ResC.c0 {w : World} {b : Nat} (h : ResC w b) : w.cell? ⟨b, 0, none⟩ = some (.int .i64 0) := by simp [World.cell?, h.c]
theorem ResC.c1 {w : World} {b : Nat} (h : ResC w b) : w.cell? ⟨b, 1, none⟩ = some (.int .i64 0) := by simp [World.cell?, h.c]
theorem ResC.z0 {w : World} {b : Nat} (h : ResC w b) : w.frozen? ⟨b, 0, none⟩ = false := by simp [World.frozen?, h.c]
theorem ResC.z1 {w : World} {b : Nat} (h : ResC w b) : w.frozen? ⟨b, 1, none⟩ = false := by simp [World.frozen?, h.c]
theorem ResC.there2 {w : World} {b : Nat} (h : ResC w b) : w.drew.there b 0 2 := by
  intro i hi
  match i, hi with
  | 0, _ => exact ⟨by show (w.cell? ⟨b, 0, none⟩).isSome = true; rw [h.c0]; rfl, h.z0⟩
  | 1, _ => exact ⟨by show (w.cell? ⟨b, 0 + 1, none⟩).isSome = true; rw [show (⟨b, 0 + 1, none⟩ : Addr) = ⟨b, 1, none⟩ from rfl, h.c1]; rfl, h.z1⟩
theorem ResC.d0 {w : World} {b : Nat} (h : ResC w b) (x : Value) : (w.setCell ⟨b, 0, none⟩ x).cell? ⟨b, 0, none⟩ = some x := World.cell?_setCell_same' _ _ _ (by rw [h.c0]; rfl)
theorem ResC.d1 {w : World} {b : Nat} (h : ResC w b) (x y : Value) : ((w.setCell ⟨b, 0, none⟩ x).setCell ⟨b, 1, none⟩ y).cell? ⟨b, 1, none⟩ = some y := World.cell?_setCell_same' _ _ _ (by rw [show (w.setCell ⟨b, 0, none⟩ x).cell? ⟨b, 1, none⟩ = w.cell? ⟨b, 1, none⟩ from World.cell?_setCell_other _ _ _ _ (by simp), h.c1]; rfl)
theorem ResC.set2 {w a : World} {b B : Nat} (h : ResC w b) (x y : Value) (hb : Below B a w) (hB : B ≤ b) :
    ((w.drew.setCells b 0 [x, y]).cell? ⟨b, 0, none⟩ = some x ∧ (w.drew.setCells b 0 [x, y]).cell? ⟨b, 1, none⟩ = some y) ∧ Below B a (w.drew.setCells b 0 [x, y]) := by
  have e : w.drew.setCells b 0 [x, y] = ((w.drew.setCell ⟨b, 0, none⟩ x).setCell ⟨b, 1, none⟩ y) := rfl
  have hd : ResC w.drew b := ⟨h.lt, h.c⟩
  rw [e]
  refine ⟨⟨?_, hd.d1 x y⟩, (hb.drew.setCell (p := ⟨b, 0, none⟩) hB _).setCell (p := ⟨b, 1, none⟩) hB _⟩
  rw [World.cell?_setCell_other _ _ _ _ (by simp)]
  exact hd.d0 x

/-! ### an empty line behind all -/
def linesE (s : ByteArray) : List ByteArray := linesB s ++ [⟨#[]⟩]
theorem linesE_len (s : ByteArray) : (linesE s).length = (linesB s).length + 1 := by unfold linesE; simp
theorem linesE_bad {s : ByteArray} {i : Nat} (h : BadAt (linesE s) i) : BadAt (linesB s) i := by
  obtain ⟨hi, st, h1, h2⟩ := h
  rw [linesE_len] at hi
  rcases Nat.lt_or_ge i (linesB s).length with h' | h'
  · refine ⟨h', st, ?_, ?_⟩
    · rw [← h1]
      unfold linesE
      rw [List.take_append_of_le_length (Nat.le_of_lt h')]
    · rw [← h2]
      unfold linesE
      rw [List.getD_eq_getElem?_getD, List.getD_eq_getElem?_getD, List.getElem?_append_left h']
  · have e : i = (linesB s).length := by omega
    have e2 : (linesE s).getD i ⟨#[]⟩ = ⟨#[]⟩ := by
      unfold linesE
      rw [List.getD_eq_getElem?_getD, List.getElem?_append_right h', e]
      simp
    rw [e2, step_empty] at h2
    cases h2
theorem linesE_done {s : ByteArray} {st : PS} (h : foldP PS.zero (linesE s) = some st) : parseS s = some st.outs := by
  unfold linesE at h
  rw [foldP_append] at h
  unfold parseS
  cases e : foldP PS.zero (linesB s) with
  | none => rw [e] at h; cases h
  | some st0 =>
    rw [e] at h
    have h2 : foldP st0 [⟨#[]⟩] = some st := h
    rw [foldP_one, step_empty] at h2
    injection h2 with h2
    rw [← h2]
    rfl
theorem sumL_linesE (s : ByteArray) : sumL (linesE s) = s.size + 2 := by
  have h := sumL_lines s
  unfold linesE sumL
  unfold sumL at h
  rw [List.map_append, List.sum_append, h]
  rfl
/-- What ParseStanzas hands back. -/
def RParseR (w : World) (s : ByteArray) (e : Ending) (w' : World) : Prop := ∃ v, ∃ k p : Int, e = .returned (.tuple #[v, .agg #[.int .i64 k, .int .i64 p]]) ∧ Below w.heap.size w w' ∧
  ((∃ outs, parseS s = some outs ∧ Grps w' v outs ∧ k = 0 ∧ p = -1) ∨ (v = .slice none 0 0 ∧ parseS s = none ∧ ∃ i : Nat, BadAt (linesB s) i ∧ k = 3 ∧ p = i))
theorem rbad_end {w w' : World} {s : ByteArray} {ls : List ByteArray} {i : Nat} (hls : linesE s = ls) (h : BadAt ls i) (hb : Below w.heap.size w w') : RParseR w s (.returned (.tuple #[.slice none 0 0, .agg #[.int .i64 3, .int .i64 i]])) w' := by
  subst hls
  have h1 := linesE_bad h
  exact ⟨_, _, _, rfl, hb, Or.inr ⟨rfl, h1.none, i, h1, rfl, rfl⟩⟩
theorem PW.lnil {B : Nat} {w : World} {ov lv : Value} {qs : List Value} {st : PS} (h : PW B w ov lv qs st) (hn : st.l = []) : PW B w ov (.slice none 0 0) qs st :=
  ⟨h.out, by rw [hn]; exact World.ownsRow_nil _ _ _ _, h.len, h.sz, h.each, (fun k _ e2 => by cases e2), fun v hv k e => ⟨(h.apQ v hv k e).1, (fun e2 => by cases e2), (h.apQ v hv k e).2.2⟩, h.one⟩
/-- The line without its first point: the tests on it are those on the whole. -/
theorem tail_line {x t t' : ByteArray} (ht : trimB x = t) (h1 : t.data.toList.head? = some 46) (h2 : t.data.toList.tail = t'.data.toList) (h3 : t'.data.toList.head? = some 46) : lineS t' = t.data.toList.all lineC := by
  have hs : Lib.trimS t.data.toList [32, 9] = t.data.toList := by
    have := congrArg (fun b : ByteArray => b.data.toList) (trimB_trimB x)
    rw [ht] at this
    exact this
  have hl := line_tail (t := t.data.toList) (cs := [32, 9]) (by decide) hs (by rw [h2]; exact h3)
  rw [h2] at hl
  have hT : trimB t' = t' := by
    unfold trimB
    rw [hl]
    rfl
  unfold lineS
  rw [hT]
  cases e : t.data.toList with
  | nil => rw [e] at h1; cases h1
  | cons a l =>
    rw [e] at h1 h2
    injection h1 with h1
    rw [List.all_cons, h1, show l = t'.data.toList from h2]
    simp [lineC]

theorem cell_two0 {w : World} {r : Nat} {a b : Value} {t : TypeId} {f : Nat × Nat} (h : w.heap[r]? = some (.cells #[a, b] t f)) : w.cell? ⟨r, 0, none⟩ = some a := by simp [World.cell?, h]
theorem cell_two1 {w : World} {r : Nat} {a b : Value} {t : TypeId} {f : Nat × Nat} (h : w.heap[r]? = some (.cells #[a, b] t f)) : w.cell? ⟨r, 1, none⟩ = some b := by simp [World.cell?, h]
theorem info_str : (Tryd.prog.info? 9).map (fun i => (i.zero, i.size, i.bytes)) = some (some (.string ⟨#[]⟩), 1, 16) := by kernel_rfl
theorem getF_any (l : List FieldD) (n : ByteArray) : (getF l n).2 = l.any (sameN n) := by
  unfold getF
  cases e : l.find? (sameN n) with
  | none =>
    dsimp only
    symm
    rw [List.any_eq_false]
    exact List.find?_eq_none.1 e
  | some f =>
    dsimp only
    symm
    rw [List.any_eq_true]
    exact ⟨f, List.mem_of_find?_eq_some e, List.find?_some e⟩
theorem rparse_calls (s : ByteArray) (w : World) (hs : s.size ≤ 20000) (hm : MaxV w) (hfi : FineR w) :
    Calls Tryd.prog 6 #[.string s] w (RParseR w s) := by
  obtain ⟨i0, hi0, hz0, hz1, hz2⟩ := info_parts info_field
  have Hi0 := Lib.hid (And.intro hi0 (And.intro hz0 (And.intro hz1 hz2)))
  obtain ⟨j0, hj0, hy0, hy1, hy2⟩ := info_parts info_flds
  have Hj0 := Lib.hid (And.intro hj0 (And.intro hy0 (And.intro hy1 hy2)))
  obtain ⟨k0, hk0, hx0, hx1, hx2⟩ := info_parts info_str
  have Hk0 := Lib.hid (And.intro hk0 (And.intro hx0 (And.intro hx1 hx2)))
  clear hi0 hz0 hz1 hz2 hj0 hy0 hy1 hy2 hk0 hx0 hx1 hx2
  obtain ⟨w0, hw0⟩ : ∃ w0 : World, w.alloc (.cells #[.int .i64 0, .int .i64 0] 25) = w0 := ⟨_, rfl⟩
  obtain ⟨z, hz⟩ : ∃ z, w.heap.size = z := ⟨_, rfl⟩
  have HB00 : Hid (Below z w w0) := by rw [← hw0, ← hz]; exact (Below.refl _ _).alloc (Nat.le_refl _) _
  have hw0s : w0.heap.size = z + 1 := by rw [← hw0, ← hz]; simp
  have hrc0 : ResC w0 z := by rw [← hw0, ← hz]; exact ResC.new w
  have hm0 := hm.below HB00.out (by rw [← hz]; exact hm.lt)
  have hf0 := hfi.below HB00.out (by rw [hz]; exact Nat.le_refl _)
  have SP := split_calls s w0 (by omega) hm0
  obtain ⟨lb, hlb⟩ : ∃ lb, linesB s = lb := ⟨_, rfl⟩
  obtain ⟨n0, hn0⟩ : ∃ n0, lb.length = n0 := ⟨_, rfl⟩
  obtain ⟨ls, hls⟩ : ∃ ls, linesE s = ls := ⟨_, rfl⟩
  obtain ⟨nl, hnl⟩ : ∃ nl, ls.length = nl := ⟨_, rfl⟩
  have hlse : ls = lb ++ [⟨#[]⟩] := by rw [← hls, ← hlb]; rfl
  have hnn : n0 + 1 = nl := by rw [← hnl, ← hn0, hlse]; simp
  rw [hlb, hn0, hw0s] at SP
  have hnle : nl ≤ 20002 := by
    have := linesB_le s hs
    rw [hlb, hn0] at this
    omega
  obtain ⟨w1, hw1⟩ : ∃ w1 : World, w0.alloc (.cells (lb.map Value.string).toArray 9) = w1 := ⟨_, rfl⟩
  have hw1s : w1.heap.size = z + 2 := by rw [← hw1]; simp [hw0s]
  have HOWN : Hid (w1.ownsRow (z + 1) 9 1 (.slice (some ⟨z + 1, 0, none⟩) n0 n0) n0 (lb.map Value.string)) := by
    refine ⟨by rw [List.length_map, hn0, Nat.mul_one], Or.inr ⟨z + 1, n0, (lb.map Value.string).toArray, rfl, Nat.le_refl _, ?_, Nat.le_refl _, by unfold maxLen; omega, by simp [hn0], ?_⟩⟩
    · rw [← hw1, ← hw0s]
      exact heap_alloc_new w0 _
    · rw [Nat.mul_one, ← hn0]
      exact List.take_of_length_le (by simp)
  have hb01 : Below (z + 1) w0 w1 := by rw [← hw1]; exact (Below.refl _ _).alloc (by omega) _
  rw [hw1] at SP
  replace SP := Lib.hid SP
  have HLS := Lib.hid (And.intro hls hnl)
  have HLSE := Lib.hid hlse
  have Hn0 := Lib.hid hn0
  have Hs := Lib.hid hs
  have Hz := Lib.hid hz
  have HZW : Hid (w.heap.size ≤ z) := by show _ ≤ _; omega
  have Hw0 := Lib.hid hw0
  have Hw0s := Lib.hid hw0s
  have Hw1s := Lib.hid hw1s
  have Hnn := Lib.hid hnn
  have hn02 : n0 ≤ 20002 := by omega
  have HRC0 := Lib.hid hrc0
  have HM0 := Lib.hid hm0
  have HF0 := Lib.hid hf0
  have HB01 := Lib.hid hb01
  have HMax := Lib.hid hm
  clear hls hnl hlse hn0 hw0 hrc0 hm0 hf0 hlb hw1 hm hfi hb01 hw0s hw1s hnn
  go_enter Tryd.func6, Tryd.ntmps6
  go_wp2_with fail
  rw [Hw0.out]
  refine SP.out.mono ?_
  rintro e0 w1' ⟨rfl, hw1'⟩
  obtain rfl : w1 = w1' := hw1'.symm
  clear SP hz
  go_wp2_with (at_builtin; refine wpList_append_own_at _ rfl _ _ 50 rfl (z + 1) 9 k0 _ 1 16 Tryd.underlying50 Hk0.out.1 Hk0.out.2.1 Hk0.out.2.2.1 Hk0.out.2.2.2 rfl (by decide) (.slice (some ⟨z + 1, 0, none⟩) n0 n0) n0 (lb.map Value.string) rfl (HOWN.out.alloc _) ⟨w1.heap.size, 0, none⟩ 1 1 [.string ⟨#[]⟩] rfl rfl (World.news_of_block (cs := #[.string ⟨#[]⟩]) (t := 9) (fr := (0, 0)) (heap_alloc_new w1 _)) (by simp [Value.oneCell']) (by unfold maxLen; omega) (by omega) (by have := Hw1s.out; simp; omega) ?_)
  intro lv0 w2 hown hgrow j1 j2
  clear j1 j2
  obtain ⟨gl, cl, rfl⟩ : ∃ g c, lv0 = .slice (some ⟨g, 0, none⟩) (n0 + 1) c := by
    rcases hown.2 with ⟨_, h'⟩ | ⟨g, cap, cur, e, _⟩
    · omega
    · exact ⟨g, cap, e⟩
  have hgl : gl < w2.heap.size := (hown.lt gl rfl).2
  have HB2 : Hid (Below (z + 1) w0 w2) := (HB01.out.alloc (by have := Hw1s.out; omega) (.cells #[.string ⟨#[]⟩] 9)).grown hgrow (by have := Hw1s.out; simp; omega) (fun k e => (HOWN.out.lt k e).1)
  have HLC : Hid (∀ j, j < nl → w2.cell? ⟨gl, j, none⟩ = some (.string (ls.getD j ⟨#[]⟩))) := fun j hj => by
    have hnn := Hnn.out
    have h1 := hown.cellAt j (by omega)
    rw [h1, HLSE.out]
    have e1 : lb.map Value.string ++ [Value.string ⟨#[]⟩] = (lb ++ [(⟨#[]⟩ : ByteArray)]).map Value.string := by simp
    rw [e1, List.getElem?_map, List.getD_eq_getElem?_getD]
    have hjl : j < (lb ++ [(⟨#[]⟩ : ByteArray)]).length := by rw [List.length_append, Hn0.out]; simp; omega
    rw [List.getElem?_eq_getElem hjl]
    rfl
  have hcle : n0 + 1 ≤ cl ∧ cl ≤ maxLen := by
    rcases hown.2 with ⟨_, h'⟩ | ⟨g, cap, cur, e, _, _, h1, h2, _⟩
    · omega
    · cases e; exact ⟨h1, h2⟩
  unfold maxLen at hcle
  have hcle2 : n0 + 1 ≤ cl ∧ cl ≤ 9223372036854775807 := hcle
  clear hcle
  obtain ⟨hcl1, hcl2⟩ := hcle2
  obtain ⟨Bq, hBq⟩ : ∃ Bq, w2.heap.size = Bq := ⟨_, rfl⟩
  have hzq : z + 1 ≤ Bq := by have := HB2.out.size; rw [Hw0s.out] at this; omega
  rw [hBq] at hgl
  have HBq := Lib.hid hBq
  have HRCw : Hid (∀ w', Below Bq w2 w' → ResC w' z) := fun w' h => (HRC0.out.below HB2.out (Nat.lt_succ_self z)).below h (by omega)
  have HFNw : Hid (∀ w', Below Bq w2 w' → FineR w') := fun w' h => (HF0.out.below HB2.out (by rw [Hw0s.out]; exact Nat.le_refl _)).below h (by rw [HBq.out]; exact Nat.le_refl _)
  have HUP0 : Hid (∀ w', Below Bq w2 w' → Below w.heap.size w w') := fun w' h => by
    rw [Hz.out]
    exact HB00.out.trans ((HB2.out.mono (Nat.le_succ z)).trans (h.mono (by omega)))
  clear hown hgrow hBq
  obtain rfl : nl = n0 + 1 := Hnn.out.symm
  obtain ⟨nl, hnl⟩ : ∃ nl, n0 + 1 = nl := ⟨_, rfl⟩
  rw [hnl] at HLC HLS hnle hcl1 ⊢
  clear Hnn HOWN hnl hn02
  go_wp2_with fail
  go_loopg [4, 5, 18] nl (fun k v4 v5 v18 wr => ∃ (i : Nat) (st : PS) (ov lv : Value) (qs : List Value), ov = v4 ∧ lv = v5 ∧ v18 = .int .i64 i ∧ i ≤ nl ∧ k = nl - i ∧ foldP PS.zero (ls.take i) = some st ∧ PW Bq wr ov lv qs st ∧ Below Bq w2 wr)
  case atStart => exact ⟨0, PS.zero, _, _, [], rfl, rfl, rfl, Nat.zero_le _, rfl, rfl, PW.zero _ _, Below.refl _ _⟩
  case round =>
    obtain ⟨i, st, ov, lv, qs, rfl, rfl, rfl, hi, hk, hF, hP, hB⟩ := hrel
    obtain ⟨la, lc, rfl⟩ := hP.any_form
    obtain ⟨oa, oc, rfl⟩ := hP.out_form
    have Hk := Lib.hid hk
    have HF := Lib.hid hF
    have HP := Lib.hid hP
    have HB := Lib.hid hB
    have HGS := Lib.hid (fold_good ls i st (by rw [HLS.out.2]; exact hi) hF)
    have hll : st.l.length ≤ 40 := HGS.out.len
    have hqs : qs.length ≤ 20002 := by rw [hP.len]; exact Nat.le_trans HGS.out.outs (by omega)
    clear hk hF hP hB
    by_cases hlt : i < nl
    · have HIL : Hid (i < ls.length) := by show _ < _; rw [HLS.out.2]; exact hlt
      have hcell := (HB.out.cell (p := ⟨gl, i, none⟩) hgl).trans (HLC.out i hlt)
      obtain ⟨x, hx⟩ : ∃ x, ls.getD i ⟨#[]⟩ = x := ⟨_, rfl⟩
      rw [hx] at hcell
      have HX := Lib.hid hx
      have hNx : sumL (ls.take i) + x.size + 1 ≤ 20002 := by
        have h1 := sumL_take HIL.out
        have h2 := sumL_le ls (i + 1)
        have h3 := sumL_linesE s
        rw [HLS.out.1] at h3
        have h4 := Hs.out
        rw [hx] at h1
        omega
      obtain ⟨N, hN⟩ : ∃ N, sumL (ls.take i) = N := ⟨_, rfl⟩
      rw [hN] at HGS hNx
      clear hx hN
      obtain ⟨r, hr⟩ : ∃ r, wr.heap.size = r := ⟨_, rfl⟩
      have hzr : Bq ≤ r := by have := HB.out.size; rw [HBq.out] at this; omega
      have HB1 : Hid (Below Bq w2 (wr.alloc (.cells #[.int .i64 3, .int .i64 i] 25))) := HB.out.alloc (by omega) _
      have HP1 := Lib.hid (HP.out.keep ((Below.refl _ _).alloc (Nat.le_refl _) (.cells #[.int .i64 3, .int .i64 i] 25)))
      have HA1 : Hid ((wr.alloc (.cells #[.int .i64 3, .int .i64 i] 25)).heap[wr.heap.size]? = some (.cells #[.int .i64 3, .int .i64 i] 25)) := heap_alloc_new wr _
      have hzl : gl < wr.heap.size := by omega
      go_wp2_with fail
      obtain ⟨W1, hW1⟩ : ∃ W1 : World, wr.alloc (.cells #[.int .i64 3, .int .i64 i] 25) = W1 := ⟨_, rfl⟩
      rw [hW1] at HB1 HP1 HA1 ⊢
      have HW1 : Hid (W1.heap.size = r + 1) := by show _ = _; rw [← hW1, ← hr]; simp
      rw [hr] at HA1
      clear hW1 hr hcell hzl
      have HUP2 : Hid (∀ w', Below (r + 1) W1 w' → Below Bq w2 w') := fun w' h => HB1.out.trans (h.mono (by omega))
      have HUP : Hid (∀ w', Below (r + 1) W1 w' → Below w.heap.size w w') := fun w' h => HUP0.out _ (HUP2.out _ h)
      have HRC : Hid (∀ w', Below (r + 1) W1 w' → ResC w' z) := fun w' h => HRCw.out _ (HUP2.out _ h)
      have HAT : Hid (∀ w', Below (r + 1) W1 w' → w'.heap[r]? = some (.cells #[.int .i64 3, .int .i64 i] 25)) := fun w' h => (h.block r (Nat.lt_succ_self r)).trans HA1.out
      have HPC := Tryd.strings_HasPrefix x ⟨#[35]⟩ W1
      have e35 : (ByteArray.mk #[35]).data.toList = [35] := rfl
      rw [e35, hasPre1] at HPC
      replace HPC := Lib.hid HPC
      clear e35
      by_cases h35 : x.data.toList.head? = some 35
      · rw [decide_eq_true h35] at HPC
        have HST := Lib.hid (fold_next HIL.out HF.out HX.out (stepP_hash (st := st) h35))
        clear h35
        refine HPC.out.mono ?_
        rintro e3 w3 ⟨rfl, hw3⟩
        obtain rfl : W1 = w3 := hw3.symm
        clear HPC
        go_wp2_with fail
        have HBE := HB1
        go_roundg (nl - (i + 1))
        case rel => exact ⟨i + 1, _, _, _, _, rfl, rfl, by go_num, by omega, rfl, HST.out, HP1.out, HBE.out⟩
        case measure => have := Hk.out; omega
      rw [decide_eq_false h35] at HPC
      refine HPC.out.mono ?_
      rintro e3 w3 ⟨rfl, hw3⟩
      obtain rfl : W1 = w3 := hw3.symm
      clear HPC
      have TC := rtrim_calls x W1 (by omega)
      obtain ⟨t, ht⟩ : ∃ t, trimB x = t := ⟨_, rfl⟩
      rw [ht] at TC
      have hts : t.size ≤ x.size := by rw [← ht]; exact trimB_le x
      have HT := Lib.hid ht
      replace TC := Lib.hid TC
      clear ht
      by_cases ht0 : t.size = 0
      · have htE : trimB x = ⟨#[]⟩ := HT.out.trans (toL_iff.1 ((emptyL ht0).1.trans (emptyL (s := ⟨#[]⟩) rfl).1.symm))
        obtain ⟨t1, t2⟩ := emptyL ht0
        have HST0 := Lib.hid (fold_next HIL.out HF.out HX.out (stepP_blank h35 htE))
        clear ht0 htE
        by_cases hl0 : st.l.length = 0
        · have HST : Hid (foldP PS.zero (ls.take (i + 1)) = some st) := by
            have := HST0.out
            unfold flushP at this
            rwa [if_pos (List.eq_nil_of_length_eq_zero hl0)] at this
          have HPE := Lib.hid (HP1.out.lnil (List.eq_nil_of_length_eq_zero hl0))
          have HBE := HB1
          have q1 : decide ((st.l.length : Int) > 0) = false := decide_eq_false (by omega)
          have q2 : decide ((0 : Int) < st.l.length) = false := decide_eq_false (by omega)
          go_wp2_with fail
          refine TC.out.mono ?_
          rintro e3 w3 ⟨rfl, hw3⟩
          obtain rfl : W1 = w3 := hw3
          clear TC
          go_wp2_with fail
          go_roundg (nl - (i + 1))
          case rel => exact ⟨i + 1, _, _, _, _, rfl, rfl, by go_num, by omega, rfl, HST.out, HPE.out, HBE.out⟩
          case measure => have := Hk.out; omega
        · have hne : st.l ≠ [] := fun e => hl0 (by rw [e]; rfl)
          have HST : Hid (foldP PS.zero (ls.take (i + 1)) = some ⟨st.outs ++ [st.l], []⟩) := by
            have := HST0.out
            unfold flushP at this
            rwa [if_neg hne] at this
          have q1 : decide ((st.l.length : Int) > 0) = true := decide_eq_true (by omega)
          have q2 : decide ((0 : Int) < st.l.length) = true := decide_eq_true (by omega)
          have hz3 : Bq ≤ W1.heap.size := by rw [HW1.out]; omega
          have HPa := Lib.hid (HP1.out.keep ((Below.refl _ _).alloc (Nat.le_refl _) (.cells #[.slice la st.l.length lc] 34)))
          clear hne
          go_wp2_with fail
          refine TC.out.mono ?_
          rintro e3 w3 ⟨rfl, hw3⟩
          obtain rfl : W1 = w3 := hw3
          clear TC
          go_wp2_with (at_builtin; refine wpList_append_own_at _ rfl _ _ 22 rfl Bq 34 j0 _ 1 24 Tryd.underlying22 Hj0.out.1 Hj0.out.2.1 Hj0.out.2.2.1 Hj0.out.2.2.2 rfl (by decide) (.slice oa qs.length oc) qs.length qs rfl HPa.out.out ⟨W1.heap.size, 0, none⟩ 1 1 [.slice la st.l.length lc] rfl rfl (World.news_of_block (cs := #[.slice la st.l.length lc]) (t := 34) (fr := (0, 0)) (heap_alloc_new W1 _)) (by simp [Value.oneCell']) (by unfold maxLen; omega) (by omega) (by simp; omega) ?_)
          intro v' w5 hown hgrow j1 hat
          clear j1
          have HB5 : Hid (Below Bq w2 w5) := (HB1.out.alloc hz3 (.cells #[.slice la st.l.length lc] 34)).grown hgrow (by simp; omega) (fun k e => (HPa.out.out.lt k e).1)
          have HP5 := Lib.hid (HPa.out.flush hgrow hown (by simpa using hat) (slice_one _ _ _))
          clear hown hgrow hat
          go_wp2_with fail
          go_roundg (nl - (i + 1))
          case rel => exact ⟨i + 1, _, _, _, _, rfl, rfl, by go_num, by omega, rfl, HST.out, HP5.out, HB5.out⟩
          case measure => have := Hk.out; omega
      have HTN : Hid (¬ trimB x = ⟨#[]⟩) := fun e => ht0 (by rw [← HT.out, e]; rfl)
      obtain ⟨t1, t2⟩ := emptyN ht0
      have hx0 : 0 < x.size := by omega
      obtain ⟨c, hxc⟩ : ∃ c, x[0]'hx0 = c := ⟨_, rfl⟩
      obtain ⟨n, hn⟩ : ∃ n, c.toNat = n := ⟨_, rfl⟩
      have hn256 : n < 256 := by rw [← hn]; exact c.toNat_lt
      cases hbl : blankC c
      case' true =>
        have HBK := Lib.hid ((blankC_iff c).1 hbl)
        have HSM := Lib.hid (stepP_more (st := st) h35 HTN.out (by rw [head_at x hx0, hxc]; exact hbl))
        rw [HT.out] at HSM
        have BL := blank_calls c W1
        rw [hbl, hn] at BL
        replace BL := Lib.hid BL
        have HBS : Hid (Below (r + 1) W1 W1) := Below.refl _ _
        clear hbl
        have htp : 0 < t.size := by omega
        obtain ⟨ct, hct⟩ : ∃ ct, t[0]'htp = ct := ⟨_, rfl⟩
        obtain ⟨nt, hnt⟩ : ∃ nt, ct.toNat = nt := ⟨_, rfl⟩
        have hnt256 : nt < 256 := by rw [← hnt]; exact ct.toNat_lt
        have HH : Hid (t.data.toList.head? = some (UInt8.ofNat nt)) := by
          show _ = _
          rw [head_some htp, hct, ← (u8_eq hnt256).2 hnt]
        obtain ⟨hfp, hfs⟩ := first_part t htp
        obtain ⟨t', ht'⟩ : ∃ t', t.extract 1 t.size = t' := ⟨_, rfl⟩
        rw [ht'] at hfp hfs
        have HTL : Hid (t.data.toList.tail = t'.data.toList) := by show _ = _; rw [hfp]; rfl
        clear hfp
        go_wp2_with fail
        refine TC.out.mono ?_
        rintro e3 w3 ⟨rfl, hw3⟩
        obtain rfl : W1 = w3 := hw3
        clear TC
        go_wp2_with fail
        refine BL.out.mono ?_
        rintro e4 w4 ⟨rfl, hw4⟩
        obtain rfl : W1 = w4 := hw4
        clear BL
        by_cases h46 : nt = 46
        · have HH46 : Hid (t.data.toList.head? = some 46) := by rw [h46] at HH; exact HH.out
          have p1 : ((nt : Int) == 46) = true := by rw [beq_iff_eq]; omega
          clear h46
          by_cases hone : t'.size = 0
          · obtain ⟨y1, y2⟩ := emptyL hone
            have HBAD := Lib.hid (bad_at HIL.out HF.out HX.out (HSM.out.trans (more_bad HH46.out (by rw [HTL.out, List.eq_nil_of_length_eq_zero (show t'.data.toList.length = 0 from hone)]; simp))))
            clear hone
            have RC9 := Lib.hid (HRC.out _ HBS.out)
            have hat := HAT.out _ HBS.out
            have hrl2 := blk_lt hat
            have g0 := cell_two0 hat
            have g1 := cell_two1 hat
            have HUPX := Lib.hid (HUP.out _ HBS.out)
            clear hat
            go_wp2_with fail
            refine wp_region_still_tail 2 (by kernel_rfl) (by kernel_rfl) ?_
            simp only [List.take_succ_cons, List.take_zero, List.drop_succ_cons, List.drop_zero]
            repeat still_step
            refine wpStill_nil ?_
            refine wpList_store_mid rfl 25 _ _ rfl z 0 #[.int .i64 3, .int .i64 i] rfl rfl RC9.out.there2 (by kernel_rfl) (all_oneCell_toArray (cs := [.int .i64 3, .int .i64 i]) (by simp [Value.oneCell'])) ?_
            have HST9 := Lib.hid (RC9.out.set2 (.int .i64 3) (.int .i64 i) HUPX.out HZW.out)
            change wpList _ _ _ _ _ ((W1).drew.setCells z 0 [.int .i64 3, .int .i64 i])
            generalize (W1).drew.setCells z 0 [.int .i64 3, .int .i64 i] = w9 at HST9 ⊢
            clear g0 g1 hrl2
            repeat go_step
            obtain ⟨⟨d0, d1⟩, hb9⟩ := HST9.out
            try simp only [Exit.inBlock, Exit.then]
            refine bodyPost_ret (v := .tuple #[.slice none 0 0, .agg #[.int .i64 3, .int .i64 i]]) (by simp [results, Tryd.results6, go_sem, d0, d1]; try rfl) rfl ?_
            exact rbad_end HLS.out.1 HBAD.out hb9
          obtain ⟨y1, y2⟩ := emptyN hone
          have htp' : 0 < t'.size := by omega
          obtain ⟨cu, hcu⟩ : ∃ cu, t'[0]'htp' = cu := ⟨_, rfl⟩
          obtain ⟨nu, hnu⟩ : ∃ nu, cu.toNat = nu := ⟨_, rfl⟩
          have hnu256 : nu < 256 := by rw [← hnu]; exact cu.toNat_lt
          have HHU : Hid (t.data.toList.tail.head? = some (UInt8.ofNat nu)) := by
            show _ = _
            rw [HTL.out, head_some htp', hcu, ← (u8_eq hnu256).2 hnu]
          by_cases hu46 : nu = 46
          · have hu : t.data.toList.tail.head? = some 46 := by rw [hu46] at HHU; exact HHU.out
            have HU := Lib.hid hu
            have p2 : ((nu : Int) != 46) = false := by rw [bne_eq_false_iff_eq]; omega
            have hlt2 := tail_line HT.out HH46.out HTL.out (by rw [← HTL.out]; exact hu)
            clear hu46 hu
            by_cases hl0 : st.l.length = 0
            · have HBAD := Lib.hid (bad_at HIL.out HF.out HX.out (HSM.out.trans (more_no1 (List.eq_nil_of_length_eq_zero hl0))))
              have q1 : ((st.l.length : Int) == 0) = true := by rw [beq_iff_eq]; omega
              clear hl0
              have RC9 := Lib.hid (HRC.out _ HBS.out)
              have hat := HAT.out _ HBS.out
              have hrl2 := blk_lt hat
              have g0 := cell_two0 hat
              have g1 := cell_two1 hat
              have HUPX := Lib.hid (HUP.out _ HBS.out)
              clear hat
              go_wp2_with fail
              refine wp_region_still_tail 2 (by kernel_rfl) (by kernel_rfl) ?_
              simp only [List.take_succ_cons, List.take_zero, List.drop_succ_cons, List.drop_zero]
              repeat still_step
              refine wpStill_nil ?_
              refine wpList_store_mid rfl 25 _ _ rfl z 0 #[.int .i64 3, .int .i64 i] rfl rfl RC9.out.there2 (by kernel_rfl) (all_oneCell_toArray (cs := [.int .i64 3, .int .i64 i]) (by simp [Value.oneCell'])) ?_
              have HST9 := Lib.hid (RC9.out.set2 (.int .i64 3) (.int .i64 i) HUPX.out HZW.out)
              change wpList _ _ _ _ _ ((W1).drew.setCells z 0 [.int .i64 3, .int .i64 i])
              generalize (W1).drew.setCells z 0 [.int .i64 3, .int .i64 i] = w9 at HST9 ⊢
              clear g0 g1 hrl2
              repeat go_step
              obtain ⟨⟨d0, d1⟩, hb9⟩ := HST9.out
              try simp only [Exit.inBlock, Exit.then]
              refine bodyPost_ret (v := .tuple #[.slice none 0 0, .agg #[.int .i64 3, .int .i64 i]]) (by simp [results, Tryd.results6, go_sem, d0, d1]; try rfl) rfl ?_
              exact rbad_end HLS.out.1 HBAD.out hb9
            have hne : st.l ≠ [] := fun e => hl0 (by rw [e]; rfl)
            have HNE := Lib.hid hne
            have q1 : ((st.l.length : Int) == 0) = false := by rw [beq_eq_false_iff_ne]; omega
            have LC := Lib.hid (rline_calls t' W1 (by omega))
            cases hln : lineS t'
            · rw [hln] at LC hlt2
              have HBAD := Lib.hid (bad_at HIL.out HF.out HX.out (HSM.out.trans (more_no2 hlt2.symm)))
              clear hl0 hne hln hlt2
              go_wp2_with fail
              refine LC.out.mono ?_
              rintro e5 w5 ⟨rfl, hb5⟩
              have HB5 : Hid (Below (r + 1) W1 w5) := by rw [HW1.out] at hb5; exact hb5
              clear hb5 LC
              go_wp2_with fail
              have RC9 := Lib.hid (HRC.out _ HB5.out)
              have hat := HAT.out _ HB5.out
              have hrl2 := blk_lt hat
              have g0 := cell_two0 hat
              have g1 := cell_two1 hat
              have HUPX := Lib.hid (HUP.out _ HB5.out)
              clear hat
              go_wp2_with fail
              refine wp_region_still_tail 2 (by kernel_rfl) (by kernel_rfl) ?_
              simp only [List.take_succ_cons, List.take_zero, List.drop_succ_cons, List.drop_zero]
              repeat still_step
              refine wpStill_nil ?_
              refine wpList_store_mid rfl 25 _ _ rfl z 0 #[.int .i64 3, .int .i64 i] rfl rfl RC9.out.there2 (by kernel_rfl) (all_oneCell_toArray (cs := [.int .i64 3, .int .i64 i]) (by simp [Value.oneCell'])) ?_
              have HST9 := Lib.hid (RC9.out.set2 (.int .i64 3) (.int .i64 i) HUPX.out HZW.out)
              change wpList _ _ _ _ _ ((w5).drew.setCells z 0 [.int .i64 3, .int .i64 i])
              generalize (w5).drew.setCells z 0 [.int .i64 3, .int .i64 i] = w9 at HST9 ⊢
              clear g0 g1 hrl2
              repeat go_step
              obtain ⟨⟨d0, d1⟩, hb9⟩ := HST9.out
              try simp only [Exit.inBlock, Exit.then]
              refine bodyPost_ret (v := .tuple #[.slice none 0 0, .agg #[.int .i64 3, .int .i64 i]]) (by simp [results, Tryd.results6, go_sem, d0, d1]; try rfl) rfl ?_
              exact rbad_end HLS.out.1 HBAD.out hb9
            rw [hln] at LC hlt2
            have HALL := Lib.hid hlt2.symm
            have HST := Lib.hid (fold_next HIL.out HF.out HX.out (HSM.out.trans (by have h := more_dot HNE.out HALL.out HH46.out HU.out; rw [HTL.out] at h; exact h)))
            clear hl0 hne hln hlt2
            go_wp2_with fail
            refine LC.out.mono ?_
            rintro e5 w5 ⟨rfl, hb5⟩
            have HB5 : Hid (Below (r + 1) W1 w5) := by rw [HW1.out] at hb5; exact hb5
            clear hb5 LC
            obtain ⟨gg, cc, hform, hgB, hlc, hcm, hgl⟩ := (HP1.out.keep (by rw [HW1.out]; exact HB5.out)).form HNE.out
            obtain ⟨rfl, rfl⟩ : la = some ⟨gg, 0, none⟩ ∧ lc = cc := by cases hform; exact ⟨rfl, rfl⟩
            have HP5 := Lib.hid (HP1.out.keep (by rw [HW1.out]; exact HB5.out))
            obtain ⟨k0, k1⟩ := HP5.out.last_cells HNE.out
            have hlp : 0 < st.l.length := List.length_pos_iff.2 HNE.out
            obtain ⟨lm, hlm⟩ : ∃ lm, st.l.length - 1 = lm := ⟨_, rfl⟩
            have hlm1 : ((st.l.length : Nat) : Int) - 1 = ((lm : Nat) : Int) := by omega
            have hlm2 : lm < st.l.length := by omega
            obtain ⟨lv0, hlv0⟩ : ∃ lv0, (st.l.getLastD default).2 = lv0 := ⟨_, rfl⟩
            have hsz9 : lv0.size ≤ 20001 := by
              rw [← hlv0, lastD_eq HNE.out]
              exact Nat.le_trans (HGS.out.sz _ (List.getLast_mem HNE.out)).2 (by omega)
            have HLN := HP5.out.line HNE.out t'.data.toList (by
              rw [hlv0, ByteArray.size_append, ofL_size', List.length_cons]
              have e9 : t'.data.toList.length = t'.size := rfl
              omega)
            have eTX : lv0 ++ (⟨#[10]⟩ ++ t') = lv0 ++ ofL (10 :: t'.data.toList) := by
              congr 1
            rw [hlv0, hlm, ← eTX] at HLN
            rw [hlm, hlv0] at k0
            rw [hlm] at k1
            replace HLN := Lib.hid HLN
            have HBE : Hid (Below Bq w2 (w5.setCell ⟨gg, lm * 2 + 1, none⟩ (.string (lv0 ++ (⟨#[10]⟩ ++ t'))))) := (HUP2.out _ HB5.out).setCell (p := ⟨gg, lm * 2 + 1, none⟩) hgB _
            clear hform hlv0 eTX hlm
            go_wp2_with fail
            go_roundg (nl - (i + 1))
            case rel => exact ⟨i + 1, _, _, _, _, rfl, rfl, by go_num, by omega, rfl, HST.out, HLN.out, HBE.out⟩
            case measure => have := Hk.out; omega
          · have hu : ¬ t.data.toList.tail.head? = some 46 := fun e => by
              rw [HHU.out] at e
              injection e with e
              have := congrArg UInt8.toNat e
              rw [UInt8.toNat_ofNat'] at this
              exact hu46 (by have h46 : (46 : UInt8).toNat = 46 := rfl; omega)
            have p2 : ((nu : Int) != 46) = true := by rw [bne_iff_ne]; omega
            have HBAD := Lib.hid (bad_at HIL.out HF.out HX.out (HSM.out.trans (more_bad HH46.out hu)))
            clear hu46 hu
            have RC9 := Lib.hid (HRC.out _ HBS.out)
            have hat := HAT.out _ HBS.out
            have hrl2 := blk_lt hat
            have g0 := cell_two0 hat
            have g1 := cell_two1 hat
            have HUPX := Lib.hid (HUP.out _ HBS.out)
            clear hat
            go_wp2_with fail
            refine wp_region_still_tail 2 (by kernel_rfl) (by kernel_rfl) ?_
            simp only [List.take_succ_cons, List.take_zero, List.drop_succ_cons, List.drop_zero]
            repeat still_step
            refine wpStill_nil ?_
            refine wpList_store_mid rfl 25 _ _ rfl z 0 #[.int .i64 3, .int .i64 i] rfl rfl RC9.out.there2 (by kernel_rfl) (all_oneCell_toArray (cs := [.int .i64 3, .int .i64 i]) (by simp [Value.oneCell'])) ?_
            have HST9 := Lib.hid (RC9.out.set2 (.int .i64 3) (.int .i64 i) HUPX.out HZW.out)
            change wpList _ _ _ _ _ ((W1).drew.setCells z 0 [.int .i64 3, .int .i64 i])
            generalize (W1).drew.setCells z 0 [.int .i64 3, .int .i64 i] = w9 at HST9 ⊢
            clear g0 g1 hrl2
            repeat go_step
            obtain ⟨⟨d0, d1⟩, hb9⟩ := HST9.out
            try simp only [Exit.inBlock, Exit.then]
            refine bodyPost_ret (v := .tuple #[.slice none 0 0, .agg #[.int .i64 3, .int .i64 i]]) (by simp [results, Tryd.results6, go_sem, d0, d1]; try rfl) rfl ?_
            exact rbad_end HLS.out.1 HBAD.out hb9
        · have HN46 : Hid (¬ t.data.toList.head? = some 46) := fun e => by
            rw [HH.out] at e
            injection e with e
            have := congrArg UInt8.toNat e
            rw [UInt8.toNat_ofNat'] at this
            exact h46 (by have h46' : (46 : UInt8).toNat = 46 := rfl; omega)
          have p1 : ((nt : Int) == 46) = false := by rw [beq_eq_false_iff_ne]; omega
          have hlt2 : lineS t = t.data.toList.all lineC := by rw [← HT.out]; exact lineS_trim x
          clear h46
          by_cases hl0 : st.l.length = 0
          · have HBAD := Lib.hid (bad_at HIL.out HF.out HX.out (HSM.out.trans (more_no1 (List.eq_nil_of_length_eq_zero hl0))))
            have q1 : ((st.l.length : Int) == 0) = true := by rw [beq_iff_eq]; omega
            clear hl0
            have RC9 := Lib.hid (HRC.out _ HBS.out)
            have hat := HAT.out _ HBS.out
            have hrl2 := blk_lt hat
            have g0 := cell_two0 hat
            have g1 := cell_two1 hat
            have HUPX := Lib.hid (HUP.out _ HBS.out)
            clear hat
            go_wp2_with fail
            refine wp_region_still_tail 2 (by kernel_rfl) (by kernel_rfl) ?_
            simp only [List.take_succ_cons, List.take_zero, List.drop_succ_cons, List.drop_zero]
            repeat still_step
            refine wpStill_nil ?_
            refine wpList_store_mid rfl 25 _ _ rfl z 0 #[.int .i64 3, .int .i64 i] rfl rfl RC9.out.there2 (by kernel_rfl) (all_oneCell_toArray (cs := [.int .i64 3, .int .i64 i]) (by simp [Value.oneCell'])) ?_
            have HST9 := Lib.hid (RC9.out.set2 (.int .i64 3) (.int .i64 i) HUPX.out HZW.out)
            change wpList _ _ _ _ _ ((W1).drew.setCells z 0 [.int .i64 3, .int .i64 i])
            generalize (W1).drew.setCells z 0 [.int .i64 3, .int .i64 i] = w9 at HST9 ⊢
            clear g0 g1 hrl2
            repeat go_step
            obtain ⟨⟨d0, d1⟩, hb9⟩ := HST9.out
            try simp only [Exit.inBlock, Exit.then]
            refine bodyPost_ret (v := .tuple #[.slice none 0 0, .agg #[.int .i64 3, .int .i64 i]]) (by simp [results, Tryd.results6, go_sem, d0, d1]; try rfl) rfl ?_
            exact rbad_end HLS.out.1 HBAD.out hb9
          have hne : st.l ≠ [] := fun e => hl0 (by rw [e]; rfl)
          have HNE := Lib.hid hne
          have q1 : ((st.l.length : Int) == 0) = false := by rw [beq_eq_false_iff_ne]; omega
          have LC := Lib.hid (rline_calls t W1 (by omega))
          cases hln : lineS t
          · rw [hln] at LC hlt2
            have HBAD := Lib.hid (bad_at HIL.out HF.out HX.out (HSM.out.trans (more_no2 hlt2.symm)))
            clear hl0 hne hln hlt2
            go_wp2_with fail
            refine LC.out.mono ?_
            rintro e5 w5 ⟨rfl, hb5⟩
            have HB5 : Hid (Below (r + 1) W1 w5) := by rw [HW1.out] at hb5; exact hb5
            clear hb5 LC
            go_wp2_with fail
            have RC9 := Lib.hid (HRC.out _ HB5.out)
            have hat := HAT.out _ HB5.out
            have hrl2 := blk_lt hat
            have g0 := cell_two0 hat
            have g1 := cell_two1 hat
            have HUPX := Lib.hid (HUP.out _ HB5.out)
            clear hat
            go_wp2_with fail
            refine wp_region_still_tail 2 (by kernel_rfl) (by kernel_rfl) ?_
            simp only [List.take_succ_cons, List.take_zero, List.drop_succ_cons, List.drop_zero]
            repeat still_step
            refine wpStill_nil ?_
            refine wpList_store_mid rfl 25 _ _ rfl z 0 #[.int .i64 3, .int .i64 i] rfl rfl RC9.out.there2 (by kernel_rfl) (all_oneCell_toArray (cs := [.int .i64 3, .int .i64 i]) (by simp [Value.oneCell'])) ?_
            have HST9 := Lib.hid (RC9.out.set2 (.int .i64 3) (.int .i64 i) HUPX.out HZW.out)
            change wpList _ _ _ _ _ ((w5).drew.setCells z 0 [.int .i64 3, .int .i64 i])
            generalize (w5).drew.setCells z 0 [.int .i64 3, .int .i64 i] = w9 at HST9 ⊢
            clear g0 g1 hrl2
            repeat go_step
            obtain ⟨⟨d0, d1⟩, hb9⟩ := HST9.out
            try simp only [Exit.inBlock, Exit.then]
            refine bodyPost_ret (v := .tuple #[.slice none 0 0, .agg #[.int .i64 3, .int .i64 i]]) (by simp [results, Tryd.results6, go_sem, d0, d1]; try rfl) rfl ?_
            exact rbad_end HLS.out.1 HBAD.out hb9
          rw [hln] at LC hlt2
          have HALL := Lib.hid hlt2.symm
          have HST := Lib.hid (fold_next HIL.out HF.out HX.out (HSM.out.trans (more_plain HNE.out HALL.out HN46.out)))
          clear hl0 hne hln hlt2
          go_wp2_with fail
          refine LC.out.mono ?_
          rintro e5 w5 ⟨rfl, hb5⟩
          have HB5 : Hid (Below (r + 1) W1 w5) := by rw [HW1.out] at hb5; exact hb5
          clear hb5 LC
          obtain ⟨gg, cc, hform, hgB, hlc, hcm, hgl⟩ := (HP1.out.keep (by rw [HW1.out]; exact HB5.out)).form HNE.out
          obtain ⟨rfl, rfl⟩ : la = some ⟨gg, 0, none⟩ ∧ lc = cc := by cases hform; exact ⟨rfl, rfl⟩
          have HP5 := Lib.hid (HP1.out.keep (by rw [HW1.out]; exact HB5.out))
          obtain ⟨k0, k1⟩ := HP5.out.last_cells HNE.out
          have hlp : 0 < st.l.length := List.length_pos_iff.2 HNE.out
          obtain ⟨lm, hlm⟩ : ∃ lm, st.l.length - 1 = lm := ⟨_, rfl⟩
          have hlm1 : ((st.l.length : Nat) : Int) - 1 = ((lm : Nat) : Int) := by omega
          have hlm2 : lm < st.l.length := by omega
          obtain ⟨lv0, hlv0⟩ : ∃ lv0, (st.l.getLastD default).2 = lv0 := ⟨_, rfl⟩
          have hsz9 : lv0.size ≤ 20001 := by
            rw [← hlv0, lastD_eq HNE.out]
            exact Nat.le_trans (HGS.out.sz _ (List.getLast_mem HNE.out)).2 (by omega)
          have HLN := HP5.out.line HNE.out t.data.toList (by
            rw [hlv0, ByteArray.size_append, ofL_size', List.length_cons]
            have e9 : t.data.toList.length = t.size := rfl
            omega)
          have eTX : lv0 ++ (⟨#[10]⟩ ++ t) = lv0 ++ ofL (10 :: t.data.toList) := by
            congr 1
          rw [hlv0, hlm, ← eTX] at HLN
          rw [hlm, hlv0] at k0
          rw [hlm] at k1
          replace HLN := Lib.hid HLN
          have HBE : Hid (Below Bq w2 (w5.setCell ⟨gg, lm * 2 + 1, none⟩ (.string (lv0 ++ (⟨#[10]⟩ ++ t))))) := (HUP2.out _ HB5.out).setCell (p := ⟨gg, lm * 2 + 1, none⟩) hgB _
          clear hform hlv0 eTX hlm
          go_wp2_with fail
          go_roundg (nl - (i + 1))
          case rel => exact ⟨i + 1, _, _, _, _, rfl, rfl, by go_num, by omega, rfl, HST.out, HLN.out, HBE.out⟩
          case measure => have := Hk.out; omega
      have HSM := Lib.hid (stepP_field (st := st) h35 HTN.out (by rw [head_at x hx0, hxc]; exact hbl))
      have BL := blank_calls c W1
      rw [hbl, hn] at BL
      replace BL := Lib.hid BL
      have HBS : Hid (Below (r + 1) W1 W1) := Below.refl _ _
      clear hbl
      have IX := Tryd.strings_Index_one x 58 W1
      rw [← Lib.index_one] at IX
      rcases parts1 58 x.data.toList with ⟨hno, hix⟩ | ⟨a, b, hxe, hno, hix⟩
      · have hfe := fieldP_eq (st := st) (cut_no hno)
        have HBAD := Lib.hid (bad_at HIL.out HF.out HX.out (HSM.out.trans (hfe.trans (if_neg (by simp)))))
        rw [hix] at IX
        replace IX := Lib.hid IX
        clear hno hix hfe
        go_wp2_with fail
        refine TC.out.mono ?_
        rintro e3 w3 ⟨rfl, hw3⟩
        obtain rfl : W1 = w3 := hw3
        clear TC
        go_wp2_with fail
        refine BL.out.mono ?_
        rintro e4 w4 ⟨rfl, hw4⟩
        obtain rfl : W1 = w4 := hw4
        clear BL
        go_wp2_with fail
        refine IX.out.mono ?_
        rintro e5 w5 ⟨rfl, hw5⟩
        obtain rfl : W1 = w5 := hw5.symm
        clear IX
        have RC9 := Lib.hid (HRC.out _ HBS.out)
        have hat := HAT.out _ HBS.out
        have hrl2 := blk_lt hat
        have g0 := cell_two0 hat
        have g1 := cell_two1 hat
        have HUPX := Lib.hid (HUP.out _ HBS.out)
        clear hat
        go_wp2_with fail
        refine wp_region_still_tail 2 (by kernel_rfl) (by kernel_rfl) ?_
        simp only [List.take_succ_cons, List.take_zero, List.drop_succ_cons, List.drop_zero]
        repeat still_step
        refine wpStill_nil ?_
        refine wpList_store_mid rfl 25 _ _ rfl z 0 #[.int .i64 3, .int .i64 i] rfl rfl RC9.out.there2 (by kernel_rfl) (all_oneCell_toArray (cs := [.int .i64 3, .int .i64 i]) (by simp [Value.oneCell'])) ?_
        have HST9 := Lib.hid (RC9.out.set2 (.int .i64 3) (.int .i64 i) HUPX.out HZW.out)
        change wpList _ _ _ _ _ ((W1).drew.setCells z 0 [.int .i64 3, .int .i64 i])
        generalize (W1).drew.setCells z 0 [.int .i64 3, .int .i64 i] = w9 at HST9 ⊢
        clear g0 g1 hrl2
        repeat go_step
        obtain ⟨⟨d0, d1⟩, hb9⟩ := HST9.out
        try simp only [Exit.inBlock, Exit.then]
        refine bodyPost_ret (v := .tuple #[.slice none 0 0, .agg #[.int .i64 3, .int .i64 i]]) (by simp [results, Tryd.results6, go_sem, d0, d1]; try rfl) rfl ?_
        exact rbad_end HLS.out.1 HBAD.out hb9
      have hcut : Lib.cut x.data.toList [58] = (a, b, true) := by rw [hxe]; exact cut_hit hno
      have hfe := fieldP_eq (st := st) hcut
      obtain ⟨A, hA⟩ : ∃ A, ofL a = A := ⟨_, rfl⟩
      obtain ⟨Bb, hBb⟩ : ∃ Bb, ofL b = Bb := ⟨_, rfl⟩
      obtain ⟨T, hT⟩ : ∃ T, trimB Bb = T := ⟨_, rfl⟩
      obtain ⟨p, hp⟩ : ∃ p, a.length = p := ⟨_, rfl⟩
      have hxl : x.size = p + 1 + Bb.size := by
        have e1 : x.size = x.data.toList.length := rfl
        have e2 : Bb.size = b.length := by rw [← hBb]; rfl
        rw [e1, hxe, List.length_append, List.length_cons, hp, e2]
        omega
      have hAs : A.size = p := by rw [← hA, ← hp]; rfl
      have hTs : T.size ≤ Bb.size := by rw [← hT]; exact trimB_le Bb
      have hxA : x.extract 0 p = A := by
        rw [← hA]
        refine ofL_ext ?_
        rw [Lib.extract_data, hxe, ← hp]
        simp
      have hxB : x.extract (p + 1) x.size = Bb := by
        rw [← hBb]
        refine ofL_ext ?_
        rw [Lib.extract_to_end, hxe, ← hp, ← List.drop_drop]
        simp
      rw [hA, hBb, hT] at hfe
      rw [hix, hp] at IX
      replace IX := Lib.hid IX
      have HFE := Lib.hid (HSM.out.trans hfe)
      have RT : Hid (∀ w', Calls Tryd.prog 26 #[.string Bb] w' fun e w'' => e = .returned (.string T) ∧ w' = w'') := fun w' => by
        rw [← hT]
        exact rtrim_calls Bb w' (by omega)
      have NC := Lib.hid (rname_calls A W1 (by omega))
      have LC := Lib.hid (rline_calls T W1 (by omega))
      obtain ⟨pk, hpk⟩ : ∃ pk, p + 1 = pk := ⟨_, rfl⟩
      rw [hpk] at hxB
      have eI : ((p : Nat) : Int) + 1 = ((pk : Nat) : Int) := by omega
      have eW : IntKind.i64.wrap ((pk : Nat) : Int) = ((pk : Nat) : Int) := by rw [IntKind.wrap_i64]; omega
      have hpx : pk ≤ x.size := by omega
      have hp1 : p ≤ x.size := by omega
      have hpb : p ≤ 20002 := by omega
      have hAb : A.size ≤ 20002 := by omega
      have hTb : T.size ≤ 20002 := by omega
      have hxb : x.size ≤ 20002 := by omega
      clear hno hix hfe hA hBb hT hp hxe hxl hAs hTs hcut hpk
      go_wp2_with fail
      refine TC.out.mono ?_
      rintro e3 w3 ⟨rfl, hw3⟩
      obtain rfl : W1 = w3 := hw3
      clear TC
      go_wp2_with fail
      refine BL.out.mono ?_
      rintro e4 w4 ⟨rfl, hw4⟩
      obtain rfl : W1 = w4 := hw4
      clear BL
      go_wp2_with fail
      refine IX.out.mono ?_
      rintro e5 w5 ⟨rfl, hw5⟩
      obtain rfl : W1 = w5 := hw5.symm
      clear IX
      have hk0 : decide (((p : Nat) : Int) < 0) = false := decide_eq_false (by omega)
      cases hnm : nameS A
      · rw [hnm] at NC
        have HBAD := Lib.hid (bad_at HIL.out HF.out HX.out (HFE.out.trans (if_neg (by rw [hnm]; simp))))
        clear hnm
        go_wp2_with fail
        refine NC.out.mono ?_
        rintro e6 w6 ⟨rfl, hw6⟩
        obtain rfl : W1 = w6 := hw6
        clear NC
        go_wp2_with fail
        have RC9 := Lib.hid (HRC.out _ HBS.out)
        have hat := HAT.out _ HBS.out
        have hrl2 := blk_lt hat
        have g0 := cell_two0 hat
        have g1 := cell_two1 hat
        have HUPX := Lib.hid (HUP.out _ HBS.out)
        clear hat
        go_wp2_with fail
        refine wp_region_still_tail 2 (by kernel_rfl) (by kernel_rfl) ?_
        simp only [List.take_succ_cons, List.take_zero, List.drop_succ_cons, List.drop_zero]
        repeat still_step
        refine wpStill_nil ?_
        refine wpList_store_mid rfl 25 _ _ rfl z 0 #[.int .i64 3, .int .i64 i] rfl rfl RC9.out.there2 (by kernel_rfl) (all_oneCell_toArray (cs := [.int .i64 3, .int .i64 i]) (by simp [Value.oneCell'])) ?_
        have HST9 := Lib.hid (RC9.out.set2 (.int .i64 3) (.int .i64 i) HUPX.out HZW.out)
        change wpList _ _ _ _ _ ((W1).drew.setCells z 0 [.int .i64 3, .int .i64 i])
        generalize (W1).drew.setCells z 0 [.int .i64 3, .int .i64 i] = w9 at HST9 ⊢
        clear g0 g1 hrl2
        repeat go_step
        obtain ⟨⟨d0, d1⟩, hb9⟩ := HST9.out
        try simp only [Exit.inBlock, Exit.then]
        refine bodyPost_ret (v := .tuple #[.slice none 0 0, .agg #[.int .i64 3, .int .i64 i]]) (by simp [results, Tryd.results6, go_sem, d0, d1]; try rfl) rfl ?_
        exact rbad_end HLS.out.1 HBAD.out hb9
      rw [hnm] at NC
      cases hln : lineS T
      · rw [hln] at LC
        have HBAD := Lib.hid (bad_at HIL.out HF.out HX.out (HFE.out.trans (if_neg (by rw [hnm, hln]; simp))))
        clear hnm hln
        go_wp2_with fail
        refine NC.out.mono ?_
        rintro e6 w6 ⟨rfl, hw6⟩
        obtain rfl : W1 = w6 := hw6
        clear NC
        go_wp2_with fail
        refine (RT.out W1).mono ?_
        rintro e7 w7 ⟨rfl, hw7⟩
        obtain rfl : W1 = w7 := hw7
        go_wp2_with fail
        refine LC.out.mono ?_
        rintro e8 w8 ⟨rfl, hb8⟩
        have HB8 : Hid (Below (r + 1) W1 w8) := by rw [HW1.out] at hb8; exact hb8
        clear hb8 LC
        go_wp2_with fail
        have RC9 := Lib.hid (HRC.out _ HB8.out)
        have hat := HAT.out _ HB8.out
        have hrl2 := blk_lt hat
        have g0 := cell_two0 hat
        have g1 := cell_two1 hat
        have HUPX := Lib.hid (HUP.out _ HB8.out)
        clear hat
        go_wp2_with fail
        refine wp_region_still_tail 2 (by kernel_rfl) (by kernel_rfl) ?_
        simp only [List.take_succ_cons, List.take_zero, List.drop_succ_cons, List.drop_zero]
        repeat still_step
        refine wpStill_nil ?_
        refine wpList_store_mid rfl 25 _ _ rfl z 0 #[.int .i64 3, .int .i64 i] rfl rfl RC9.out.there2 (by kernel_rfl) (all_oneCell_toArray (cs := [.int .i64 3, .int .i64 i]) (by simp [Value.oneCell'])) ?_
        have HST9 := Lib.hid (RC9.out.set2 (.int .i64 3) (.int .i64 i) HUPX.out HZW.out)
        change wpList _ _ _ _ _ ((w8).drew.setCells z 0 [.int .i64 3, .int .i64 i])
        generalize (w8).drew.setCells z 0 [.int .i64 3, .int .i64 i] = w9 at HST9 ⊢
        clear g0 g1 hrl2
        repeat go_step
        obtain ⟨⟨d0, d1⟩, hb9⟩ := HST9.out
        try simp only [Exit.inBlock, Exit.then]
        refine bodyPost_ret (v := .tuple #[.slice none 0 0, .agg #[.int .i64 3, .int .i64 i]]) (by simp [results, Tryd.results6, go_sem, d0, d1]; try rfl) rfl ?_
        exact rbad_end HLS.out.1 HBAD.out hb9
      rw [hln] at LC
      by_cases h40 : st.l.length = 40
      · have HBAD := Lib.hid (bad_at HIL.out HF.out HX.out (HFE.out.trans (if_neg (by rw [hnm, hln, decide_eq_false (show ¬ st.l.length < 40 by omega)]; simp))))
        have p1 : ((st.l.length : Int) == 40) = true := by rw [beq_iff_eq]; omega
        clear hnm hln h40
        go_wp2_with fail
        refine NC.out.mono ?_
        rintro e6 w6 ⟨rfl, hw6⟩
        obtain rfl : W1 = w6 := hw6
        clear NC
        go_wp2_with fail
        refine (RT.out W1).mono ?_
        rintro e7 w7 ⟨rfl, hw7⟩
        obtain rfl : W1 = w7 := hw7
        go_wp2_with fail
        refine LC.out.mono ?_
        rintro e8 w8 ⟨rfl, hb8⟩
        have HB8 : Hid (Below (r + 1) W1 w8) := by rw [HW1.out] at hb8; exact hb8
        clear hb8 LC
        go_wp2_with fail
        have RC9 := Lib.hid (HRC.out _ HB8.out)
        have hat := HAT.out _ HB8.out
        have hrl2 := blk_lt hat
        have g0 := cell_two0 hat
        have g1 := cell_two1 hat
        have HUPX := Lib.hid (HUP.out _ HB8.out)
        clear hat
        go_wp2_with fail
        refine wp_region_still_tail 2 (by kernel_rfl) (by kernel_rfl) ?_
        simp only [List.take_succ_cons, List.take_zero, List.drop_succ_cons, List.drop_zero]
        repeat still_step
        refine wpStill_nil ?_
        refine wpList_store_mid rfl 25 _ _ rfl z 0 #[.int .i64 3, .int .i64 i] rfl rfl RC9.out.there2 (by kernel_rfl) (all_oneCell_toArray (cs := [.int .i64 3, .int .i64 i]) (by simp [Value.oneCell'])) ?_
        have HST9 := Lib.hid (RC9.out.set2 (.int .i64 3) (.int .i64 i) HUPX.out HZW.out)
        change wpList _ _ _ _ _ ((w8).drew.setCells z 0 [.int .i64 3, .int .i64 i])
        generalize (w8).drew.setCells z 0 [.int .i64 3, .int .i64 i] = w9 at HST9 ⊢
        clear g0 g1 hrl2
        repeat go_step
        obtain ⟨⟨d0, d1⟩, hb9⟩ := HST9.out
        try simp only [Exit.inBlock, Exit.then]
        refine bodyPost_ret (v := .tuple #[.slice none 0 0, .agg #[.int .i64 3, .int .i64 i]]) (by simp [results, Tryd.results6, go_sem, d0, d1]; try rfl) rfl ?_
        exact rbad_end HLS.out.1 HBAD.out hb9
      have p1 : ((st.l.length : Int) == 40) = false := by rw [beq_eq_false_iff_ne]; omega
      obtain ⟨gx, hgx⟩ : ∃ gx, (getF st.l A).1 = gx := ⟨_, rfl⟩
      obtain ⟨an, han⟩ : ∃ an, st.l.any (sameN A) = an := ⟨_, rfl⟩
      have GC : Hid (∀ w', Below (r + 1) W1 w' → Calls Tryd.prog 13 #[.slice la st.l.length lc, .string A] w' fun e w'' => e = .returned (.tuple #[.string gx, .bool an]) ∧ Below w'.heap.size w' w'') := fun w' hb => by
        have h := rget_calls _ st.l A w' (HP1.out.keep (by rw [HW1.out]; exact hb)).flds (by omega)
        rw [getF_any, hgx, han] at h
        exact h
      clear hgx
      cases an
      case' true =>
        have HBAD := Lib.hid (bad_at HIL.out HF.out HX.out (HFE.out.trans (if_neg (by rw [han]; simp))))
        clear hnm hln han h40
        go_wp2_with fail
        refine NC.out.mono ?_
        rintro e6 w6 ⟨rfl, hw6⟩
        obtain rfl : W1 = w6 := hw6
        clear NC
        go_wp2_with fail
        refine (RT.out W1).mono ?_
        rintro e7 w7 ⟨rfl, hw7⟩
        obtain rfl : W1 = w7 := hw7
        go_wp2_with fail
        refine LC.out.mono ?_
        rintro e8 w8 ⟨rfl, hb8⟩
        have HB8 : Hid (Below (r + 1) W1 w8) := by rw [HW1.out] at hb8; exact hb8
        clear hb8 LC
        go_wp2_with fail
        refine (GC.out w8 HB8.out).mono ?_
        rintro e9 w9 ⟨rfl, hb9⟩
        have HB9 : Hid (Below (r + 1) W1 w9) := HB8.out.trans (hb9.mono (by have := HB8.out.size; rw [HW1.out] at this; exact this))
        clear hb9 GC
        go_wp2_with fail
        have RC9 := Lib.hid (HRC.out _ HB9.out)
        have hat := HAT.out _ HB9.out
        have hrl2 := blk_lt hat
        have g0 := cell_two0 hat
        have g1 := cell_two1 hat
        have HUPX := Lib.hid (HUP.out _ HB9.out)
        clear hat
        go_wp2_with fail
        refine wp_region_still_tail 2 (by kernel_rfl) (by kernel_rfl) ?_
        simp only [List.take_succ_cons, List.take_zero, List.drop_succ_cons, List.drop_zero]
        repeat still_step
        refine wpStill_nil ?_
        refine wpList_store_mid rfl 25 _ _ rfl z 0 #[.int .i64 3, .int .i64 i] rfl rfl RC9.out.there2 (by kernel_rfl) (all_oneCell_toArray (cs := [.int .i64 3, .int .i64 i]) (by simp [Value.oneCell'])) ?_
        have HST9 := Lib.hid (RC9.out.set2 (.int .i64 3) (.int .i64 i) HUPX.out HZW.out)
        change wpList _ _ _ _ _ ((w9).drew.setCells z 0 [.int .i64 3, .int .i64 i])
        generalize (w9).drew.setCells z 0 [.int .i64 3, .int .i64 i] = w9 at HST9 ⊢
        clear g0 g1 hrl2
        repeat go_step
        obtain ⟨⟨d0, d1⟩, hb9⟩ := HST9.out
        try simp only [Exit.inBlock, Exit.then]
        refine bodyPost_ret (v := .tuple #[.slice none 0 0, .agg #[.int .i64 3, .int .i64 i]]) (by simp [results, Tryd.results6, go_sem, d0, d1]; try rfl) rfl ?_
        exact rbad_end HLS.out.1 HBAD.out hb9
      have HST := Lib.hid (fold_next HIL.out HF.out HX.out (HFE.out.trans (if_pos (by rw [hnm, hln, han, decide_eq_true (show st.l.length < 40 by omega)]; rfl))))
      clear hnm hln han h40
      go_wp2_with fail
      refine NC.out.mono ?_
      rintro e6 w6 ⟨rfl, hw6⟩
      obtain rfl : W1 = w6 := hw6
      clear NC
      go_wp2_with fail
      refine (RT.out W1).mono ?_
      rintro e7 w7 ⟨rfl, hw7⟩
      obtain rfl : W1 = w7 := hw7
      go_wp2_with fail
      refine LC.out.mono ?_
      rintro e8 w8 ⟨rfl, hb8⟩
      have HB8 : Hid (Below (r + 1) W1 w8) := by rw [HW1.out] at hb8; exact hb8
      clear hb8 LC
      go_wp2_with fail
      refine (GC.out w8 HB8.out).mono ?_
      rintro e9 w9 ⟨rfl, hb9⟩
      have HB9 : Hid (Below (r + 1) W1 w9) := HB8.out.trans (hb9.mono (by have := HB8.out.size; rw [HW1.out] at this; exact this))
      clear hb9 GC
      have HP9 := Lib.hid (HP1.out.keep (by rw [HW1.out]; exact HB9.out))
      have HBE := Lib.hid (HUP2.out _ HB9.out)
      have hz9 : Bq ≤ w9.heap.size := by have := HBE.out.size; rw [HBq.out] at this; exact this
      have HPa : Hid (PW Bq (w9.alloc (.cells #[.string A, .string T] 48)).drew (.slice oa qs.length oc) (.slice la st.l.length lc) qs st) := HP9.out.keep ((Below.refl _ _).alloc (Nat.le_refl _) _).drew
      go_upto_region 27 with fail
      refine wp_region_held_drew (S := (fun w' => Below Bq w2 w')) (by kernel_rfl) ?_ (fun hHeld => ?_)
      · exact HBE.out.drew
      refine wpAnyH_take (i := 0) (oi := _) (v := .slice la st.l.length lc) rfl (by kernel_rfl) (by kernel_rfl) (by kernel_rfl) (fun _ _ _ h => h) (Or.inl ⟨by kernel_rfl, fun w hSw => ?_⟩) hHeld ?_
      · (try dsimp only at hSw); go_simp
      try simp only [Act.put, List.getElem_toArray, List.getElem_cons_zero, List.setIfInBounds_toArray, List.set_cons_zero, List.set_cons_succ]
      refine wpAnyH_take (i := 1) (oi := _) (v := .string x) rfl (by kernel_rfl) (by kernel_rfl) (by kernel_rfl) (fun _ _ _ h => h) (Or.inl ⟨by kernel_rfl, fun w hSw => ?_⟩) hHeld ?_
      · (try dsimp only at hSw); go_simp
      try simp only [Act.put, List.getElem_toArray, List.getElem_cons_succ, List.getElem_cons_zero, List.setIfInBounds_toArray, List.set_cons_zero, List.set_cons_succ]
      refine wpAnyH_take (i := 2) (oi := _) (v := .int .i64 ((p : Nat) : Int)) rfl (by kernel_rfl) (by kernel_rfl) (by kernel_rfl) (fun _ _ _ h => h) (Or.inl ⟨by kernel_rfl, fun w hSw => ?_⟩) hHeld ?_
      · (try dsimp only at hSw); go_simp
      try simp only [Act.put, List.getElem_toArray, List.getElem_cons_succ, List.getElem_cons_zero, List.setIfInBounds_toArray, List.set_cons_zero, List.set_cons_succ]
      refine wpAnyH_take (i := 3) (oi := _) (v := .string A) rfl (by kernel_rfl) (by kernel_rfl) (by kernel_rfl) (fun _ _ _ h => h) (Or.inl ⟨by kernel_rfl, fun w hSw => ?_⟩) hHeld ?_
      · (try dsimp only at hSw); go_simp
      try simp only [Act.put, List.getElem_toArray, List.getElem_cons_succ, List.getElem_cons_zero, List.setIfInBounds_toArray, List.set_cons_zero, List.set_cons_succ]
      refine wpAnyH_take (i := 4) (oi := _) (v := .string x) rfl (by kernel_rfl) (by kernel_rfl) (by kernel_rfl) (fun _ _ _ h => h) (Or.inl ⟨by kernel_rfl, fun w hSw => ?_⟩) hHeld ?_
      · (try dsimp only at hSw); go_simp
      try simp only [Act.put, List.getElem_toArray, List.getElem_cons_succ, List.getElem_cons_zero, List.setIfInBounds_toArray, List.set_cons_zero, List.set_cons_succ]
      refine wpAnyH_take (i := 5) (oi := _) (v := .int .i64 ((p : Nat) : Int)) rfl (by kernel_rfl) (by kernel_rfl) (by kernel_rfl) (fun _ _ _ h => h) (Or.inl ⟨by kernel_rfl, fun w hSw => ?_⟩) hHeld ?_
      · (try dsimp only at hSw); go_simp
      try simp only [Act.put, List.getElem_toArray, List.getElem_cons_succ, List.getElem_cons_zero, List.setIfInBounds_toArray, List.set_cons_zero, List.set_cons_succ]
      refine wpAnyH_take (i := 6) (oi := _) (v := .int .i64 ((pk : Nat) : Int)) rfl (by kernel_rfl) (by kernel_rfl) (by kernel_rfl) (fun _ _ _ h => h) (Or.inl ⟨by kernel_rfl, fun w hSw => ?_⟩) hHeld ?_
      · (try dsimp only at hSw); go_simp
      try simp only [Act.put, List.getElem_toArray, List.getElem_cons_succ, List.getElem_cons_zero, List.setIfInBounds_toArray, List.set_cons_zero, List.set_cons_succ]
      refine wpAnyH_take (i := 7) (oi := _) (v := .string Bb) rfl (by kernel_rfl) (by kernel_rfl) (by kernel_rfl) (fun _ _ _ h => h) (Or.inl ⟨by kernel_rfl, fun w hSw => ?_⟩) hHeld ?_
      · (try dsimp only at hSw); go_simp
      try simp only [Act.put, List.getElem_toArray, List.getElem_cons_succ, List.getElem_cons_zero, List.setIfInBounds_toArray, List.set_cons_zero, List.set_cons_succ]
      refine wpAnyH_ready (rs := [8]) (by kernel_rfl) (by simp) ?_
      refine (AllReadyH.cons (o := _) rfl (fun K hK => ?_) AllReadyH.nil)
      go_simp
      go_at_call 26
      refine (RT.out _).mono ?_
      rintro e10 w10 ⟨rfl, hw10⟩
      subst hw10
      refine hK.out _ _ (hHeld) (fun hHeld2 => ?_)
      clear hK K hHeld
      have hHeld := hHeld2
      clear hHeld2
      try simp only [Act.put, List.getElem_toArray, List.getElem_cons_succ, List.getElem_cons_zero, List.setIfInBounds_toArray, List.set_cons_zero, List.set_cons_succ]
      refine wpAnyH_take (i := 9) (oi := _) (v := .agg #[.string A, .string T]) rfl (by kernel_rfl) (by kernel_rfl) (by kernel_rfl) (fun _ _ _ h => h) (Or.inl ⟨by kernel_rfl, fun w hSw => ?_⟩) hHeld ?_
      · (try dsimp only at hSw); go_simp
      try simp only [Act.put, List.getElem_toArray, List.getElem_cons_succ, List.getElem_cons_zero, List.setIfInBounds_toArray, List.set_cons_zero, List.set_cons_succ]
      refine wpAnyH_ready (rs := [10]) (by kernel_rfl) (by simp) ?_
      refine (AllReadyH.cons (o := _) rfl (fun K hK => ?_) AllReadyH.nil)
      go_simp
      refine hK.out _ _ ((HBE.out.alloc hz9 _).drew) (fun hHeld2 => ?_)
      clear hK K hHeld
      have hHeld := hHeld2
      clear hHeld2
      try simp only [Act.put, List.getElem_toArray, List.getElem_cons_succ, List.getElem_cons_zero, List.setIfInBounds_toArray, List.set_cons_zero, List.set_cons_succ]
      refine wpAnyH_ready (rs := [11]) (by kernel_rfl) (by simp) ?_
      refine (AllReadyH.cons (o := _) rfl (fun K hK => ?_) AllReadyH.nil)
      refine step_append_lies _ rfl _ _ 34 rfl Bq 48 i0 _ 2 32 Tryd.underlying34 Hi0.out.1 Hi0.out.2.1 Hi0.out.2.2.1 Hi0.out.2.2.2 rfl (by decide) (.slice la st.l.length lc) st.l.length (cellsF st.l) rfl HPa.out.row ⟨w9.heap.size, 0, none⟩ 1 1 [.string A, .string T] rfl rfl (World.news_of_block (cs := #[.string A, .string T]) (t := 48) (fr := (0, 0)) (heap_alloc_new w9 _)) (by simp [Value.oneCell']) (by decide) (by unfold maxLen; omega) (by omega) (by simp; omega) _ rfl ?_
      intro gg cc w11 hown hgrow hat hlt11
      have HB11 : Hid (Below Bq w2 w11) := ((HBE.out.alloc hz9 (.cells #[.string A, .string T] 48)).drew).grown hgrow (by simp; omega) (fun k e => (HPa.out.row.lt k e).1)
      have HP11 := Lib.hid (HPa.out.add hgrow hown (by rcases hat with h | h; exact Or.inl h.symm; exact Or.inr (by rw [h]; rfl)) ⟨by show A.size ≤ _; omega, by show T.size ≤ _; omega⟩)
      clear hown hgrow hat
      refine hK.out _ _ (HB11.out) (fun hHeld2 => ?_)
      clear hK K hHeld
      have hHeld := hHeld2
      clear hHeld2
      try simp only [Act.put, List.getElem_toArray, List.getElem_cons_succ, List.getElem_cons_zero, List.setIfInBounds_toArray, List.set_cons_zero, List.set_cons_succ]
      refine wpAnyH_take (i := 12) (oi := _) (v := .slice (some ⟨gg, 0, none⟩) (st.l.length + 1) cc) rfl (by kernel_rfl) (by kernel_rfl) (by kernel_rfl) (fun _ _ _ h => h) (Or.inl ⟨by kernel_rfl, fun w hSw => ?_⟩) hHeld ?_
      · (try dsimp only at hSw); go_simp
      try simp only [Act.put, List.getElem_toArray, List.getElem_cons_succ, List.getElem_cons_zero, List.setIfInBounds_toArray, List.set_cons_zero, List.set_cons_succ]
      refine wpAnyH_done (by kernel_rfl) ?_ _
      go_wp2_with fail
      go_roundg (nl - (i + 1))
      case rel => exact ⟨i + 1, _, _, _, _, rfl, rfl, by go_num, by omega, rfl, HST.out, HP11.out, HB11.out⟩
      case measure => have := Hk.out; omega
    · obtain rfl : i = nl := by omega
      have hF := HF.out
      rw [← HLS.out.2, List.take_length, ← HLS.out.1] at hF
      have HPD := Lib.hid (linesE_done hF)
      clear hF
      have RC9 := Lib.hid (HRCw.out _ HB.out)
      have hfn := HFNw.out _ HB.out
      have f0 := hfn.c0
      have f1 := hfn.c1
      have fl := hfn.lt
      have HUPX := Lib.hid (HUP0.out _ HB.out)
      clear hfn
      go_wp2_with fail
      refine wp_region_still_tail 3 (by kernel_rfl) (by kernel_rfl) ?_
      simp only [List.take_succ_cons, List.take_zero, List.drop_succ_cons, List.drop_zero]
      repeat still_step
      refine wpStill_nil ?_
      refine wpList_store_mid rfl 25 _ _ rfl z 0 #[.int .i64 0, .int .i64 (-1)] rfl rfl RC9.out.there2 (by kernel_rfl) (all_oneCell_toArray (cs := [.int .i64 0, .int .i64 (-1)]) (by simp [Value.oneCell'])) ?_
      have HST9 := Lib.hid (RC9.out.set2 (.int .i64 0) (.int .i64 (-1)) HUPX.out HZW.out)
      have HGR : Hid (Grps (wr.drew.setCells z 0 [.int .i64 0, .int .i64 (-1)]) (.slice oa qs.length oc) st.outs) := by
        refine (HP.out.other (w' := wr.drew.setCells z 0 [.int .i64 0, .int .i64 (-1)]) ?_ fun k hk => ?_).grps
        · show _ ≤ ((wr.drew.setCell ⟨z, 0, none⟩ (.int .i64 0)).setCell ⟨z, 1, none⟩ (.int .i64 (-1))).heap.size
          simp [World.setCell]
        · have hkz : k ≠ z := by omega
          exact (Below.heap_setCell _ ⟨z, 1, none⟩ _ k hkz).trans (Below.heap_setCell _ ⟨z, 0, none⟩ _ k hkz)
      change wpList _ _ _ _ _ (wr.drew.setCells z 0 [.int .i64 0, .int .i64 (-1)])
      generalize wr.drew.setCells z 0 [.int .i64 0, .int .i64 (-1)] = w9 at HST9 HGR ⊢
      clear f0 f1 fl
      repeat go_step
      obtain ⟨⟨d0, d1⟩, hb9⟩ := HST9.out
      try simp only [Exit.inBlock, Exit.then]
      refine bodyPost_ret (v := .tuple #[.slice oa qs.length oc, .agg #[.int .i64 0, .int .i64 (-1)]]) (by simp [results, Tryd.results6, go_sem, d0, d1]; try rfl) rfl ?_
      exact ⟨_, _, _, rfl, hb9, Or.inl ⟨_, HPD.out, HGR.out, rfl, rfl⟩⟩
end Go.Proofs.YtpiobckemlkomaaDoor
