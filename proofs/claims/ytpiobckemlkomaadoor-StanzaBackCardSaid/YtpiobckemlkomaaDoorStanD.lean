/- Stanzas: what fields are written as: the program's text. -/
import Derived.Test.YtpiobckemlkomaaDoorStanC
import Derived.Test.YtpiobckemlkomaaDoorBuild
namespace Go.Proofs.YtpiobckemlkomaaDoor
open Go.RowKit
set_option maxRecDepth 100000
set_option maxHeartbeats 4000000

/-! ### strings.Split and strings.Cut at one byte -/
def MaxV (w : World) : Prop := ∃ M0 : Int, w.cell? ⟨1, 0, none⟩ = some (.int .i64 M0)
theorem MaxV.lt {w : World} (h : MaxV w) : 1 < w.heap.size := by
  obtain ⟨M0, h⟩ := h
  exact World.block_lt_of_cell? w _ h
theorem MaxV.below {w w' : World} {B : Nat} (h : MaxV w) (hb : Below B w w') (hB : 1 < B) : MaxV w' := by
  obtain ⟨M0, h⟩ := h
  exact ⟨M0, (hb.cell (p := ⟨1, 0, none⟩) hB).trans h⟩
theorem linesB_len (s : ByteArray) : Lib.countB s ⟨#[10]⟩ + 1 = (linesB s).length := by
  unfold linesB
  rw [← split_one, Lib.splitB_all ⟨#[10]⟩ (by decide) 0 _ s rfl]
theorem linesB_pos (s : ByteArray) : 0 < (linesB s).length := by rw [← linesB_len]; omega
theorem split_calls (s : ByteArray) (w : World) (hs : s.size ≤ 1000000) (hm : MaxV w) :
    Calls Tryd.prog 24 #[.string s, .string ⟨#[10]⟩] w fun e w' => e = .returned (.slice (some ⟨w.heap.size, 0, none⟩) (linesB s).length (linesB s).length) ∧ w' = w.alloc (.cells ((linesB s).map Value.string).toArray 9) := by
  obtain ⟨M0, hm⟩ := hm
  have h := Tryd.strings_Split s ⟨#[10]⟩ M0 w (by omega) hm (by decide)
  rw [linesB_len, split_one] at h
  exact h
theorem linesB_cell (s : ByteArray) (w : World) {j : Nat} (hj : j < (linesB s).length) : (w.alloc (.cells ((linesB s).map Value.string).toArray 9)).cell? ⟨w.heap.size, j, none⟩ = some (.string ((linesB s).getD j ⟨#[]⟩)) := by
  rw [World.cell?_alloc_at _ _ _ _ (by simp)]
  simp [List.getD_eq_getElem?_getD, List.getElem?_eq_getElem hj]
theorem cutW_calls (s : ByteArray) (c : UInt8) (w : World) (hs : s.size ≤ 1000000) (hm : MaxV w) :
    Calls Tryd.prog 33 #[.string s, .string ⟨#[c]⟩] w fun e w' => e = .returned (.tuple #[.string (ofL (Lib.cut s.data.toList [c]).1), .string (ofL (Lib.cut s.data.toList [c]).2.1), .bool (Lib.cut s.data.toList [c]).2.2]) ∧ ∃ n, w' = w.drewN n := by
  obtain ⟨M0, hm⟩ := hm
  exact Tryd.strings_Cut s ⟨#[c]⟩ M0 w (by omega) hm
theorem below_dN {B : Nat} {a w : World} (h : Below B a w) (n : Nat) : Below B a (w.drewN n) := ⟨h.os, h.tape, h.output, h.size, h.block⟩

/-! ### how long a text is -/
/-- What lies ahead of the byte, what behind it, and whether it is there. -/
theorem cut_split (c : UInt8) (l : List UInt8) : ∃ (a b : List UInt8) (m : Bool) (ps : List (List UInt8)), Lib.cut l [c] = (a, b, m) ∧ splitC c l = a :: ps ∧ (m = true ∧ splitC c b = ps ∧ l = a ++ c :: b ∨ m = false ∧ ps = [] ∧ l = a ∧ b = []) := by
  rcases parts1 c l with ⟨h1, _⟩ | ⟨a, b, h1, h2, _⟩
  · exact ⟨l, [], false, [], cut_no h1, splitC_no h1, Or.inr ⟨rfl, rfl, rfl, rfl⟩⟩
  · subst h1
    exact ⟨a, b, true, _, cut_hit h2, splitC_cons h2, Or.inl ⟨rfl, rfl, rfl⟩⟩
theorem rest_len (x : List UInt8) : (restL x).length ≤ x.length + 3 := by
  unfold restL
  split <;> simp
theorem flat_len : ∀ (n : Nat) (l : List UInt8), l.length ≤ n → ((splitC 10 l).flatMap restL).length ≤ 4 * l.length + 3
  | 0, l, h => by
    have : l = [] := List.eq_nil_of_length_eq_zero (by omega)
    subst this
    decide
  | n + 1, l, h => by
    obtain ⟨a, b, m, ps, h1, h2, h3⟩ := cut_split 10 l
    rw [h2, List.flatMap_cons, List.length_append]
    have := rest_len a
    rcases h3 with ⟨_, h3, h4⟩ | ⟨_, h3, h4, _⟩
    · have hb : b.length + a.length + 1 = l.length := by rw [h4]; simp; omega
      have := flat_len n b (by omega)
      rw [← h3]
      omega
    · rw [h3, h4]
      simp only [List.flatMap_nil, List.length_nil]
      omega
theorem fieldL_len (f : FieldD) : (fieldL f).length ≤ f.1.size + 4 * f.2.size + 6 := by
  unfold fieldL
  obtain ⟨a, b, m, ps, h1, h2, h3⟩ := cut_split 10 f.2.data.toList
  rw [h2]
  have e : f.2.size = f.2.data.toList.length := rfl
  have e1 : f.1.size = f.1.data.toList.length := rfl
  have hf : (firstL f.1.data.toList a).length ≤ f.1.size + a.length + 3 := by
    unfold firstL
    rw [List.length_append, List.length_cons, List.length_append, ← e1]
    split <;> simp <;> omega
  simp only [List.headD_cons, List.tail_cons, List.length_append]
  rcases h3 with ⟨_, h3, h4⟩ | ⟨_, h3, h4, _⟩
  · have := flat_len _ b (Nat.le_refl _)
    have hl : a.length + b.length + 1 = f.2.size := by rw [e, h4]; simp; omega
    rw [← h3]
    omega
  · have hl : a.length = f.2.size := by rw [e, ← h4]
    rw [h3]
    simp only [List.flatMap_nil, List.length_nil]
    omega
theorem textL_len (l : List FieldD) (h : ∀ f ∈ l, SzF f) : (textL l).length ≤ l.length * 600000 := by
  induction l with
  | nil => simp [textL]
  | cons f l ih =>
    have h1 := fieldL_len f
    have h2 := h f (List.mem_cons_self ..)
    have h3 := ih fun g hg => h g (List.mem_cons_of_mem _ hg)
    have e : textL (f :: l) = fieldL f ++ textL l := rfl
    rw [e, List.length_append, List.length_cons]
    obtain ⟨h2a, h2b⟩ := h2
    omega
theorem textL_take {l : List FieldD} {i : Nat} (h : i < l.length) : textL (l.take (i + 1)) = textL (l.take i) ++ fieldL (l.getD i default) := by
  unfold textL
  have e : l.getD i default = l[i] := by simp [List.getD, List.getElem?_eq_getElem h]
  rw [e, List.take_succ_eq_append_getElem h, List.flatMap_append]
  simp
theorem textL_le (l : List FieldD) (i : Nat) : (textL (l.take i)).length ≤ (textL l).length := by
  have h : textL l = textL (l.take i) ++ textL (l.drop i) := by
    unfold textL
    rw [← List.flatMap_append, List.take_append_drop]
  rw [h, List.length_append]
  exact Nat.le_add_right _ _

theorem app_len (acc : List UInt8) (s : ByteArray) : (acc ++ s.data.toList).length = acc.length + s.size := by rw [List.length_append]; rfl
/-! ### a builder and a boxed field -/
structure TxS (z : Nat) (w wr : World) (acc : List UInt8) (r : Nat) (x y : ByteArray) : Prop where
  below : Below z w wr
  bld : Bld z z acc wr
  box : wr.heap[r]? = some (.cells #[.string x, .string y] 48)
  lt : z < r
theorem TxS.size {z : Nat} {w wr : World} {acc : List UInt8} {r : Nat} {x y : ByteArray} (h : TxS z w wr acc r x y) : r < wr.heap.size := blk_lt h.box
theorem TxS.cell {z : Nat} {w wr : World} {acc : List UInt8} {r : Nat} {x y : ByteArray} (h : TxS z w wr acc r x y) : wr.cell? ⟨r, 0, none⟩ = some (.string x) ∧ wr.cell? ⟨r, 1, none⟩ = some (.string y) := by
  refine ⟨?_, ?_⟩ <;> simp [World.cell?, h.box]
theorem tx_write {z : Nat} {w wr : World} {acc : List UInt8} {r : Nat} {x y : ByteArray} (h : TxS z w wr acc r x y) (s : ByteArray) (hl : acc.length + s.size ≤ 1000000000) :
    Calls Tryd.prog 44 #[.pointer (some ⟨z, 0, none⟩), .string s] wr fun e w' => e = .returned (.tuple #[.int .i64 s.size, .nilIface]) ∧ TxS z w w' (acc ++ s.data.toList) r x y := by
  have hz := h.size
  have hlt := h.lt
  refine (bld_write z z acc s wr h.bld hl (by omega)).mono ?_
  rintro e w' ⟨rfl, h1, h2, h3⟩
  exact ⟨rfl, h.below.trans h2, h1, h3 r _ h.box (by simp; omega) (by rintro c fz hh; cases hh), h.lt⟩
theorem tx_cut {z : Nat} {w wr : World} {acc : List UInt8} {r : Nat} {x y : ByteArray} (h : TxS z w wr acc r x y) (hm : MaxV w) (hz : w.heap.size = z) (s : ByteArray) (hs : s.size ≤ 1000000) :
    Calls Tryd.prog 33 #[.string s, .string ⟨#[10]⟩] wr fun e w' => e = .returned (.tuple #[.string (ofL (Lib.cut s.data.toList [10]).1), .string (ofL (Lib.cut s.data.toList [10]).2.1), .bool (Lib.cut s.data.toList [10]).2.2]) ∧ TxS z w w' acc r x y := by
  refine (cutW_calls s 10 wr hs (hm.below h.below (by rw [← hz]; exact hm.lt))).mono ?_
  rintro e w' ⟨rfl, n, rfl⟩
  exact ⟨rfl, below_dN h.below n, h.bld, h.box, h.lt⟩

/-- No line behind the first is empty. -/
def TailOk (l : List FieldD) : Prop := ∀ f ∈ l, ∀ x ∈ (splitC 10 f.2.data.toList).tail, x ≠ []
theorem TailOk.at_ {l : List FieldD} (h : TailOk l) (i : Nat) : ∀ x ∈ (splitC 10 (l.getD i default).2.data.toList).tail, x ≠ [] := by
  rcases Nat.lt_or_ge i l.length with h' | h'
  · exact h _ (mem_getD _ h')
  · rw [List.getD_eq_getElem?_getD, List.getElem?_eq_none h']
    intro x hx
    have h2 : (splitC 10 (default : FieldD).2.data.toList).tail = [] := rfl
    rw [Option.getD_none, h2] at hx
    cases hx

theorem text_calls (v : Value) (l : List FieldD) (w : World) (hT : Flds w v l) (hm : MaxV w) (hl : l.length ≤ 60) (hok : TailOk l) :
    Calls Tryd.prog 39 #[v] w fun e w' => e = .returned (.string (ofL (textL l))) ∧ Below w.heap.size w w' := by
  have hlen := textL_len l hT.2
  obtain ⟨⟨a, cap, rfl, hcap, hmax, hcell⟩, hsz⟩ := hT
  unfold maxLen at hmax
  obtain ⟨m, hm'⟩ : ∃ m, l.length = m := ⟨_, rfl⟩
  have Hcell := Lib.hid hcell
  have Hsz := Lib.hid hsz
  have Hok := Lib.hid hok
  have HMax := Lib.hid hm
  clear hcell hsz hok hm
  rw [hm'] at hcap Hcell hl hlen
  have HL : Hid ((textL l).length ≤ 36000000) := by show _ ≤ _; omega
  have Hm := Lib.hid hm'
  clear hlen
  rw [hm']
  clear hm'
  obtain ⟨z, hz⟩ : ∃ z, w.heap.size = z := ⟨_, rfl⟩
  have Hz := Lib.hid hz
  have HB0 : Hid (Below z w (w.alloc (.cells #[.pointer none, .slice none 0 0] 70))) := (Below.refl _ _).alloc (by omega) _
  have HL0 : Hid (Bld z z [] (w.alloc (.cells #[.pointer none, .slice none 0 0] 70))) := by
    have := bld_new w (w.alloc (.cells #[.pointer none, .slice none 0 0] 70)) (heap_alloc_new w _)
    rw [hz] at this
    exact this
  rw [hz]
  have hzs : (w.alloc (.cells #[.pointer none, .slice none 0 0] 70)).heap.size = z + 1 := by simp [hz]
  go_enter Tryd.func39, Tryd.ntmps39
  go_wp2_with fail
  obtain ⟨w0, hw0⟩ : ∃ w0 : World, w.alloc (.cells #[.pointer none, .slice none 0 0] 70) = w0 := ⟨_, rfl⟩
  rw [hw0] at HB0 HL0 hzs ⊢
  have Hzs := Lib.hid hzs
  clear hw0 hz hzs
  go_loopg [12] m (fun k v12 wr => ∃ i : Nat, v12 = .int .i64 i ∧ i ≤ m ∧ k = m - i ∧ Below z w wr ∧ Bld z z (textL (l.take i)) wr ∧ z + 1 ≤ wr.heap.size)
  case atStart => exact ⟨0, rfl, Nat.zero_le _, rfl, HB0.out, HL0.out, by rw [Hzs.out]; exact Nat.le_refl _⟩
  case round =>
    obtain ⟨i, rfl, hi, hk, hB, hBl, hzr⟩ := hrel
    have Hk := Lib.hid hk
    have HB := Lib.hid hB
    have HBl := Lib.hid hBl
    clear hk hB hBl
    by_cases hlt : i < m
    · obtain ⟨b, o, rfl, hb, hc⟩ := Hcell.out.resolve_left (by omega)
      rw [Hz.out] at hb
      obtain ⟨t, ht⟩ : ∃ t, l.getD i default = t := ⟨_, rfl⟩
      have hs := SzF.at_ Hsz.out i
      have hto := Hok.out.at_ i
      have c0 : wr.cell? ⟨b, o + i * 2, none⟩ = some (.string t.1) := (HB.out.cell (p := ⟨b, o + i * 2, none⟩) hb).trans (by have := hc i 0 hlt (by decide); rw [ht] at this; exact this)
      have c1 : wr.cell? ⟨b, o + i * 2 + 1, none⟩ = some (.string t.2) := (HB.out.cell (p := ⟨b, o + i * 2 + 1, none⟩) hb).trans (by have := hc i 1 hlt (by decide); rw [ht] at this; exact this)
      have htk := textL_take (l := l) (i := i) (by rw [Hm.out]; exact hlt)
      rw [ht] at hs hto htk
      obtain ⟨x, y⟩ := t
      dsimp only at c0 c1 hto
      obtain ⟨hs1, hs2⟩ := hs
      dsimp only at hs1 hs2
      obtain ⟨ca, cb, cm, ps, hcut, hsp, hps⟩ := cut_split 10 y.data.toList
      rw [hsp, List.tail_cons] at hto
      have htk2 : textL (l.take (i + 1)) = textL (l.take i) ++ (firstL x.data.toList ca ++ ps.flatMap restL) := by
        rw [htk]
        unfold fieldL
        rw [hsp]
        rfl
      have hlt2 := textL_le l (i + 1)
      have HT2 : Hid ((textL (l.take (i + 1))).length ≤ 36000000) := Nat.le_trans hlt2 HL.out
      have HTK := Lib.hid htk2
      have HTO := Lib.hid hto
      have hca : ca.length ≤ 100000 ∧ cb.length ≤ 100000 := by
        have e : y.size = y.data.toList.length := rfl
        rcases hps with ⟨_, _, h⟩ | ⟨_, _, h, h'⟩
        · rw [e, h] at hs2
          simp only [List.length_append, List.length_cons] at hs2
          omega
        · rw [e, h] at hs2
          rw [h']
          exact ⟨hs2, by simp⟩
      obtain ⟨acc, hacc⟩ : ∃ acc, textL (l.take i) = acc := ⟨_, rfl⟩
      rw [hacc] at HBl HTK
      have HPS : Hid (cm = true ∧ splitC 10 cb = ps ∨ cm = false ∧ ps = []) := hps.imp (fun h => ⟨h.1, h.2.1⟩) (fun h => ⟨h.1, h.2.1⟩)
      have hlenI : acc.length + (firstL x.data.toList ca).length ≤ 36000000 := by
        have h1 := HT2.out
        rw [HTK.out, List.length_append, List.length_append] at h1
        omega
      have hlenI2 : acc.length + x.size + ca.length + 3 ≤ 36000003 := by
        unfold firstL at hlenI
        rw [List.length_append, List.length_cons] at hlenI
        have e1 : x.size = x.data.toList.length := rfl
        split at hlenI
        · rename_i h0; rw [h0]; simp at hlenI ⊢; omega
        · simp at hlenI; omega
      have HLI := Lib.hid hlenI2
      obtain ⟨r, hr⟩ : ∃ r, wr.heap.size = r := ⟨_, rfl⟩
      have HX : Hid (TxS z w (wr.alloc (.cells #[.string x, .string y] 48)) acc r x y) := by
        refine ⟨HB.out.alloc (by omega) _, ?_, ?_, by omega⟩
        · exact Lib.IsBuilderF.alloc HBl.out _
        · rw [← hr]; exact heap_alloc_new wr _
      have HCUT := Lib.hid hcut
      clear hc hb hlt2 htk htk2 hto hsp hps hlenI hlenI2 hacc hcut
      have CC := tx_cut (wr := wr.alloc (.cells #[.string x, .string y] 48)) HX.out HMax.out Hz.out y (by omega)
      rw [HCUT.out] at CC
      dsimp only at CC
      obtain ⟨F, hF⟩ : ∃ F, ofL ca = F := ⟨_, rfl⟩
      rw [hF] at CC
      have hFd : F.data.toList = ca := by rw [← hF]; rfl
      have hFs : F.size = ca.length := by rw [← hF]; rfl
      have hFsz : F.size ≤ 100000 := by rw [hFs]; exact hca.1
      have HFD := Lib.hid hFd
      have HFS := Lib.hid hFs
      have CC := Lib.hid CC
      obtain ⟨TT, hTT⟩ : ∃ TT, acc ++ (firstL x.data.toList ca ++ ps.flatMap restL) = TT := ⟨_, rfl⟩
      have HTD : Hid (acc ++ (firstL x.data.toList ca ++ ps.flatMap restL) = TT) := hTT
      have HTL : Hid (TT.length ≤ 36000000) := by
        have := HT2.out
        rw [HTK.out, hTT] at this
        exact this
      clear hF hFd hFs hTT
      go_wp2_with fail
      obtain ⟨w1, hw1⟩ : ∃ w1 : World, wr.alloc (.cells #[.string x, .string y] 48) = w1 := ⟨_, rfl⟩
      rw [hw1] at HX CC ⊢
      clear hw1 hr
      refine CC.out.mono ?_
      rintro e1 w2 ⟨rfl, hX2⟩
      obtain ⟨d0, d1⟩ := hX2.cell
      have hr2 := hX2.size
      have WA := Lib.hid (tx_write hX2 (x ++ ⟨#[58]⟩) (by
        have e1 := HLI.out
        have e5 : (⟨#[58]⟩ : ByteArray).size = 1 := rfl
        rw [ByteArray.size_append]
        omega))
      clear CC hX2
      go_wp2_with fail
      refine WA.out.mono ?_
      rintro e2 w3 ⟨rfl, hX3⟩
      have HX3 := Lib.hid hX3
      clear WA hX3 d0 d1 hr2
      by_cases hca0 : ca = []
      · obtain ⟨t1, t2⟩ := emptyL (s := F) (by rw [HFS.out, hca0]; rfl)
        have HFL : Hid (acc ++ (x ++ ⟨#[58]⟩ : ByteArray).data.toList ++ (⟨#[10]⟩ : ByteArray).data.toList = acc ++ firstL x.data.toList ca) := by
          show _ = _
          unfold firstL
          rw [if_pos hca0]
          simp
        have WB := tx_write HX3.out ⟨#[10]⟩ (by
          have e1 := HLI.out
          have e5 : (⟨#[58]⟩ : ByteArray).size = 1 := rfl
          have e6 : (⟨#[10]⟩ : ByteArray).size = 1 := rfl
          rw [app_len, ByteArray.size_append]
          omega)
        rw [HFL.out] at WB
        have WB := Lib.hid WB
        clear hca0
        go_wp2_with fail
        refine WB.out.mono ?_
        rintro e3 w4 ⟨rfl, hX4⟩
        have HX4 := Lib.hid hX4
        have HTT : Hid (TT = acc ++ (firstL x.data.toList ca ++ ps.flatMap restL)) := HTD.out.symm
        clear WB hX4 t1 t2
        go_wp2_with fail
        go_loopg [7, 8] ps.length (fun k v7 v8 wi => ∃ (R : ByteArray) (M : Bool) (qs : List (List UInt8)) (acc' : List UInt8), v7 = .string R ∧ v8 = .bool M ∧ k = qs.length ∧ R.size ≤ 100000 ∧ (M = true ∧ splitC 10 R.data.toList = qs ∨ M = false ∧ qs = []) ∧ TxS z w wi acc' r x y ∧ acc' ++ qs.flatMap restL = TT ∧ ∀ q ∈ qs, q ≠ [])
        case atStart =>
          refine ⟨ofL cb, cm, ps, _, rfl, rfl, rfl, hca.2, HPS.out, HX4.out, ?_, HTO.out⟩
          exact HTT.out.trans (List.append_assoc _ _ _).symm |>.symm
        case round =>
          obtain ⟨R, M, qs, acc', rfl, rfl, hk', hR, hM, hXi, hTT, hne⟩ := hrel
          have Hk' := Lib.hid hk'
          have HXi := Lib.hid hXi
          have HTTi := Lib.hid hTT
          have Hne := Lib.hid hne
          have HM := Lib.hid hM
          clear hk' hXi hTT hne hM
          cases M
          · have HQ : Hid (qs = []) := by
              rcases HM.out with ⟨h, _⟩ | ⟨_, h⟩
              · cases h
              · exact h
            have HE : Hid (acc' = TT) := by
              show _ = _
              rw [← HTTi.out, HQ.out]
              simp
            go_wp2_with fail
            go_roundg (m - (i + 1))
            case rel =>
              refine ⟨i + 1, by go_num, by omega, rfl, HXi.out.below, ?_, by have := HXi.out.size; have := HXi.out.lt; omega⟩
              rw [HTK.out, HTD.out, ← HE.out]
              exact HXi.out.bld
            case measure => have := Hk.out; omega
          · have HQ : Hid (splitC 10 R.data.toList = qs) := by
              rcases HM.out with ⟨_, h⟩ | ⟨h, _⟩
              · exact h
              · cases h
            obtain ⟨da, db, dm, qs', hcut, hsp, hqs⟩ := cut_split 10 R.data.toList
            rw [HQ.out] at hsp
            have hdl : da.length ≤ 100000 ∧ db.length ≤ 100000 := by
              have e : R.size = R.data.toList.length := rfl
              rcases hqs with ⟨_, _, h⟩ | ⟨_, _, h, h'⟩
              · rw [e, h] at hR
                simp only [List.length_append, List.length_cons] at hR
                omega
              · rw [e, h] at hR
                rw [h']
                exact ⟨hR, by simp⟩
            have HNX : Hid (dm = true ∧ splitC 10 db = qs' ∨ dm = false ∧ qs' = []) := hqs.imp (fun h => ⟨h.1, h.2.1⟩) (fun h => ⟨h.1, h.2.1⟩)
            have hda : da ≠ [] := Hne.out da (by rw [hsp]; exact List.mem_cons_self ..)
            have HNE : Hid (∀ q ∈ qs', q ≠ []) := fun q hq => Hne.out q (by rw [hsp]; exact List.mem_cons_of_mem _ hq)
            have HTN : Hid ((acc' ++ restL da) ++ qs'.flatMap restL = TT) := by
              show _ = _
              rw [← HTTi.out, hsp, List.flatMap_cons, List.append_assoc]
            have hlq : qs.length = qs'.length + 1 := by rw [hsp]; rfl
            have hlenA : acc'.length + da.length ≤ 36000000 := by
              have h1 := congrArg List.length HTN.out
              have h2 := HTL.out
              rw [List.length_append, List.length_append] at h1
              have h3 : da.length ≤ (restL da).length := by
                unfold restL
                split <;> simp <;> omega
              omega
            have CC := tx_cut HXi.out HMax.out Hz.out R (by omega)
            rw [hcut] at CC
            dsimp only at CC
            obtain ⟨S, hS⟩ : ∃ S, ofL da = S := ⟨_, rfl⟩
            have hSd : S.data.toList = da := by rw [← hS]; rfl
            have hSs : S.size = da.length := by rw [← hS]; rfl
            rw [hS] at CC
            have HSD := Lib.hid hSd
            have HSS := Lib.hid hSs
            have hsp0 : 0 < S.size := by
              rw [hSs]
              exact List.length_pos_iff.2 hda
            obtain ⟨c, hc⟩ : ∃ c, S[0]'hsp0 = c := ⟨_, rfl⟩
            have HHD : Hid (da.head? = some c) := by
              show _ = _
              have h0 := get_at S 0 hsp0
              rw [hSd, hc] at h0
              rw [List.head?_eq_getElem?, h0]
            have hsl : S.size ≤ 100000 := by rw [hSs]; exact hdl.1
            have CC := Lib.hid CC
            have Hlq := Lib.hid hlq
            have HlA := Lib.hid hlenA
            have Hdl := Lib.hid hdl
            clear hcut hsp hqs hda hS hSd hSs hlq hlenA hdl
            go_wp2_with fail
            refine CC.out.mono ?_
            rintro e6 w6 ⟨rfl, hX6⟩
            clear CC
            have HX6 := Lib.hid hX6
            clear hX6
            obtain ⟨n, hn⟩ : ∃ n, c.toNat = n := ⟨_, rfl⟩
            have HN := Lib.hid hn
            by_cases hp : n = 46
            · have HRL : Hid (acc' ++ restL da = acc' ++ (⟨#[32]⟩ ++ (⟨#[46]⟩ ++ S) ++ ⟨#[10]⟩ : ByteArray).data.toList) := by
                show _ = _
                unfold restL
                rw [if_pos (by rw [HHD.out, ← UInt8.ofNat_toNat (x := c), HN.out, hp]; rfl)]
                simp [HSD.out]
              have q1 : ((n : Int) == 46) = true := by rw [beq_iff_eq]; omega
              have WW := Lib.hid (tx_write HX6.out (⟨#[32]⟩ ++ (⟨#[46]⟩ ++ S) ++ ⟨#[10]⟩) (by
                have e1 := HlA.out
                have e2 := HSS.out
                simp only [ByteArray.size_append]
                have e3 : (⟨#[32]⟩ : ByteArray).size = 1 := rfl
                have e4 : (⟨#[46]⟩ : ByteArray).size = 1 := rfl
                have e5 : (⟨#[10]⟩ : ByteArray).size = 1 := rfl
                omega))
              rw [← HRL.out] at WW
              clear hp
              go_wp2_with fail
              refine WW.out.mono ?_
              rintro e7 w7 ⟨rfl, hX7⟩
              have HX7 := Lib.hid hX7
              clear hX7 WW
              go_wp2_with fail
              go_roundg qs'.length
              case rel => exact ⟨ofL db, dm, qs', _, rfl, rfl, rfl, Hdl.out.2, HNX.out, HX7.out, HTN.out, HNE.out⟩
              case measure => have := Hk'.out; have := Hlq.out; omega
            · have HRL : Hid (acc' ++ restL da = acc' ++ (⟨#[32]⟩ ++ S ++ ⟨#[10]⟩ : ByteArray).data.toList) := by
                show _ = _
                unfold restL
                rw [if_neg (by rw [HHD.out]; intro h; injection h with h; rw [h] at HN; exact hp HN.out.symm)]
                simp [HSD.out]
              have q1 : ((n : Int) == 46) = false := by rw [beq_eq_false_iff_ne]; omega
              have WW := Lib.hid (tx_write HX6.out (⟨#[32]⟩ ++ S ++ ⟨#[10]⟩) (by
                have e1 := HlA.out
                have e2 := HSS.out
                simp only [ByteArray.size_append]
                have e3 : (⟨#[32]⟩ : ByteArray).size = 1 := rfl
                have e5 : (⟨#[10]⟩ : ByteArray).size = 1 := rfl
                omega))
              rw [← HRL.out] at WW
              clear hp
              go_wp2_with fail
              refine WW.out.mono ?_
              rintro e7 w7 ⟨rfl, hX7⟩
              have HX7 := Lib.hid hX7
              clear hX7 WW
              go_wp2_with fail
              go_roundg qs'.length
              case rel => exact ⟨ofL db, dm, qs', _, rfl, rfl, rfl, Hdl.out.2, HNX.out, HX7.out, HTN.out, HNE.out⟩
              case measure => have := Hk'.out; have := Hlq.out; omega
      · obtain ⟨t1, t2⟩ := emptyN (s := F) (by rw [HFS.out]; intro h; exact hca0 (List.eq_nil_of_length_eq_zero h))
        have HFL : Hid (acc ++ (x ++ ⟨#[58]⟩ : ByteArray).data.toList ++ (⟨#[32]⟩ ++ F : ByteArray).data.toList ++ (⟨#[10]⟩ : ByteArray).data.toList = acc ++ firstL x.data.toList ca) := by
          show _ = _
          unfold firstL
          rw [if_neg hca0]
          simp [HFD.out]
        have WB := Lib.hid (tx_write HX3.out (⟨#[32]⟩ ++ F) (by
          have e1 := HLI.out
          have e2 := HFS.out
          have e5 : (⟨#[58]⟩ : ByteArray).size = 1 := rfl
          have e6 : (⟨#[32]⟩ : ByteArray).size = 1 := rfl
          rw [app_len, ByteArray.size_append, ByteArray.size_append]
          omega))
        clear hca0
        go_wp2_with fail
        refine WB.out.mono ?_
        rintro e3 w4 ⟨rfl, hX4⟩
        have WC := tx_write hX4 ⟨#[10]⟩ (by
          have e1 := HLI.out
          have e2 := HFS.out
          have e5 : (⟨#[58]⟩ : ByteArray).size = 1 := rfl
          have e6 : (⟨#[32]⟩ : ByteArray).size = 1 := rfl
          have e7 : (⟨#[10]⟩ : ByteArray).size = 1 := rfl
          rw [app_len, app_len, ByteArray.size_append, ByteArray.size_append]
          omega)
        rw [HFL.out] at WC
        have WC := Lib.hid WC
        clear WB hX4 t1 t2
        go_wp2_with fail
        refine WC.out.mono ?_
        rintro e4 w5 ⟨rfl, hX5⟩
        have HX4 := Lib.hid hX5
        have HTT : Hid (TT = acc ++ (firstL x.data.toList ca ++ ps.flatMap restL)) := HTD.out.symm
        clear WC hX5
        go_wp2_with fail
        go_loopg [7, 8] ps.length (fun k v7 v8 wi => ∃ (R : ByteArray) (M : Bool) (qs : List (List UInt8)) (acc' : List UInt8), v7 = .string R ∧ v8 = .bool M ∧ k = qs.length ∧ R.size ≤ 100000 ∧ (M = true ∧ splitC 10 R.data.toList = qs ∨ M = false ∧ qs = []) ∧ TxS z w wi acc' r x y ∧ acc' ++ qs.flatMap restL = TT ∧ ∀ q ∈ qs, q ≠ [])
        case atStart =>
          refine ⟨ofL cb, cm, ps, _, rfl, rfl, rfl, hca.2, HPS.out, HX4.out, ?_, HTO.out⟩
          exact HTT.out.trans (List.append_assoc _ _ _).symm |>.symm
        case round =>
          obtain ⟨R, M, qs, acc', rfl, rfl, hk', hR, hM, hXi, hTT, hne⟩ := hrel
          have Hk' := Lib.hid hk'
          have HXi := Lib.hid hXi
          have HTTi := Lib.hid hTT
          have Hne := Lib.hid hne
          have HM := Lib.hid hM
          clear hk' hXi hTT hne hM
          cases M
          · have HQ : Hid (qs = []) := by
              rcases HM.out with ⟨h, _⟩ | ⟨_, h⟩
              · cases h
              · exact h
            have HE : Hid (acc' = TT) := by
              show _ = _
              rw [← HTTi.out, HQ.out]
              simp
            go_wp2_with fail
            go_roundg (m - (i + 1))
            case rel =>
              refine ⟨i + 1, by go_num, by omega, rfl, HXi.out.below, ?_, by have := HXi.out.size; have := HXi.out.lt; omega⟩
              rw [HTK.out, HTD.out, ← HE.out]
              exact HXi.out.bld
            case measure => have := Hk.out; omega
          · have HQ : Hid (splitC 10 R.data.toList = qs) := by
              rcases HM.out with ⟨_, h⟩ | ⟨h, _⟩
              · exact h
              · cases h
            obtain ⟨da, db, dm, qs', hcut, hsp, hqs⟩ := cut_split 10 R.data.toList
            rw [HQ.out] at hsp
            have hdl : da.length ≤ 100000 ∧ db.length ≤ 100000 := by
              have e : R.size = R.data.toList.length := rfl
              rcases hqs with ⟨_, _, h⟩ | ⟨_, _, h, h'⟩
              · rw [e, h] at hR
                simp only [List.length_append, List.length_cons] at hR
                omega
              · rw [e, h] at hR
                rw [h']
                exact ⟨hR, by simp⟩
            have HNX : Hid (dm = true ∧ splitC 10 db = qs' ∨ dm = false ∧ qs' = []) := hqs.imp (fun h => ⟨h.1, h.2.1⟩) (fun h => ⟨h.1, h.2.1⟩)
            have hda : da ≠ [] := Hne.out da (by rw [hsp]; exact List.mem_cons_self ..)
            have HNE : Hid (∀ q ∈ qs', q ≠ []) := fun q hq => Hne.out q (by rw [hsp]; exact List.mem_cons_of_mem _ hq)
            have HTN : Hid ((acc' ++ restL da) ++ qs'.flatMap restL = TT) := by
              show _ = _
              rw [← HTTi.out, hsp, List.flatMap_cons, List.append_assoc]
            have hlq : qs.length = qs'.length + 1 := by rw [hsp]; rfl
            have hlenA : acc'.length + da.length ≤ 36000000 := by
              have h1 := congrArg List.length HTN.out
              have h2 := HTL.out
              rw [List.length_append, List.length_append] at h1
              have h3 : da.length ≤ (restL da).length := by
                unfold restL
                split <;> simp <;> omega
              omega
            have CC := tx_cut HXi.out HMax.out Hz.out R (by omega)
            rw [hcut] at CC
            dsimp only at CC
            obtain ⟨S, hS⟩ : ∃ S, ofL da = S := ⟨_, rfl⟩
            have hSd : S.data.toList = da := by rw [← hS]; rfl
            have hSs : S.size = da.length := by rw [← hS]; rfl
            rw [hS] at CC
            have HSD := Lib.hid hSd
            have HSS := Lib.hid hSs
            have hsp0 : 0 < S.size := by
              rw [hSs]
              exact List.length_pos_iff.2 hda
            obtain ⟨c, hc⟩ : ∃ c, S[0]'hsp0 = c := ⟨_, rfl⟩
            have HHD : Hid (da.head? = some c) := by
              show _ = _
              have h0 := get_at S 0 hsp0
              rw [hSd, hc] at h0
              rw [List.head?_eq_getElem?, h0]
            have hsl : S.size ≤ 100000 := by rw [hSs]; exact hdl.1
            have CC := Lib.hid CC
            have Hlq := Lib.hid hlq
            have HlA := Lib.hid hlenA
            have Hdl := Lib.hid hdl
            clear hcut hsp hqs hda hS hSd hSs hlq hlenA hdl
            go_wp2_with fail
            refine CC.out.mono ?_
            rintro e6 w6 ⟨rfl, hX6⟩
            clear CC
            have HX6 := Lib.hid hX6
            clear hX6
            obtain ⟨n, hn⟩ : ∃ n, c.toNat = n := ⟨_, rfl⟩
            have HN := Lib.hid hn
            by_cases hp : n = 46
            · have HRL : Hid (acc' ++ restL da = acc' ++ (⟨#[32]⟩ ++ (⟨#[46]⟩ ++ S) ++ ⟨#[10]⟩ : ByteArray).data.toList) := by
                show _ = _
                unfold restL
                rw [if_pos (by rw [HHD.out, ← UInt8.ofNat_toNat (x := c), HN.out, hp]; rfl)]
                simp [HSD.out]
              have q1 : ((n : Int) == 46) = true := by rw [beq_iff_eq]; omega
              have WW := Lib.hid (tx_write HX6.out (⟨#[32]⟩ ++ (⟨#[46]⟩ ++ S) ++ ⟨#[10]⟩) (by
                have e1 := HlA.out
                have e2 := HSS.out
                simp only [ByteArray.size_append]
                have e3 : (⟨#[32]⟩ : ByteArray).size = 1 := rfl
                have e4 : (⟨#[46]⟩ : ByteArray).size = 1 := rfl
                have e5 : (⟨#[10]⟩ : ByteArray).size = 1 := rfl
                omega))
              rw [← HRL.out] at WW
              clear hp
              go_wp2_with fail
              refine WW.out.mono ?_
              rintro e7 w7 ⟨rfl, hX7⟩
              have HX7 := Lib.hid hX7
              clear hX7 WW
              go_wp2_with fail
              go_roundg qs'.length
              case rel => exact ⟨ofL db, dm, qs', _, rfl, rfl, rfl, Hdl.out.2, HNX.out, HX7.out, HTN.out, HNE.out⟩
              case measure => have := Hk'.out; have := Hlq.out; omega
            · have HRL : Hid (acc' ++ restL da = acc' ++ (⟨#[32]⟩ ++ S ++ ⟨#[10]⟩ : ByteArray).data.toList) := by
                show _ = _
                unfold restL
                rw [if_neg (by rw [HHD.out]; intro h; injection h with h; rw [h] at HN; exact hp HN.out.symm)]
                simp [HSD.out]
              have q1 : ((n : Int) == 46) = false := by rw [beq_eq_false_iff_ne]; omega
              have WW := Lib.hid (tx_write HX6.out (⟨#[32]⟩ ++ S ++ ⟨#[10]⟩) (by
                have e1 := HlA.out
                have e2 := HSS.out
                simp only [ByteArray.size_append]
                have e3 : (⟨#[32]⟩ : ByteArray).size = 1 := rfl
                have e5 : (⟨#[10]⟩ : ByteArray).size = 1 := rfl
                omega))
              rw [← HRL.out] at WW
              clear hp
              go_wp2_with fail
              refine WW.out.mono ?_
              rintro e7 w7 ⟨rfl, hX7⟩
              have HX7 := Lib.hid hX7
              clear hX7 WW
              go_wp2_with fail
              go_roundg qs'.length
              case rel => exact ⟨ofL db, dm, qs', _, rfl, rfl, rfl, Hdl.out.2, HNX.out, HX7.out, HTN.out, HNE.out⟩
              case measure => have := Hk'.out; have := Hlq.out; omega
    · obtain rfl : i = m := by omega
      have hLT : textL (l.take i) = textL l := by rw [← Hm.out, List.take_length]
      rw [hLT] at HBl
      have BS := Lib.hid (bld_string z z (textL l) wr HBl.out (by omega))
      clear hLT
      go_wp2_with fail
      refine BS.out.mono ?_
      rintro e9 w9 ⟨rfl, hb9, -⟩
      go_wp2_with fail
      go_ret
      exact ⟨rfl, HB.out.trans hb9⟩
end Go.Proofs.YtpiobckemlkomaaDoor
