/- Stanzas: the program's Parse. (Written by gen_stanr.py.) -/
import Derived.Test.YtpiobckemlkomaaDoorStanQ
import Derived.Deep.RegionHeld3
namespace Go.Proofs.YtpiobckemlkomaaDoor
open Go.RowKit
set_option maxRecDepth 100000
set_option maxHeartbeats 4000000

/-! ### one line, case by case -/
theorem stepP_hash {st : PS} {x : ByteArray} (h : x.data.toList.head? = some 35) : stepP st x = some st := by unfold stepP; rw [if_pos h]
theorem stepP_blank {st : PS} {x : ByteArray} (h : ¬ x.data.toList.head? = some 35) (h2 : trimB x = ⟨#[]⟩) : stepP st x = some (flushP st) := by unfold stepP; rw [if_neg h, if_pos h2]
theorem stepP_more {st : PS} {x : ByteArray} (h : ¬ x.data.toList.head? = some 35) (h2 : ¬ trimB x = ⟨#[]⟩) (h3 : blankC (x.data.toList.headD 0) = true) : stepP st x = moreP st (trimB x).data.toList := by unfold stepP; rw [if_neg h, if_neg h2, if_pos h3]
theorem stepP_field {st : PS} {x : ByteArray} (h : ¬ x.data.toList.head? = some 35) (h2 : ¬ trimB x = ⟨#[]⟩) (h3 : blankC (x.data.toList.headD 0) = false) : stepP st x = fieldP st x := by unfold stepP; rw [if_neg h, if_neg h2, if_neg (by rw [h3]; decide)]
theorem more_no1 {st : PS} {t : List UInt8} (h : st.l = []) : moreP st t = none := by unfold moreP; rw [if_pos (Or.inl h)]
theorem more_no2 {st : PS} {t : List UInt8} (h : t.all lineC = false) : moreP st t = none := by unfold moreP; rw [if_pos (Or.inr h)]
theorem more_bad {st : PS} {t : List UInt8} (h : t.head? = some 46) (h2 : ¬ t.tail.head? = some 46) : moreP st t = none := by
  unfold moreP
  split
  · rfl
  · first | rfl | rw [if_pos h, if_neg h2]
theorem more_dot {st : PS} {t : List UInt8} (h0 : st.l ≠ []) (h1 : t.all lineC = true) (h : t.head? = some 46) (h2 : t.tail.head? = some 46) : moreP st t = some ⟨st.outs, addL st.l t.tail⟩ := by
  unfold moreP
  rw [if_neg (by rintro (h | h); exact h0 h; rw [h1] at h; cases h), if_pos h, if_pos h2]
theorem more_plain {st : PS} {t : List UInt8} (h0 : st.l ≠ []) (h1 : t.all lineC = true) (h : ¬ t.head? = some 46) : moreP st t = some ⟨st.outs, addL st.l t⟩ := by
  unfold moreP
  rw [if_neg (by rintro (h | h); exact h0 h; rw [h1] at h; cases h), if_neg h]
theorem fieldP_eq {st : PS} {x : ByteArray} {a b : List UInt8} {ok : Bool} (h : Lib.cut x.data.toList [58] = (a, b, ok)) : fieldP st x = if (ok && nameS (ofL a) && lineS (trimB (ofL b)) && decide (st.l.length < 40) && !st.l.any (sameN (ofL a))) = true then some ⟨st.outs, st.l ++ [(ofL a, trimB (ofL b))]⟩ else none := by
  unfold fieldP
  rw [h]
theorem fold_next {ls : List ByteArray} {i : Nat} {st st' : PS} {x : ByteArray} (hi : i < ls.length) (h : foldP PS.zero (ls.take i) = some st) (hx : ls.getD i ⟨#[]⟩ = x) (hs : stepP st x = some st') : foldP PS.zero (ls.take (i + 1)) = some st' := by
  rw [foldP_take ls _ hi, h, hx]
  exact hs
theorem bad_at {ls : List ByteArray} {i : Nat} {st : PS} {x : ByteArray} (hi : i < ls.length) (h : foldP PS.zero (ls.take i) = some st) (hx : ls.getD i ⟨#[]⟩ = x) (hs : stepP st x = none) : BadAt ls i := ⟨hi, st, h, by rw [hx]; exact hs⟩
theorem parse_done {s : ByteArray} {st : PS} (h : foldP PS.zero (linesB s) = some st) : parseS s = some (flushP st).outs := by unfold parseS; rw [h]; rfl
theorem BadAt.none {s : ByteArray} {i : Nat} (h : BadAt (linesB s) i) : parseS s = none := by unfold parseS; rw [h.all]; rfl
theorem head_some {x : ByteArray} (h : 0 < x.size) : x.data.toList.head? = some (x[0]'h) := by rw [List.head?_eq_getElem?, get_at x 0 h]
theorem blankC_iff (c : UInt8) : blankC c = true ↔ c.toNat = 32 ∨ c.toNat = 9 := by
  unfold blankC
  simp [← UInt8.toNat_inj]
theorem u8_eq {c : UInt8} {n : Nat} (hn : n < 256) : c = UInt8.ofNat n ↔ c.toNat = n := by
  rw [← UInt8.toNat_inj, UInt8.toNat_ofNat']
  omega
theorem cutB_calls (s : ByteArray) (c : UInt8) (w : World) (hs : s.size ≤ 1000000) (hm : MaxV w) :
    Calls Tryd.prog 33 #[.string s, .string ⟨#[c]⟩] w fun e w' => e = .returned (.tuple #[.string (ofL (Lib.cut s.data.toList [c]).1), .string (ofL (Lib.cut s.data.toList [c]).2.1), .bool (Lib.cut s.data.toList [c]).2.2]) ∧ Below w.heap.size w w' := by
  refine (cutW_calls s c w hs hm).mono ?_
  rintro e w' ⟨rfl, n, rfl⟩
  exact ⟨rfl, below_dN (Below.refl _ _) n⟩
/-- What Parse hands back. -/
def ParseR (w : World) (s : ByteArray) (e : Ending) (w' : World) : Prop := ∃ v ev, e = .returned (.tuple #[v, ev]) ∧ Below w.heap.size w w' ∧
  ((∃ outs, parseS s = some outs ∧ Grps w' v outs ∧ ev = .nilIface) ∨
   (v = .slice none 0 0 ∧ parseS s = none ∧ ∃ i r : Nat, BadAt (linesB s) i ∧ ev = .iface 55 (.pointer (some ⟨r, 0, none⟩)) ∧ w'.heap[r]? = some (.cells #[.int .i64 3, .int .i64 i] 56)))
theorem bad_end {w w' : World} {s : ByteArray} {ls : List ByteArray} {i r : Nat} (hls : linesB s = ls) (h : BadAt ls i) (hb : Below w.heap.size w w') (hr : w'.heap[r]? = some (.cells #[.int .i64 3, .int .i64 i] 56)) :
    ParseR w s (.returned (.tuple #[.slice none 0 0, .iface 55 (.pointer (some ⟨r, 0, none⟩))])) w' := by
  subst hls
  exact ⟨_, _, rfl, hb, Or.inr ⟨rfl, h.none, i, r, h, rfl, hr⟩⟩

theorem parse_calls (s : ByteArray) (w : World) (hs : s.size ≤ 20000) (hm : MaxV w) :
    Calls Tryd.prog 7 #[.string s] w (ParseR w s) := by
  obtain ⟨i0, hi0, hz0, hz1, hz2⟩ := info_parts info_field
  have Hi0 := Lib.hid (And.intro hi0 (And.intro hz0 (And.intro hz1 hz2)))
  obtain ⟨j0, hj0, hy0, hy1, hy2⟩ := info_parts info_flds
  have Hj0 := Lib.hid (And.intro hj0 (And.intro hy0 (And.intro hy1 hy2)))
  clear hi0 hz0 hz1 hz2 hj0 hy0 hy1 hy2
  have SP := split_calls s w (by omega) hm
  have HMax := Lib.hid hm
  obtain ⟨ls, hls⟩ : ∃ ls, linesB s = ls := ⟨_, rfl⟩
  obtain ⟨nl, hnl⟩ : ∃ nl, ls.length = nl := ⟨_, rfl⟩
  rw [hls, hnl] at SP
  have hnle : nl ≤ 20001 := by
    rw [← hnl, ← hls]
    exact linesB_le s hs
  have HLC : Hid (∀ j, j < nl → (w.alloc (.cells (ls.map Value.string).toArray 9)).cell? ⟨w.heap.size, j, none⟩ = some (.string (ls.getD j ⟨#[]⟩))) := fun j hj => by
    rw [← hls]
    exact linesB_cell s w (by rw [hls, hnl]; exact hj)
  have HLS := Lib.hid (And.intro hls hnl)
  obtain ⟨z, hz⟩ : ∃ z, w.heap.size = z := ⟨_, rfl⟩
  have HB0 : Hid (Below z w (w.alloc (.cells (ls.map Value.string).toArray 9))) := (Below.refl _ _).alloc (by omega) _
  have hw2s : (w.alloc (.cells (ls.map Value.string).toArray 9)).heap.size = z + 1 := by simp [hz]
  rw [hz] at SP HLC
  have Hz := Lib.hid hz
  obtain ⟨w2, hw2⟩ : ∃ w2 : World, w.alloc (.cells (ls.map Value.string).toArray 9) = w2 := ⟨_, rfl⟩
  rw [hw2] at SP HLC HB0 hw2s
  replace SP := Lib.hid SP
  have Hs := Lib.hid hs
  have HUP0 : Hid (∀ w', Below (z + 1) w2 w' → Below w.heap.size w w') := fun w' h => by
    rw [Hz.out]
    exact HB0.out.trans (h.mono (Nat.le_succ z))
  clear hls hnl hz hw2 hm
  go_enter Tryd.func7, Tryd.ntmps7
  go_wp2_with fail
  refine SP.out.mono ?_
  rintro e0 w1 ⟨rfl, hw1⟩
  obtain rfl : w2 = w1 := hw1.symm
  clear SP
  go_wp2_with fail
  go_loopg [4, 5, 18] nl (fun k v4 v5 v18 wr => ∃ (i : Nat) (st : PS) (ov lv : Value) (qs : List Value), ov = v4 ∧ lv = v5 ∧ v18 = .int .i64 i ∧ i ≤ nl ∧ k = nl - i ∧ foldP PS.zero (ls.take i) = some st ∧ PW (z + 1) wr ov lv qs st ∧ Below (z + 1) w2 wr)
  case atStart => exact ⟨0, PS.zero, _, _, [], rfl, rfl, rfl, Nat.zero_le _, rfl, rfl, PW.zero _ _, Below.refl _ _⟩
  case round =>
    obtain ⟨i, st, ov, lv, qs, rfl, rfl, rfl, hi, hk, hF, hP, hB⟩ := hrel
    obtain ⟨la, lc, rfl⟩ := hP.any_form
    obtain ⟨oa, oc, rfl⟩ := hP.out_form
    have Hk := Lib.hid hk
    have HF := Lib.hid hF
    have HP := Lib.hid hP
    have HB := Lib.hid hB
    have HGS := Lib.hid (fold_good ls i st (by rw [HLS.out.2]; exact hi) hF)
    have hll : st.l.length ≤ 40 := HGS.out.len
    have hqs : qs.length ≤ 20001 := by rw [hP.len]; exact Nat.le_trans HGS.out.outs (by omega)
    clear hk hF hP hB
    by_cases hlt : i < nl
    · have HIL : Hid (i < ls.length) := by show _ < _; rw [HLS.out.2]; exact hlt
      have hcell := (HB.out.cell (p := ⟨z, i, none⟩) (Nat.lt_succ_self z)).trans (HLC.out i hlt)
      obtain ⟨x, hx⟩ : ∃ x, ls.getD i ⟨#[]⟩ = x := ⟨_, rfl⟩
      rw [hx] at hcell
      have HX := Lib.hid hx
      have hNx : sumL (ls.take i) + x.size + 1 ≤ 20001 := by
        have h1 := sumL_take HIL.out
        have h2 := sumL_le ls (i + 1)
        have h3 := sumL_lines s
        rw [HLS.out.1] at h3
        have h4 := Hs.out
        rw [hx] at h1
        omega
      obtain ⟨N, hN⟩ : ∃ N, sumL (ls.take i) = N := ⟨_, rfl⟩
      rw [hN] at HGS hNx
      clear hx hN
      obtain ⟨r, hr⟩ : ∃ r, wr.heap.size = r := ⟨_, rfl⟩
      have hzr : z + 1 ≤ r := by have := HB.out.size; omega
      have HB1 : Hid (Below (z + 1) w2 (wr.alloc (.cells #[.int .i64 3, .int .i64 i] 56))) := HB.out.alloc (by omega) _
      have HP1 := Lib.hid (HP.out.keep ((Below.refl _ _).alloc (Nat.le_refl _) (.cells #[.int .i64 3, .int .i64 i] 56)))
      have HA1 : Hid ((wr.alloc (.cells #[.int .i64 3, .int .i64 i] 56)).heap[wr.heap.size]? = some (.cells #[.int .i64 3, .int .i64 i] 56)) := heap_alloc_new wr _
      have hzl : z < wr.heap.size := by omega
      go_wp2_with fail
      obtain ⟨W1, hW1⟩ : ∃ W1 : World, wr.alloc (.cells #[.int .i64 3, .int .i64 i] 56) = W1 := ⟨_, rfl⟩
      rw [hW1] at HB1 HP1 HA1 ⊢
      have HW1 : Hid (W1.heap.size = r + 1) := by show _ = _; rw [← hW1, ← hr]; simp
      rw [hr] at HA1
      clear hW1 hr hcell hzl
      have HUP2 : Hid (∀ w', Below (r + 1) W1 w' → Below (z + 1) w2 w') := fun w' h => HB1.out.trans (h.mono (by omega))
      have HUP : Hid (∀ w', Below (r + 1) W1 w' → Below w.heap.size w w') := fun w' h => HUP0.out _ (HUP2.out _ h)
      have HAT : Hid (∀ w', Below (r + 1) W1 w' → w'.heap[r]? = some (.cells #[.int .i64 3, .int .i64 i] 56)) := fun w' h => (h.block r (Nat.lt_succ_self r)).trans HA1.out
      have HPC := Tryd.strings_HasPrefix x ⟨#[35]⟩ W1
      have e35 : (ByteArray.mk #[35]).data.toList = [35] := rfl
      rw [e35, hasPre1] at HPC
      replace HPC := Lib.hid HPC
      clear e35
      by_cases h35 : x.data.toList.head? = some 35
      · rw [decide_eq_true h35] at HPC
        have HST := Lib.hid (fold_next HIL.out HF.out HX.out (stepP_hash (st := st) h35))
        clear h35
        refine HPC.out.mono ?_
        rintro e3 w3 ⟨rfl, hw3⟩
        obtain rfl : W1 = w3 := hw3.symm
        clear HPC
        go_wp2_with fail
        have HBE := HB1
        go_roundg (nl - (i + 1))
        case rel => exact ⟨i + 1, _, _, _, _, rfl, rfl, by go_num, by omega, rfl, HST.out, HP1.out, HBE.out⟩
        case measure => have := Hk.out; omega
      rw [decide_eq_false h35] at HPC
      refine HPC.out.mono ?_
      rintro e3 w3 ⟨rfl, hw3⟩
      obtain rfl : W1 = w3 := hw3.symm
      clear HPC
      have TC := trim_calls x W1 (by omega)
      obtain ⟨t, ht⟩ : ∃ t, trimB x = t := ⟨_, rfl⟩
      rw [ht, HW1.out] at TC
      have hts : t.size ≤ x.size := by rw [← ht]; exact trimB_le x
      have HT := Lib.hid ht
      replace TC := Lib.hid TC
      clear ht
      by_cases ht0 : t.size = 0
      · have htE : trimB x = ⟨#[]⟩ := HT.out.trans (toL_iff.1 ((emptyL ht0).1.trans (emptyL (s := ⟨#[]⟩) rfl).1.symm))
        obtain ⟨t1, t2⟩ := emptyL ht0
        have HST0 := Lib.hid (fold_next HIL.out HF.out HX.out (stepP_blank h35 htE))
        clear ht0 htE
        by_cases hl0 : st.l.length = 0
        · have HST : Hid (foldP PS.zero (ls.take (i + 1)) = some st) := by
            have := HST0.out
            unfold flushP at this
            rwa [if_pos (List.eq_nil_of_length_eq_zero hl0)] at this
          have q1 : decide ((st.l.length : Int) > 0) = false := decide_eq_false (by omega)
          have q2 : decide ((0 : Int) < st.l.length) = false := decide_eq_false (by omega)
          go_wp2_with fail
          refine TC.out.mono ?_
          rintro e3 w3 ⟨rfl, hb3⟩
          have HB3 : Hid (Below (r + 1) W1 w3) := hb3
          have hpe := HP1.out.keep (w' := w3) (by rw [HW1.out]; exact hb3)
          rw [hl0] at hpe
          have HPE := Lib.hid hpe
          clear hpe
          have HBE := Lib.hid (HUP2.out _ HB3.out)
          clear hb3 TC
          go_wp2_with fail
          go_roundg (nl - (i + 1))
          case rel => exact ⟨i + 1, _, _, _, _, rfl, rfl, by go_num, by omega, rfl, HST.out, HPE.out, HBE.out⟩
          case measure => have := Hk.out; omega
        · have hne : st.l ≠ [] := fun e => hl0 (by rw [e]; rfl)
          have HST : Hid (foldP PS.zero (ls.take (i + 1)) = some ⟨st.outs ++ [st.l], []⟩) := by
            have := HST0.out
            unfold flushP at this
            rwa [if_neg hne] at this
          have q1 : decide ((st.l.length : Int) > 0) = true := decide_eq_true (by omega)
          have q2 : decide ((0 : Int) < st.l.length) = true := decide_eq_true (by omega)
          clear hne
          go_wp2_with fail
          refine TC.out.mono ?_
          rintro e3 w3 ⟨rfl, hb3⟩
          have HB3 : Hid (Below (r + 1) W1 w3) := hb3
          have HP3 := Lib.hid (HP1.out.keep (by rw [HW1.out]; exact hb3))
          have HBE := Lib.hid (HUP2.out _ HB3.out)
          have hz3 : z + 1 ≤ w3.heap.size := by have := HBE.out.size; omega
          have HPa := Lib.hid (HP3.out.keep ((Below.refl _ _).alloc (Nat.le_refl _) (.cells #[.slice la st.l.length lc] 34)))
          clear hb3 TC
          go_wp2_with (at_builtin; refine wpList_append_own_at _ rfl _ _ 22 rfl (z + 1) 34 j0 _ 1 24 Tryd.underlying22 Hj0.out.1 Hj0.out.2.1 Hj0.out.2.2.1 Hj0.out.2.2.2 rfl (by decide) (.slice oa qs.length oc) qs.length qs rfl HPa.out.out ⟨w3.heap.size, 0, none⟩ 1 1 [.slice la st.l.length lc] rfl rfl (World.news_of_block (cs := #[.slice la st.l.length lc]) (t := 34) (fr := (0, 0)) (heap_alloc_new w3 _)) (by simp [Value.oneCell']) (by unfold maxLen; omega) (by omega) (by simp; omega) ?_)
          intro v' w5 hown hgrow _ hat
          have HB5 : Hid (Below (z + 1) w2 w5) := (HBE.out.alloc hz3 (.cells #[.slice la st.l.length lc] 34)).grown hgrow (by simp; omega) (fun k e => (HPa.out.out.lt k e).1)
          have HP5 := Lib.hid (HPa.out.flush hgrow hown (by simpa using hat) (slice_one _ _ _))
          clear hown hgrow hat
          go_wp2_with fail
          go_roundg (nl - (i + 1))
          case rel => exact ⟨i + 1, _, _, _, _, rfl, rfl, by go_num, by omega, rfl, HST.out, HP5.out, HB5.out⟩
          case measure => have := Hk.out; omega
      have HTN : Hid (¬ trimB x = ⟨#[]⟩) := fun e => ht0 (by rw [← HT.out, e]; rfl)
      obtain ⟨t1, t2⟩ := emptyN ht0
      have hx0 : 0 < x.size := by omega
      obtain ⟨c, hxc⟩ : ∃ c, x[0]'hx0 = c := ⟨_, rfl⟩
      obtain ⟨n, hn⟩ : ∃ n, c.toNat = n := ⟨_, rfl⟩
      have Hn := Lib.hid hn
      have hn256 : n < 256 := by rw [← hn]; exact c.toNat_lt
      cases hbl : blankC c
      case' true =>
        have HBK := Lib.hid ((blankC_iff c).1 hbl)
        have HSM := Lib.hid (stepP_more (st := st) h35 HTN.out (by rw [head_at x hx0, hxc]; exact hbl))
        rw [HT.out] at HSM
        clear hbl
        go_wp2_with fail
        refine TC.out.mono ?_
        rintro e3 w3 ⟨rfl, hb3⟩
        have HB3 : Hid (Below (r + 1) W1 w3) := hb3
        clear hb3 TC
        go_upto_region 17 with fail
        go_cut [79] (fun v79 wx => v79 = .bool true ∧ wx = w3)
        case first =>
          by_cases h32 : n = 32
          · have q1 : ((n : Int) == 32) = true := by rw [beq_iff_eq]; omega
            clear h32
            go_wp2_with fail
            go_meet
            exact ⟨rfl, rfl⟩
          · have q1 : ((n : Int) == 32) = false := by rw [beq_eq_false_iff_ne]; omega
            have q2 : ((n : Int) == 9) = true := by
              rw [beq_iff_eq]
              have := HBK.out
              have := Hn.out
              omega
            clear h32
            go_wp2_with fail
            go_meet
            exact ⟨rfl, rfl⟩
        case rest =>
          obtain ⟨rfl, hwc⟩ := hcut
          obtain rfl : w3 = wc := hwc.symm
          have TC2 := trim_calls x w3 (by omega)
          rw [HT.out] at TC2
          replace TC2 := Lib.hid TC2
          go_wp2_with fail
          refine TC2.out.mono ?_
          rintro e4 w4 ⟨rfl, hb4⟩
          have HB4 : Hid (Below (r + 1) W1 w4) := HB3.out.trans (hb4.mono (by have := HB3.out.size; rw [HW1.out] at this; exact this))
          clear hb4 TC2
          by_cases hl0 : st.l.length = 0
          · have HBAD := Lib.hid (bad_at HIL.out HF.out HX.out (HSM.out.trans (more_no1 (List.eq_nil_of_length_eq_zero hl0))))
            have q1 : ((st.l.length : Int) == 0) = true := by rw [beq_iff_eq]; omega
            clear hl0
            go_wp2_with fail
            go_ret2
            exact bad_end HLS.out.1 HBAD.out (HUP.out _ HB4.out) (HAT.out _ HB4.out)
          have hne : st.l ≠ [] := fun e => hl0 (by rw [e]; rfl)
          have HNE := Lib.hid hne
          have q1 : ((st.l.length : Int) == 0) = false := by rw [beq_eq_false_iff_ne]; omega
          have LC := Lib.hid (line_calls t w4 (by omega))
          have hlt2 : lineS t = t.data.toList.all lineC := by rw [← HT.out]; exact lineS_trim x
          cases hln : lineS t
          · rw [hln] at LC hlt2
            have HBAD := Lib.hid (bad_at HIL.out HF.out HX.out (HSM.out.trans (more_no2 hlt2.symm)))
            clear hl0 hne hln hlt2
            go_wp2_with fail
            refine LC.out.mono ?_
            rintro e5 w5 ⟨rfl, hb5⟩
            have HB5 : Hid (Below (r + 1) W1 w5) := HB4.out.trans (hb5.mono (by have := HB4.out.size; rw [HW1.out] at this; exact this))
            clear hb5 LC
            go_wp2_with fail
            go_ret2
            exact bad_end HLS.out.1 HBAD.out (HUP.out _ HB5.out) (HAT.out _ HB5.out)
          rw [hln] at LC hlt2
          have HALL := Lib.hid hlt2.symm
          clear hl0 hne hln hlt2
          have htp : 0 < t.size := by omega
          obtain ⟨ct, hct⟩ : ∃ ct, t[0]'htp = ct := ⟨_, rfl⟩
          obtain ⟨nt, hnt⟩ : ∃ nt, ct.toNat = nt := ⟨_, rfl⟩
          have hnt256 : nt < 256 := by rw [← hnt]; exact ct.toNat_lt
          have HH : Hid (t.data.toList.head? = some (UInt8.ofNat nt)) := by
            show _ = _
            rw [head_some htp, hct, ← (u8_eq hnt256).2 hnt]
          obtain ⟨hfp, hfs⟩ := first_part t htp
          obtain ⟨t', ht'⟩ : ∃ t', t.extract 1 t.size = t' := ⟨_, rfl⟩
          rw [ht'] at hfp hfs
          have HTL : Hid (t.data.toList.tail = t'.data.toList) := by show _ = _; rw [hfp]; rfl
          clear hfp
          by_cases h46 : nt = 46
          · have HH46 : Hid (t.data.toList.head? = some 46) := by rw [h46] at HH; exact HH.out
            have p1 : ((nt : Int) == 46) = true := by rw [beq_iff_eq]; omega
            clear h46
            by_cases hone : t'.size = 0
            · have htl : t.toList = [46] := by
                rw [Lib.toList_data]
                have h1 := HTL.out
                have h2 : t'.data.toList = [] := List.eq_nil_of_length_eq_zero hone
                rw [h2] at h1
                have h3 := HH46.out
                cases e : t.data.toList with
                | nil => rw [e] at h3; cases h3
                | cons a l =>
                  rw [e] at h1 h3
                  injection h3 with h3
                  rw [h3, show l = [] from h1]
              have s1 : (t.toList == [46]) = true := by rw [htl]; rfl
              have s2 : decide (t.toList = [46]) = true := by rw [htl]; rfl
              have HBAD := Lib.hid (bad_at HIL.out HF.out HX.out (HSM.out.trans (more_bad HH46.out (by rw [HTL.out, List.eq_nil_of_length_eq_zero (show t'.data.toList.length = 0 from hone)]; simp))))
              clear hone
              go_wp2_with fail
              refine LC.out.mono ?_
              rintro e5 w5 ⟨rfl, hb5⟩
              have HB5 : Hid (Below (r + 1) W1 w5) := HB4.out.trans (hb5.mono (by have := HB4.out.size; rw [HW1.out] at this; exact this))
              clear hb5 LC
              go_wp2_with fail
              go_ret2
              exact bad_end HLS.out.1 HBAD.out (HUP.out _ HB5.out) (HAT.out _ HB5.out)
            have htl : ¬ t.toList = [46] := fun e => by
              rw [Lib.toList_data] at e
              have h1 := HTL.out
              rw [e] at h1
              have h2 : t'.size = t'.data.toList.length := rfl
              rw [← h1] at h2
              exact hone h2
            have s1 : (t.toList == [46]) = false := by rw [beq_eq_false_iff_ne]; exact htl
            have s2 : decide (t.toList = [46]) = false := decide_eq_false htl
            have htp' : 0 < t'.size := by omega
            obtain ⟨cu, hcu⟩ : ∃ cu, t'[0]'htp' = cu := ⟨_, rfl⟩
            obtain ⟨nu, hnu⟩ : ∃ nu, cu.toNat = nu := ⟨_, rfl⟩
            have hnu256 : nu < 256 := by rw [← hnu]; exact cu.toNat_lt
            have HHU : Hid (t.data.toList.tail.head? = some (UInt8.ofNat nu)) := by
              show _ = _
              rw [HTL.out, head_some htp', hcu, ← (u8_eq hnu256).2 hnu]
            by_cases hu46 : nu = 46
            · have hu : t.data.toList.tail.head? = some 46 := by rw [hu46] at HHU; exact HHU.out
              have p2 : ((nu : Int) != 46) = false := by rw [bne_eq_false_iff_eq]; omega
              have hst := HSM.out.trans (more_dot HNE.out HALL.out HH46.out hu)
              rw [HTL.out] at hst
              have HST := Lib.hid (fold_next HIL.out HF.out HX.out hst)
              clear hu46 hu hst
              go_wp2_with fail
              refine LC.out.mono ?_
              rintro e5 w5 ⟨rfl, hb5⟩
              have HB5 : Hid (Below (r + 1) W1 w5) := HB4.out.trans (hb5.mono (by have := HB4.out.size; rw [HW1.out] at this; exact this))
              clear hb5 LC
              obtain ⟨gg, cc, hform, hgB, hlc, hcm, hgl⟩ := (HP1.out.keep (by rw [HW1.out]; exact HB5.out)).form HNE.out
              obtain ⟨rfl, rfl⟩ : la = some ⟨gg, 0, none⟩ ∧ lc = cc := by cases hform; exact ⟨rfl, rfl⟩
              have HP5 := Lib.hid (HP1.out.keep (by rw [HW1.out]; exact HB5.out))
              obtain ⟨k0, k1⟩ := HP5.out.last_cells HNE.out
              have hlp : 0 < st.l.length := List.length_pos_iff.2 HNE.out
              obtain ⟨lm, hlm⟩ : ∃ lm, st.l.length - 1 = lm := ⟨_, rfl⟩
              have hlm1 : ((st.l.length : Nat) : Int) - 1 = ((lm : Nat) : Int) := by omega
              have hlm2 : lm < st.l.length := by omega
              obtain ⟨lv0, hlv0⟩ : ∃ lv0, (st.l.getLastD default).2 = lv0 := ⟨_, rfl⟩
              have hsz9 : lv0.size ≤ 20001 := by
                rw [← hlv0, lastD_eq HNE.out]
                exact Nat.le_trans (HGS.out.sz _ (List.getLast_mem HNE.out)).2 (by omega)
              have HLN := HP5.out.line HNE.out t'.data.toList (by
                rw [hlv0, ByteArray.size_append, ofL_size', List.length_cons]
                have e9 : t'.data.toList.length = t'.size := rfl
                omega)
              have eTX : lv0 ++ (⟨#[10]⟩ ++ t') = lv0 ++ ofL (10 :: t'.data.toList) := by
                congr 1
              rw [hlv0, hlm, ← eTX] at HLN
              rw [hlm, hlv0] at k0
              rw [hlm] at k1
              replace HLN := Lib.hid HLN
              have HBE : Hid (Below (z + 1) w2 (w5.setCell ⟨gg, lm * 2 + 1, none⟩ (.string (lv0 ++ (⟨#[10]⟩ ++ t'))))) := (HUP2.out _ HB5.out).setCell (p := ⟨gg, lm * 2 + 1, none⟩) hgB _
              clear hform hlv0 eTX hlm
              go_wp2_with fail
              go_roundg (nl - (i + 1))
              case rel => exact ⟨i + 1, _, _, _, _, rfl, rfl, by go_num, by omega, rfl, HST.out, HLN.out, HBE.out⟩
              case measure => have := Hk.out; omega
            · have hu : ¬ t.data.toList.tail.head? = some 46 := fun e => by
                rw [HHU.out] at e
                injection e with e
                have := congrArg UInt8.toNat e
                rw [UInt8.toNat_ofNat'] at this
                exact hu46 (by have h46 : (46 : UInt8).toNat = 46 := rfl; omega)
              have p2 : ((nu : Int) != 46) = true := by rw [bne_iff_ne]; omega
              have HBAD := Lib.hid (bad_at HIL.out HF.out HX.out (HSM.out.trans (more_bad HH46.out hu)))
              clear hu46 hu
              go_wp2_with fail
              refine LC.out.mono ?_
              rintro e5 w5 ⟨rfl, hb5⟩
              have HB5 : Hid (Below (r + 1) W1 w5) := HB4.out.trans (hb5.mono (by have := HB4.out.size; rw [HW1.out] at this; exact this))
              clear hb5 LC
              go_wp2_with fail
              go_ret2
              exact bad_end HLS.out.1 HBAD.out (HUP.out _ HB5.out) (HAT.out _ HB5.out)
          · have HN46 : Hid (¬ t.data.toList.head? = some 46) := fun e => by
              rw [HH.out] at e
              injection e with e
              have := congrArg UInt8.toNat e
              rw [UInt8.toNat_ofNat'] at this
              exact h46 (by have h46' : (46 : UInt8).toNat = 46 := rfl; omega)
            have p1 : ((nt : Int) == 46) = false := by rw [beq_eq_false_iff_ne]; omega
            have htl : ¬ t.toList = [46] := fun e => HN46.out (by rw [Lib.toList_data] at e; rw [e]; rfl)
            have s1 : (t.toList == [46]) = false := by rw [beq_eq_false_iff_ne]; exact htl
            have s2 : decide (t.toList = [46]) = false := decide_eq_false htl
            have HST := Lib.hid (fold_next HIL.out HF.out HX.out (HSM.out.trans (more_plain HNE.out HALL.out HN46.out)))
            clear h46
            go_wp2_with fail
            refine LC.out.mono ?_
            rintro e5 w5 ⟨rfl, hb5⟩
            have HB5 : Hid (Below (r + 1) W1 w5) := HB4.out.trans (hb5.mono (by have := HB4.out.size; rw [HW1.out] at this; exact this))
            clear hb5 LC
            obtain ⟨gg, cc, hform, hgB, hlc, hcm, hgl⟩ := (HP1.out.keep (by rw [HW1.out]; exact HB5.out)).form HNE.out
            obtain ⟨rfl, rfl⟩ : la = some ⟨gg, 0, none⟩ ∧ lc = cc := by cases hform; exact ⟨rfl, rfl⟩
            have HP5 := Lib.hid (HP1.out.keep (by rw [HW1.out]; exact HB5.out))
            obtain ⟨k0, k1⟩ := HP5.out.last_cells HNE.out
            have hlp : 0 < st.l.length := List.length_pos_iff.2 HNE.out
            obtain ⟨lm, hlm⟩ : ∃ lm, st.l.length - 1 = lm := ⟨_, rfl⟩
            have hlm1 : ((st.l.length : Nat) : Int) - 1 = ((lm : Nat) : Int) := by omega
            have hlm2 : lm < st.l.length := by omega
            obtain ⟨lv0, hlv0⟩ : ∃ lv0, (st.l.getLastD default).2 = lv0 := ⟨_, rfl⟩
            have hsz9 : lv0.size ≤ 20001 := by
              rw [← hlv0, lastD_eq HNE.out]
              exact Nat.le_trans (HGS.out.sz _ (List.getLast_mem HNE.out)).2 (by omega)
            have HLN := HP5.out.line HNE.out t.data.toList (by
              rw [hlv0, ByteArray.size_append, ofL_size', List.length_cons]
              have e9 : t.data.toList.length = t.size := rfl
              omega)
            have eTX : lv0 ++ (⟨#[10]⟩ ++ t) = lv0 ++ ofL (10 :: t.data.toList) := by
              congr 1
            rw [hlv0, hlm, ← eTX] at HLN
            rw [hlm, hlv0] at k0
            rw [hlm] at k1
            replace HLN := Lib.hid HLN
            have HBE : Hid (Below (z + 1) w2 (w5.setCell ⟨gg, lm * 2 + 1, none⟩ (.string (lv0 ++ (⟨#[10]⟩ ++ t))))) := (HUP2.out _ HB5.out).setCell (p := ⟨gg, lm * 2 + 1, none⟩) hgB _
            clear hform hlv0 eTX hlm
            go_wp2_with fail
            go_roundg (nl - (i + 1))
            case rel => exact ⟨i + 1, _, _, _, _, rfl, rfl, by go_num, by omega, rfl, HST.out, HLN.out, HBE.out⟩
            case measure => have := Hk.out; omega
      have HSM := Lib.hid (stepP_field (st := st) h35 HTN.out (by rw [head_at x hx0, hxc]; exact hbl))
      have HBK : Hid (¬ (n = 32 ∨ n = 9)) := fun h => by
        have := (blankC_iff c).2 (by rw [Hn.out]; exact h)
        rw [hbl] at this
        cases this
      have q1 : ((n : Int) == 32) = false := by rw [beq_eq_false_iff_ne]; intro h; exact HBK.out (Or.inl (by omega))
      have q2 : ((n : Int) == 9) = false := by rw [beq_eq_false_iff_ne]; intro h; exact HBK.out (Or.inr (by omega))
      clear hbl
      go_wp2_with fail
      refine TC.out.mono ?_
      rintro e3 w3 ⟨rfl, hb3⟩
      have HB3 : Hid (Below (r + 1) W1 w3) := hb3
      clear hb3 TC
      obtain ⟨A', B', ok, hcut⟩ : ∃ A' B' ok, Lib.cut x.data.toList [58] = (A', B', ok) := ⟨_, _, _, rfl⟩
      have hcl := cut_le x.data.toList 58
      have hfe := fieldP_eq (st := st) hcut
      have CC := cutB_calls x 58 w3 (by omega) (HMax.out.below (HUP.out _ HB3.out) HMax.out.lt)
      rw [hcut] at CC hcl
      dsimp only at CC hcl
      obtain ⟨A, hA⟩ : ∃ A, ofL A' = A := ⟨_, rfl⟩
      obtain ⟨Bb, hBb⟩ : ∃ Bb, ofL B' = Bb := ⟨_, rfl⟩
      have hAs : A.size ≤ x.size := by rw [← hA]; exact hcl.1
      have hBs : Bb.size ≤ x.size := by rw [← hBb]; exact hcl.2
      rw [hA, hBb] at CC hfe
      obtain ⟨T, hT⟩ : ∃ T, trimB Bb = T := ⟨_, rfl⟩
      have hTs : T.size ≤ x.size := by rw [← hT]; exact Nat.le_trans (trimB_le Bb) hBs
      rw [hT] at hfe
      have HT9 := Lib.hid hT
      have HFE := Lib.hid (HSM.out.trans hfe)
      replace CC := Lib.hid CC
      clear hcut hcl hfe hA hBb hT
      go_wp2_with fail
      refine CC.out.mono ?_
      rintro e4 w4 ⟨rfl, hb4⟩
      have HB4 : Hid (Below (r + 1) W1 w4) := HB3.out.trans (hb4.mono (by have := HB3.out.size; rw [HW1.out] at this; exact this))
      clear hb4 CC
      have hr4 : r + 1 ≤ w4.heap.size := by have := HB4.out.size; rw [HW1.out] at this; exact this
      have HBa : Hid (Below (r + 1) W1 (w4.alloc (.cells #[.string A] 9))) := HB4.out.alloc hr4 _
      have HAa : Hid ((w4.alloc (.cells #[.string A] 9)).heap[w4.heap.size]? = some (.cells #[.string A] 9)) := heap_alloc_new w4 _
      obtain ⟨ra, hra⟩ : ∃ ra, w4.heap.size = ra := ⟨_, rfl⟩
      go_upto_region 9 with fail
      obtain ⟨wa, hwa⟩ : ∃ wa : World, w4.alloc (.cells #[.string A] 9) = wa := ⟨_, rfl⟩
      rw [hwa] at HBa HAa ⊢
      have hwas : wa.heap.size = ra + 1 := by rw [← hwa, ← hra]; simp
      rw [hra] at HAa hr4
      clear hwa hra
      have hca : wa.cell? ⟨ra, 0, none⟩ = some (.string A) := by simp [World.cell?, HAa.out]
      go_cut [13] (fun v13 wx => ∃ rf, v13 = .pointer (some ⟨rf, 0, none⟩) ∧ wx.heap[rf]? = some (.cells #[.string A, .string T] 48) ∧ Below (ra + 1) wa wx)
      case first =>
        have HS0 : Hid (Below (ra + 1) wa wa.drew ∧ wa.drew.cell? ⟨ra, 0, none⟩ = some (.string A)) := ⟨(Below.refl _ _).drew, hca⟩
        have HSN : Hid (∀ w', Below (ra + 1) wa w' → Below (ra + 1) wa w' ∧ w'.cell? ⟨ra, 0, none⟩ = some (.string A)) := fun w' h => ⟨h, (h.cell (p := ⟨ra, 0, none⟩) (Nat.lt_succ_self ra)).trans hca⟩
        have TRM : Hid (∀ w', Calls Tryd.prog 31 #[.string Bb, .string ⟨#[32, 9]⟩] w' fun e w'' => e = .returned (.string T) ∧ Below w'.heap.size w' w'') := fun w' => by
          rw [← HT9.out]
          exact trim_calls Bb w' (by omega)
        clear hca
        refine wp_region_held_drew (S := (fun w' => Below (ra + 1) wa w' ∧ w'.cell? ⟨ra, 0, none⟩ = some (.string A))) (by kernel_rfl) ?_ (fun hHeld => ?_)
        · exact HS0.out
        refine wpAnyH_take (i := 0) (oi := _) (v := .string A) rfl (by kernel_rfl) (by kernel_rfl) (by kernel_rfl) (fun _ _ _ h => h) (Or.inl ⟨by kernel_rfl, fun w hSw => ?_⟩) hHeld ?_
        · (try dsimp only at hSw); go_simp
        try simp only [Act.put, List.getElem_toArray, List.getElem_cons_zero, List.setIfInBounds_toArray, List.set_cons_zero, List.set_cons_succ]
        refine wpAnyH_take (i := 1) (oi := _) (v := .string Bb) rfl (by kernel_rfl) (by kernel_rfl) (by kernel_rfl) (fun _ _ _ h => h) (Or.inl ⟨by kernel_rfl, fun w hSw => ?_⟩) hHeld ?_
        · (try dsimp only at hSw); go_simp
        try simp only [Act.put, List.getElem_toArray, List.getElem_cons_succ, List.getElem_cons_zero, List.setIfInBounds_toArray, List.set_cons_zero, List.set_cons_succ]
        refine wpAnyH_ready (rs := [2, 4]) (by kernel_rfl) (by simp) ?_
        refine (AllReadyH.cons (o := _) rfl (fun K hK => ?_) (AllReadyH.cons (o := _) rfl (fun K hK => ?_) AllReadyH.nil))
        · go_simp
          go_at_call 31
          refine (TRM.out _).mono ?_
          rintro e5 w5 ⟨rfl, hb5⟩
          have hb5' : Below (ra + 1) wa w5 := hHeld.1.trans (hb5.mono (by have := hHeld.1.size; omega))
          have hz5 : ra + 1 ≤ w5.heap.size := by have := hb5'.size; omega
          clear hb5
          refine hK.out _ _ (HSN.out _ hb5') (fun hHeld2 => ?_)
          clear hK K hHeld
          have hHeld := hHeld2
          clear hHeld2
          try simp only [Act.put, List.getElem_toArray, List.getElem_cons_succ, List.getElem_cons_zero, List.setIfInBounds_toArray, List.set_cons_zero, List.set_cons_succ]
          refine wpAnyH_take (i := 3) (oi := _) (v := .agg #[.string A, .string T]) rfl (by kernel_rfl) (by kernel_rfl) (by kernel_rfl) (fun _ _ _ h => h) (Or.inl ⟨by kernel_rfl, fun w hSw => ?_⟩) hHeld ?_
          · (try dsimp only at hSw); go_simp
          try simp only [Act.put, List.getElem_toArray, List.getElem_cons_succ, List.getElem_cons_zero, List.setIfInBounds_toArray, List.set_cons_zero, List.set_cons_succ]
          refine wpAnyH_ready (rs := [4]) (by kernel_rfl) (by simp) ?_
          refine (AllReadyH.cons (o := _) rfl (fun K hK => ?_) AllReadyH.nil)
          go_simp
          refine hK.out _ _ (HSN.out _ (hb5'.alloc hz5 _)) (fun hHeld2 => ?_)
          clear hK K hHeld
          have hHeld := hHeld2
          clear hHeld2
          try simp only [Act.put, List.getElem_toArray, List.getElem_cons_succ, List.getElem_cons_zero, List.setIfInBounds_toArray, List.set_cons_zero, List.set_cons_succ]
          refine wpAnyH_ready (rs := [5]) (by kernel_rfl) (by simp) ?_
          refine (AllReadyH.cons (o := _) rfl (fun K hK => ?_) AllReadyH.nil)
          go_simp
          refine hK.out _ _ (HSN.out _ (hb5'.alloc hz5 _)) (fun hHeld2 => ?_)
          clear hK K hHeld
          have hHeld := hHeld2
          clear hHeld2
          try simp only [Act.put, List.getElem_toArray, List.getElem_cons_succ, List.getElem_cons_zero, List.setIfInBounds_toArray, List.set_cons_zero, List.set_cons_succ]
          refine wpAnyH_done (by kernel_rfl) ?_ _
          go_wp2_with fail
          go_meet
          exact ⟨_, rfl, heap_alloc_new w5 _, hHeld.1⟩
        · go_simp
          refine hK.out _ _ (HSN.out _ (hHeld.1.alloc (by have := hHeld.1.size; omega) _)) (fun hHeld2 => ?_)
          clear hK K hHeld
          have hHeld := hHeld2
          clear hHeld2
          try simp only [Act.put, List.getElem_toArray, List.getElem_cons_succ, List.getElem_cons_zero, List.setIfInBounds_toArray, List.set_cons_zero, List.set_cons_succ]
          refine wpAnyH_ready (rs := [2]) (by kernel_rfl) (by simp) ?_
          refine (AllReadyH.cons (o := _) rfl (fun K hK => ?_) AllReadyH.nil)
          go_simp
          go_at_call 31
          refine (TRM.out _).mono ?_
          rintro e5 w5 ⟨rfl, hb5⟩
          have hd5 : w5.heap[ra + 1]? = some (.cells #[.string ⟨#[]⟩, .string ⟨#[]⟩] 48) := (hb5.block (ra + 1) (by simp; omega)).trans (by
            have := heap_alloc_new wa.drew (.cells #[.string ⟨#[]⟩, .string ⟨#[]⟩] 48)
            rw [show wa.drew.heap.size = ra + 1 from hwas] at this
            exact this)
          have hb5' : Below (ra + 1) wa w5 := hHeld.1.trans (hb5.mono (by have := hHeld.1.size; omega))
          clear hb5
          have f0 : w5.cell? ⟨ra + 1, 0, none⟩ = some (.string ⟨#[]⟩) := by simp [World.cell?, hd5]
          have f1 : w5.cell? ⟨ra + 1, 1, none⟩ = some (.string ⟨#[]⟩) := by simp [World.cell?, hd5]
          have f2 : w5.frozen? ⟨ra + 1, 0, none⟩ = false := by simp [World.frozen?, hd5]
          have f3 : w5.frozen? ⟨ra + 1, 1, none⟩ = false := by simp [World.frozen?, hd5]
          have f4 : ra + 1 < w5.heap.size := blk_lt hd5
          have HD5 : Hid (((w5.setCell ⟨ra + 1, 0, none⟩ (.string A)).setCell ⟨ra + 1, 1, none⟩ (.string T)).heap[ra + 1]? = some (.cells #[.string A, .string T] 48)) := by
            have g1 := blk_same w5 (ra + 1) 0 (.string A) hd5
            exact blk_same _ (ra + 1) 1 (.string T) g1
          clear hd5
          refine hK.out _ _ (HSN.out _ hb5') (fun hHeld2 => ?_)
          clear hK K hHeld
          have hHeld := hHeld2
          clear hHeld2
          try simp only [Act.put, List.getElem_toArray, List.getElem_cons_succ, List.getElem_cons_zero, List.setIfInBounds_toArray, List.set_cons_zero, List.set_cons_succ]
          refine wpAnyH_take (i := 3) (oi := _) (v := .agg #[.string A, .string T]) rfl (by kernel_rfl) (by kernel_rfl) (by kernel_rfl) (fun _ _ _ h => h) (Or.inl ⟨by kernel_rfl, fun w hSw => ?_⟩) hHeld ?_
          · (try dsimp only at hSw); go_simp
          try simp only [Act.put, List.getElem_toArray, List.getElem_cons_succ, List.getElem_cons_zero, List.setIfInBounds_toArray, List.set_cons_zero, List.set_cons_succ]
          refine wpAnyH_ready (rs := [5]) (by kernel_rfl) (by simp) ?_
          refine (AllReadyH.cons (o := _) rfl (fun K hK => ?_) AllReadyH.nil)
          go_simp
          refine hK.out _ _ (HSN.out _ ((hb5'.setCell (p := ⟨ra + 1, 0, none⟩) (Nat.le_refl _) _).setCell (p := ⟨ra + 1, 1, none⟩) (Nat.le_refl _) _)) (fun hHeld2 => ?_)
          clear hK K hHeld
          have hHeld := hHeld2
          clear hHeld2
          try simp only [Act.put, List.getElem_toArray, List.getElem_cons_succ, List.getElem_cons_zero, List.setIfInBounds_toArray, List.set_cons_zero, List.set_cons_succ]
          refine wpAnyH_done (by kernel_rfl) ?_ _
          go_wp2_with fail
          go_meet
          exact ⟨_, rfl, HD5.out, hHeld.1⟩
      case rest =>
        obtain ⟨rf, rfl, hrf, hbx⟩ := hcut
        have HBx : Hid (Below (r + 1) W1 wc) := HBa.out.trans (hbx.mono (by omega))
        have hfl := blk_lt hrf
        have f0 : wc.cell? ⟨rf, 0, none⟩ = some (.string A) := by simp [World.cell?, hrf]
        have f1 : wc.cell? ⟨rf, 1, none⟩ = some (.string T) := by simp [World.cell?, hrf]
        have fa : wc.cell? ⟨ra, 0, none⟩ = some (.string A) := (hbx.cell (p := ⟨ra, 0, none⟩) (Nat.lt_succ_self ra)).trans hca
        have hral : ra < wc.heap.size := by have := hbx.size; omega
        have HRF := Lib.hid hrf
        clear hrf hbx hca
        cases ok
        · have HBAD := Lib.hid (bad_at HIL.out HF.out HX.out (HFE.out.trans (if_neg (by simp))))
          go_wp2_with fail
          go_ret2
          exact bad_end HLS.out.1 HBAD.out (HUP.out _ HBx.out) (HAT.out _ HBx.out)
        have NC := Lib.hid (name_calls A wc (by omega))
        cases hnm : nameS A
        · rw [hnm] at NC
          have HBAD := Lib.hid (bad_at HIL.out HF.out HX.out (HFE.out.trans (if_neg (by rw [hnm]; simp))))
          clear hnm
          go_wp2_with fail
          refine NC.out.mono ?_
          rintro e6 w6 ⟨rfl, hw6⟩
          obtain rfl : wc = w6 := hw6
          clear NC
          go_wp2_with fail
          go_ret2
          exact bad_end HLS.out.1 HBAD.out (HUP.out _ HBx.out) (HAT.out _ HBx.out)
        rw [hnm] at NC
        have LC := Lib.hid (line_calls T wc (by omega))
        cases hln : lineS T
        · rw [hln] at LC
          have HBAD := Lib.hid (bad_at HIL.out HF.out HX.out (HFE.out.trans (if_neg (by rw [hnm, hln]; simp))))
          clear hnm hln
          go_wp2_with fail
          refine NC.out.mono ?_
          rintro e6 w6 ⟨rfl, hw6⟩
          obtain rfl : wc = w6 := hw6
          clear NC
          go_wp2_with fail
          refine LC.out.mono ?_
          rintro e7 w7 ⟨rfl, hb7⟩
          have HB7 : Hid (Below (r + 1) W1 w7) := HBx.out.trans (hb7.mono (by have := HBx.out.size; rw [HW1.out] at this; exact this))
          clear hb7 LC
          go_wp2_with fail
          go_ret2
          exact bad_end HLS.out.1 HBAD.out (HUP.out _ HB7.out) (HAT.out _ HB7.out)
        rw [hln] at LC
        by_cases h40 : 40 ≤ st.l.length
        · have HBAD := Lib.hid (bad_at HIL.out HF.out HX.out (HFE.out.trans (if_neg (by rw [hnm, hln, decide_eq_false (show ¬ st.l.length < 40 by omega)]; simp))))
          have p1 : decide ((st.l.length : Int) ≥ 40) = true := decide_eq_true (by omega)
          have p2 : decide ((40 : Int) ≤ st.l.length) = true := decide_eq_true (by omega)
          clear hnm hln
          go_wp2_with fail
          refine NC.out.mono ?_
          rintro e6 w6 ⟨rfl, hw6⟩
          obtain rfl : wc = w6 := hw6
          clear NC
          go_wp2_with fail
          refine LC.out.mono ?_
          rintro e7 w7 ⟨rfl, hb7⟩
          have HB7 : Hid (Below (r + 1) W1 w7) := HBx.out.trans (hb7.mono (by have := HBx.out.size; rw [HW1.out] at this; exact this))
          clear hb7 LC
          go_wp2_with fail
          go_ret2
          exact bad_end HLS.out.1 HBAD.out (HUP.out _ HB7.out) (HAT.out _ HB7.out)
        have p1 : decide ((st.l.length : Int) ≥ 40) = false := decide_eq_false (by omega)
        have p2 : decide ((40 : Int) ≤ st.l.length) = false := decide_eq_false (by omega)
        obtain ⟨an, han⟩ : ∃ an, st.l.any (sameN A) = an := ⟨_, rfl⟩
        have CF : Hid (∀ w7, Below wc.heap.size wc w7 → Calls Tryd.prog 35 #[.slice la st.l.length lc, .func (.func 36) #[] #[.pointer (some ⟨ra, 0, none⟩)]] w7 fun e w' => e = .returned (.bool an) ∧ Below w7.heap.size w7 w') := fun w7 hb7 => by
          rw [← han]
          have hP7 := HP1.out.keep (w' := w7) (by rw [HW1.out]; exact HBx.out.trans (hb7.mono (by have := HBx.out.size; rw [HW1.out] at this; exact this)))
          have hz7 := hb7.size
          refine containsFld_calls _ st.l _ _ (sameN A) w7 hP7.flds parse1_enters ?_
          intro g hg w' hb'
          have hz8 := hb'.size
          exact parse1_calls g ra A w' (hP7.sz g hg) (by omega) (by omega) ((hb'.cell (p := ⟨ra, 0, none⟩) (by show ra < _; omega)).trans ((hb7.cell (p := ⟨ra, 0, none⟩) hral).trans fa))
        cases an
        case' true =>
          have HBAD := Lib.hid (bad_at HIL.out HF.out HX.out (HFE.out.trans (if_neg (by rw [han]; simp))))
          clear hnm hln han
          go_wp2_with fail
          refine NC.out.mono ?_
          rintro e6 w6 ⟨rfl, hw6⟩
          obtain rfl : wc = w6 := hw6
          clear NC
          go_wp2_with fail
          refine LC.out.mono ?_
          rintro e7 w7 ⟨rfl, hb7⟩
          have C7 := Lib.hid (CF.out w7 hb7)
          have HB7 : Hid (Below (r + 1) W1 w7) := HBx.out.trans (hb7.mono (by have := HBx.out.size; rw [HW1.out] at this; exact this))
          clear hb7 LC CF
          go_wp2_with fail
          refine C7.out.mono ?_
          rintro e8 w8 ⟨rfl, hb8⟩
          have HB8 : Hid (Below (r + 1) W1 w8) := HB7.out.trans (hb8.mono (by have := HB7.out.size; rw [HW1.out] at this; exact this))
          clear hb8 C7
          go_wp2_with fail
          go_ret2
          exact bad_end HLS.out.1 HBAD.out (HUP.out _ HB8.out) (HAT.out _ HB8.out)
        have HST := Lib.hid (fold_next HIL.out HF.out HX.out (HFE.out.trans (if_pos (by rw [hnm, hln, han, decide_eq_true (show st.l.length < 40 by omega)]; rfl))))
        clear hnm hln han
        go_wp2_with fail
        refine NC.out.mono ?_
        rintro e6 w6 ⟨rfl, hw6⟩
        obtain rfl : wc = w6 := hw6
        clear NC
        go_wp2_with fail
        refine LC.out.mono ?_
        rintro e7 w7 ⟨rfl, hb7⟩
        have C7 := Lib.hid (CF.out w7 hb7)
        have HB7 : Hid (Below (r + 1) W1 w7) := HBx.out.trans (hb7.mono (by have := HBx.out.size; rw [HW1.out] at this; exact this))
        have HR7 : Hid (w7.heap[rf]? = some (.cells #[.string A, .string T] 48)) := (hb7.block rf hfl).trans HRF.out
        clear hb7 LC CF f0 f1 fa
        go_wp2_with fail
        refine C7.out.mono ?_
        rintro e8 w8 ⟨rfl, hb8⟩
        have HB8 : Hid (Below (r + 1) W1 w8) := HB7.out.trans (hb8.mono (by have := HB7.out.size; rw [HW1.out] at this; exact this))
        have HR8 : Hid (w8.heap[rf]? = some (.cells #[.string A, .string T] 48)) := (hb8.block rf (blk_lt HR7.out)).trans HR7.out
        clear hb8 C7
        have f0 : w8.cell? ⟨rf, 0, none⟩ = some (.string A) := by simp [World.cell?, HR8.out]
        have f1 : w8.cell? ⟨rf, 1, none⟩ = some (.string T) := by simp [World.cell?, HR8.out]
        have HP8 := Lib.hid (HP1.out.keep (by rw [HW1.out]; exact HB8.out))
        have HBE := Lib.hid (HUP2.out _ HB8.out)
        have hz8 : z + 1 ≤ w8.heap.size := by have := HBE.out.size; omega
        have HPa := Lib.hid (HP8.out.keep ((Below.refl _ _).alloc (Nat.le_refl _) (.cells #[.string A, .string T] 48)))
        go_wp2_with (at_builtin; refine wpList_append_own_at _ rfl _ _ 34 rfl (z + 1) 48 i0 _ 2 32 Tryd.underlying34 Hi0.out.1 Hi0.out.2.1 Hi0.out.2.2.1 Hi0.out.2.2.2 rfl (by decide) (.slice la st.l.length lc) st.l.length (cellsF st.l) rfl HPa.out.row ⟨w8.heap.size, 0, none⟩ 1 1 [.string A, .string T] rfl rfl (World.news_of_block (cs := #[.string A, .string T]) (t := 48) (fr := (0, 0)) (heap_alloc_new w8 _)) (by simp [Value.oneCell']) (by unfold maxLen; omega) (by omega) (by simp; omega) ?_)
        intro v' w9 hown hgrow _ hat
        have HB9 : Hid (Below (z + 1) w2 w9) := (HBE.out.alloc hz8 (.cells #[.string A, .string T] 48)).grown hgrow (by simp; omega) (fun k e => (HPa.out.row.lt k e).1)
        have HP9 := Lib.hid (HPa.out.add hgrow hown (by simpa using hat) ⟨by show A.size ≤ _; omega, by show T.size ≤ _; omega⟩)
        clear hown hgrow hat
        go_wp2_with fail
        go_roundg (nl - (i + 1))
        case rel => exact ⟨i + 1, _, _, _, _, rfl, rfl, by go_num, by omega, rfl, HST.out, HP9.out, HB9.out⟩
        case measure => have := Hk.out; omega
    · obtain rfl : i = nl := by omega
      have hF := HF.out
      rw [← HLS.out.2, List.take_length, ← HLS.out.1] at hF
      have HPD := Lib.hid (parse_done hF)
      clear hF
      by_cases hl0 : st.l.length = 0
      · have HPE : Hid (parseS s = some st.outs) := by
          have := HPD.out
          unfold flushP at this
          rwa [if_pos (List.eq_nil_of_length_eq_zero hl0)] at this
        have q1 : decide ((st.l.length : Int) > 0) = false := decide_eq_false (by omega)
        have q2 : decide ((0 : Int) < st.l.length) = false := decide_eq_false (by omega)
        go_wp2_with fail
        go_ret2
        exact ⟨_, _, rfl, HUP0.out _ HB.out, Or.inl ⟨_, HPE.out, HP.out.grps, rfl⟩⟩
      · have hne : st.l ≠ [] := fun e => hl0 (by rw [e]; rfl)
        have HPE : Hid (parseS s = some (st.outs ++ [st.l])) := by
          have := HPD.out
          unfold flushP at this
          rwa [if_neg hne] at this
        have q1 : decide ((st.l.length : Int) > 0) = true := decide_eq_true (by omega)
        have q2 : decide ((0 : Int) < st.l.length) = true := decide_eq_true (by omega)
        have hz3 : z + 1 ≤ wr.heap.size := by have := HB.out.size; omega
        have HPa := Lib.hid (HP.out.keep ((Below.refl _ _).alloc (Nat.le_refl _) (.cells #[.slice la st.l.length lc] 34)))
        clear hne
        go_wp2_with (at_builtin; refine wpList_append_own_at _ rfl _ _ 22 rfl (z + 1) 34 j0 _ 1 24 Tryd.underlying22 Hj0.out.1 Hj0.out.2.1 Hj0.out.2.2.1 Hj0.out.2.2.2 rfl (by decide) (.slice oa qs.length oc) qs.length qs rfl HPa.out.out ⟨wr.heap.size, 0, none⟩ 1 1 [.slice la st.l.length lc] rfl rfl (World.news_of_block (cs := #[.slice la st.l.length lc]) (t := 34) (fr := (0, 0)) (heap_alloc_new wr _)) (by simp [Value.oneCell']) (by unfold maxLen; omega) (by omega) (by simp; omega) ?_)
        intro v' w5 hown hgrow _ hat
        have HB5 : Hid (Below (z + 1) w2 w5) := (HB.out.alloc hz3 (.cells #[.slice la st.l.length lc] 34)).grown hgrow (by simp; omega) (fun k e => (HPa.out.out.lt k e).1)
        have HP5 := Lib.hid (HPa.out.flush hgrow hown (by simpa using hat) (slice_one _ _ _))
        clear hown hgrow hat
        go_wp2_with fail
        go_ret2
        exact ⟨_, _, rfl, HUP0.out _ HB5.out, Or.inl ⟨_, HPE.out, HP5.out.grps, rfl⟩⟩
end Go.Proofs.YtpiobckemlkomaaDoor
