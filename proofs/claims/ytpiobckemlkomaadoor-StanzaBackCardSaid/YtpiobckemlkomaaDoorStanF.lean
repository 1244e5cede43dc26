/- Stanzas: what fields are written as, and which may be one: the document's. (Written by gen_stanf.py.) -/
import Derived.Test.YtpiobckemlkomaaDoorStanE
namespace Go.Proofs.YtpiobckemlkomaaDoor
open Go.RowKit
set_option maxRecDepth 100000
set_option maxHeartbeats 4000000

def pieceL (n : List UInt8) (k : Nat) (t : List UInt8) : List UInt8 := if k = 0 then firstL n t else restL t
def upTo (n : List UInt8) (ls : List ByteArray) (j : Nat) : List UInt8 := (List.range j).flatMap fun k => pieceL n k (ls.getD k ⟨#[]⟩).data.toList
theorem upTo_succ (n : List UInt8) (ls : List ByteArray) (j : Nat) : upTo n ls (j + 1) = upTo n ls j ++ pieceL n j (ls.getD j ⟨#[]⟩).data.toList := by
  unfold upTo
  rw [List.range_succ, List.flatMap_append]
  simp
theorem upTo_rest (n : List UInt8) (a : ByteArray) : ∀ (ps : List (List UInt8)), upTo n (a :: ps.map ofL) (ps.length + 1) = firstL n a.data.toList ++ ps.flatMap restL := by
  intro ps
  have key : ∀ j, j ≤ ps.length → upTo n (a :: ps.map ofL) (j + 1) = firstL n a.data.toList ++ (ps.take j).flatMap restL := by
    intro j
    induction j with
    | zero =>
      intro _
      rw [upTo_succ]
      simp [upTo, pieceL]
    | succ j ih =>
      intro hj
      rw [upTo_succ, ih (by omega), List.append_assoc, List.take_succ_eq_append_getElem (show j < ps.length by omega), List.flatMap_append]
      congr 2
      have e1 : (a :: ps.map ofL).getD (j + 1) ⟨#[]⟩ = ofL (ps[j]'(by omega)) := by
        have hj' : j < ps.length := by omega
        simp [List.getD_eq_getElem?_getD, hj']
      rw [e1]
      simp [pieceL, ofL]
  have := key ps.length (Nat.le_refl _)
  rwa [List.take_length] at this
theorem upTo_end (x y : ByteArray) : upTo x.data.toList (linesB y) (linesB y).length = fieldL (x, y) := by
  unfold linesB fieldL
  cases e : splitC 10 y.data.toList with
  | nil => exact absurd e (splitC_ne 10 _)
  | cons a ps =>
    rw [List.map_cons, List.length_cons, List.length_map]
    exact upTo_rest x.data.toList (ofL a) ps
theorem upTo_mono (n : List UInt8) (ls : List ByteArray) {i j : Nat} (h : i ≤ j) : (upTo n ls i).length ≤ (upTo n ls j).length := by
  induction h with
  | refl => exact Nat.le_refl _
  | step _ ih =>
    rw [upTo_succ, List.length_append]
    omega
theorem ofL_ext {a : ByteArray} {l : List UInt8} (h : a.data.toList = l) : a = ofL l := by rw [← h]; rfl
theorem hasPre1 (l : List UInt8) (c : UInt8) : Lib.hasPrefix l [c] = decide (l.head? = some c) := by
  unfold Lib.hasPrefix
  cases l with
  | nil => rfl
  | cons x l =>
    show (c == x && true) = _
    rw [Bool.eq_iff_iff, Bool.and_true, beq_iff_eq, decide_eq_true_iff, List.head?_cons, Option.some.injEq]
    exact eq_comm

theorem rtext_calls (v : Value) (l : List FieldD) (w : World) (hT : Flds w v l) (hm : MaxV w) (hl : l.length ≤ 60) :
    Calls Tryd.prog 38 #[v] w fun e w' => e = .returned (.string (ofL (textL l))) ∧ Below w.heap.size w w' := by
  have hlen := textL_len l hT.2
  obtain ⟨⟨a, cap, rfl, hcap, hmax, hcell⟩, hsz⟩ := hT
  unfold maxLen at hmax
  obtain ⟨m, hm'⟩ : ∃ m, l.length = m := ⟨_, rfl⟩
  have Hcell := Lib.hid hcell
  have Hsz := Lib.hid hsz
  have HMax := Lib.hid hm
  clear hcell hsz hm
  rw [hm'] at hcap Hcell hl hlen
  have HTLn : Hid ((textL l).length ≤ 36000000) := by show _ ≤ _; omega
  have Hm := Lib.hid hm'
  clear hlen
  rw [hm']
  clear hm'
  obtain ⟨z, hz⟩ : ∃ z, w.heap.size = z := ⟨_, rfl⟩
  have Hz := Lib.hid hz
  rw [hz]
  clear hz
  go_enter Tryd.func38, Tryd.ntmps38
  go_wp2_with fail
  go_loopg [3, 10] m (fun k v3 vk wr => ∃ i : Nat, v3 = .string (ofL (textL (l.take i))) ∧ vk = .int .i64 i ∧ i ≤ m ∧ k = m - i ∧ Below z w wr)
  case atStart => exact ⟨0, rfl, rfl, Nat.zero_le _, rfl, Below.refl _ _⟩
  case round =>
    obtain ⟨i, rfl, rfl, hi, hk, hB⟩ := hrel
    have Hk := Lib.hid hk
    have HB := Lib.hid hB
    clear hk hB
    obtain ⟨A0, hA0⟩ : ∃ A0, ofL (textL (l.take i)) = A0 := ⟨_, rfl⟩
    have HA0' := Lib.hid hA0
    rw [hA0]
    clear hA0
    by_cases hlt : i < m
    · obtain ⟨b, o, rfl, hb, hc⟩ := Hcell.out.resolve_left (by omega)
      rw [Hz.out] at hb
      obtain ⟨t, ht⟩ : ∃ t, l.getD i default = t := ⟨_, rfl⟩
      have hs := SzF.at_ Hsz.out i
      have c0 : wr.cell? ⟨b, o + i * 2, none⟩ = some (.string t.1) := (HB.out.cell (p := ⟨b, o + i * 2, none⟩) hb).trans (by have := hc i 0 hlt (by decide); rw [ht] at this; exact this)
      have c1 : wr.cell? ⟨b, o + i * 2 + 1, none⟩ = some (.string t.2) := (HB.out.cell (p := ⟨b, o + i * 2 + 1, none⟩) hb).trans (by have := hc i 1 hlt (by decide); rw [ht] at this; exact this)
      rw [ht] at hs
      obtain ⟨x, y⟩ := t
      have HT : Hid (l.getD i default = (x, y)) := ht
      dsimp only at c0 c1
      obtain ⟨hs1, hs2⟩ := hs
      dsimp only at hs1 hs2
      have Hs2 := Lib.hid hs2
      have hzr : z ≤ wr.heap.size := by have := HB.out.size; rw [Hz.out] at this; exact this
      have HB0 : Hid (Below z w (wr.alloc (.cells #[.string x, .string y] 48))) := HB.out.alloc hzr _
      have HA0 : Hid ((wr.alloc (.cells #[.string x, .string y] 48)).heap[wr.heap.size]? = some (.cells #[.string x, .string y] 48)) := heap_alloc_new wr _
      obtain ⟨r, hr⟩ : ∃ r, wr.heap.size = r := ⟨_, rfl⟩
      have HTK : Hid (textL (l.take (i + 1)) = textL (l.take i) ++ fieldL (x, y)) := by
        have := textL_take (l := l) (i := i) (by rw [Hm.out]; exact hlt)
        rw [ht] at this
        exact this
      have HTK2 : Hid ((textL (l.take (i + 1))).length ≤ 36000000) := Nat.le_trans (textL_le l (i + 1)) HTLn.out
      clear hc ht
      go_wp2_with fail
      obtain ⟨w0, hw0⟩ : ∃ w0 : World, wr.alloc (.cells #[.string x, .string y] 48) = w0 := ⟨_, rfl⟩
      rw [hw0] at HB0 HA0 ⊢
      have hw0z : w0.heap.size = r + 1 := by rw [← hw0, ← hr]; simp
      rw [hr] at HA0 hzr
      clear hw0 hr
      have d1 : w0.cell? ⟨r, 1, none⟩ = some (.string y) := by simp [World.cell?, HA0.out]
      have SP := Lib.hid (split_calls y w0 (by omega) (HMax.out.below HB0.out (by rw [← Hz.out]; exact HMax.out.lt)))
      obtain ⟨ls, hls⟩ : ∃ ls, linesB y = ls := ⟨_, rfl⟩
      obtain ⟨nl, hnl⟩ : ∃ nl, ls.length = nl := ⟨_, rfl⟩
      rw [hls, hnl] at SP
      have hnle : nl ≤ 100001 := by
        rw [← hnl, ← hls]
        exact linesB_le y Hs2.out
      have HLC : Hid (∀ j, j < nl → (w0.alloc (.cells (ls.map Value.string).toArray 9)).cell? ⟨w0.heap.size, j, none⟩ = some (.string (ls.getD j ⟨#[]⟩))) := fun j hj => by
        rw [← hls]
        exact linesB_cell y w0 (by rw [hls, hnl]; exact hj)
      have HB2 : Hid (Below z w (w0.alloc (.cells (ls.map Value.string).toArray 9))) := HB0.out.alloc (by omega) _
      have HLS := Lib.hid (And.intro hls hnl)
      have HFE : Hid (upTo x.data.toList ls nl = fieldL (x, y)) := by
        show _ = _
        rw [← hnl, ← hls]
        exact upTo_end x y
      rw [hw0z] at SP HLC
      have hq2 : (w0.alloc (.cells (ls.map Value.string).toArray 9)).heap.size = r + 2 := by simp [hw0z]
      have HA2 : Hid ((w0.alloc (.cells (ls.map Value.string).toArray 9)).heap[r]? = some (.cells #[.string x, .string y] 48)) := by
        show _ = _
        rw [Below.heap_alloc _ _ _ (by omega)]
        exact HA0.out
      obtain ⟨w2, hw2⟩ : ∃ w2 : World, w0.alloc (.cells (ls.map Value.string).toArray 9) = w2 := ⟨_, rfl⟩
      rw [hw2] at SP HLC HB2 HA2 hq2
      clear hls hnl hw2
      go_wp2_with fail
      refine SP.out.mono ?_
      rintro e4 w3 ⟨rfl, rfl⟩
      obtain ⟨w2, rfl⟩ : ∃ w2, w2 = w3 := ⟨_, rfl⟩
      clear SP d1 hw0z c0 c1
      have d0 : w2.cell? ⟨r, 0, none⟩ = some (.string x) := by simp [World.cell?, HA2.out]
      go_wp2_with fail
      go_loopg [3, 18] nl (fun k v3 vk wr => ∃ j : Nat, v3 = .string (ofL (A0.data.toList ++ upTo x.data.toList ls j)) ∧ vk = .int .i64 j ∧ j ≤ nl ∧ k = nl - j ∧ wr = w2)
      case atStart => exact ⟨0, by simp [upTo, ofL_eta], rfl, Nat.zero_le _, rfl, rfl⟩
      case round =>
        obtain ⟨j, rfl, rfl, hj, hkj, hwe⟩ := hrel
        obtain rfl : w2 = wr := hwe.symm
        have Hkj := Lib.hid hkj
        obtain ⟨S, hS⟩ : ∃ S, ofL (A0.data.toList ++ upTo x.data.toList ls j) = S := ⟨_, rfl⟩
        have hSd : S.data.toList = A0.data.toList ++ upTo x.data.toList ls j := by rw [← hS]; rfl
        have HSD := Lib.hid hSd
        rw [hS]
        clear hkj hS hSd
        by_cases hjl : j < nl
        · have hcell := HLC.out j hjl
          obtain ⟨t, ht⟩ : ∃ t, ls.getD j ⟨#[]⟩ = t := ⟨_, rfl⟩
          rw [ht] at hcell
          have htl : t.size ≤ 100000 := by
            rw [← ht, ← HLS.out.1]
            exact Nat.le_trans (linesB_size y j) Hs2.out
          have HUP : Hid (upTo x.data.toList ls (j + 1) = upTo x.data.toList ls j ++ pieceL x.data.toList j t.data.toList) := by
            show _ = _
            rw [upTo_succ, ht]
          have hlenS : S.size + (pieceL x.data.toList j t.data.toList).length ≤ 36000000 := by
            have e1 : S.size = S.data.toList.length := rfl
            rw [e1, HSD.out]
            have h1 := HTK2.out
            rw [HTK.out, ← HFE.out, List.length_append] at h1
            have h2 := upTo_mono x.data.toList ls (show j + 1 ≤ nl by omega)
            rw [HUP.out, List.length_append] at h2
            have h3 : A0.data.toList.length = (textL (l.take i)).length := by rw [← HA0'.out]; rfl
            rw [List.length_append]
            omega
          have hS1 : S.size ≤ 36000000 := by omega
          clear hlenS ht
          have END : Hid (∀ T : ByteArray, T.data.toList = S.data.toList ++ pieceL x.data.toList j t.data.toList → T = ofL (A0.data.toList ++ upTo x.data.toList ls (j + 1))) := fun T hT => by
            refine ofL_ext ?_
            rw [hT, HSD.out, HUP.out, List.append_assoc]
          by_cases hj0 : j = 0
          · have q1 : ((j : Int) == 0) = true := by rw [beq_iff_eq]; omega
            by_cases ht0 : t.size = 0
            · obtain ⟨t1, t2⟩ := emptyL ht0
              have HE1 : Hid (S ++ (x ++ ⟨#[58, 10]⟩) = ofL (A0.data.toList ++ upTo x.data.toList ls (j + 1))) := END.out _ (by
                have e9 : t.data.toList = [] := List.eq_nil_of_length_eq_zero ht0
                rw [e9]
                simp [pieceL, hj0, firstL])
              clear hj0 ht0
              go_wp2_with fail
              go_roundg (nl - (j + 1))
              case rel => exact ⟨j + 1, by rw [HE1.out], by go_num, by omega, rfl, rfl⟩
              case measure => have := Hkj.out; omega
            · obtain ⟨t1, t2⟩ := emptyN ht0
              have HE1 : Hid (S ++ (x ++ ⟨#[58, 32]⟩ ++ t ++ ⟨#[10]⟩) = ofL (A0.data.toList ++ upTo x.data.toList ls (j + 1))) := END.out _ (by
                have e9 : ¬ t.data.toList = [] := fun e => ht0 (by have := congrArg List.length e; exact this)
                simp only [pieceL, hj0, firstL, if_neg e9, if_true]
                simp)
              clear hj0 ht0
              go_wp2_with fail
              go_roundg (nl - (j + 1))
              case rel => exact ⟨j + 1, by rw [HE1.out], by go_num, by omega, rfl, rfl⟩
              case measure => have := Hkj.out; omega
          · have q1 : ((j : Int) == 0) = false := by rw [beq_eq_false_iff_ne]; omega
            have HP := Tryd.strings_HasPrefix t ⟨#[46]⟩ w2
            have e46 : (ByteArray.mk #[46]).data.toList = [46] := rfl
            rw [e46, hasPre1] at HP
            have HP := Lib.hid HP
            by_cases hp : t.data.toList.head? = some 46
            · have HE1 : Hid (S ++ (⟨#[32, 46]⟩ ++ t ++ ⟨#[10]⟩) = ofL (A0.data.toList ++ upTo x.data.toList ls (j + 1))) := END.out _ (by
                simp only [pieceL, hj0, restL, if_pos hp, if_false]
                simp)
              rw [decide_eq_true hp] at HP
              clear hj0 hp e46
              go_wp2_with fail
              refine HP.out.mono ?_
              rintro e5 w5 ⟨rfl, hw5⟩
              subst hw5
              clear HP
              go_wp2_with fail
              go_roundg (nl - (j + 1))
              case rel => exact ⟨j + 1, by rw [HE1.out], by go_num, by omega, rfl, rfl⟩
              case measure => have := Hkj.out; omega
            · have HE1 : Hid (S ++ (⟨#[32]⟩ ++ t ++ ⟨#[10]⟩) = ofL (A0.data.toList ++ upTo x.data.toList ls (j + 1))) := END.out _ (by
                simp only [pieceL, hj0, restL, if_neg hp, if_false]
                simp)
              rw [decide_eq_false hp] at HP
              clear hj0 hp e46
              go_wp2_with fail
              refine HP.out.mono ?_
              rintro e5 w5 ⟨rfl, hw5⟩
              subst hw5
              clear HP
              go_wp2_with fail
              go_roundg (nl - (j + 1))
              case rel => exact ⟨j + 1, by rw [HE1.out], by go_num, by omega, rfl, rfl⟩
              case measure => have := Hkj.out; omega
        · obtain rfl : j = nl := by omega
          have HE1 : Hid (S = ofL (textL (l.take (i + 1)))) := ofL_ext (by
            rw [HSD.out, HFE.out, HTK.out, ← HA0'.out]
            rfl)
          go_wp2_with fail
          go_roundg (m - (i + 1))
          case rel => exact ⟨i + 1, by rw [HE1.out], by go_num, by omega, rfl, HB2.out⟩
          case measure => have := Hk.out; omega
    · obtain rfl : i = m := by omega
      have HE : Hid (A0 = ofL (textL l)) := by
        show _ = _
        rw [← HA0'.out, ← Hm.out, List.take_length]
      go_wp2_with fail
      go_ret
      rw [HE.out]
      exact ⟨rfl, HB.out⟩

/-- What a world keeps of two boxed fields. -/
abbrev TwoS (w w0 : World) (z r r2 : Nat) (x u : ByteArray) (w' : World) : Prop := Below z w w' ∧ Below (r + 1) w0 w' ∧ r2 + 1 ≤ w'.heap.size ∧ w'.cell? ⟨r2, 0, none⟩ = some (.string u) ∧ w'.cell? ⟨r, 0, none⟩ = some (.string x)
theorem TwoS.step {w w0 : World} {z r r2 : Nat} {x u : ByteArray} {w1 w' : World} (h : TwoS w w0 z r r2 x u w1) (hb : Below w1.heap.size w1 w') (hlt : r < r2 ∧ z ≤ r) : TwoS w w0 z r r2 x u w' := by
  obtain ⟨h0, h1, hz, c0, c1⟩ := h
  have hs := hb.size
  refine ⟨h0.trans (hb.mono (by omega)), h1.trans (hb.mono (by omega)), by omega, ?_, ?_⟩
  · exact (hb.cell (p := ⟨r2, 0, none⟩) (by simp; omega)).trans c0
  · exact (hb.cell (p := ⟨r, 0, none⟩) (by simp; omega)).trans c1

theorem rright_calls (v : Value) (l : List FieldD) (w : World) (hT : Flds w v l) (hm : MaxV w) (hl : l.length ≤ 60) :
    Calls Tryd.prog 17 #[v] w fun e w' => e = .returned (.bool (rightF l)) ∧ Below w.heap.size w w' := by
  have TXT : Hid (∀ w', Below w.heap.size w w' → Calls Tryd.prog 38 #[v] w' fun e w'' => e = .returned (.string (ofL (textL l))) ∧ Below w'.heap.size w' w'') := fun w' hb => rtext_calls v l w' (hT.below hb (Nat.le_refl _)) (hm.below hb hm.lt) hl
  have hlen := textL_len l hT.2
  obtain ⟨⟨a, cap, rfl, hcap, hmax, hcell⟩, hsz⟩ := hT
  unfold maxLen at hmax
  obtain ⟨m, hm'⟩ : ∃ m, l.length = m := ⟨_, rfl⟩
  have Hcell := Lib.hid hcell
  have Hsz := Lib.hid hsz
  have HMax := Lib.hid hm
  clear hcell hsz hm
  rw [hm'] at hcap Hcell hl TXT hlen
  have HTLn : Hid ((textL l).length ≤ 36000000) := by show _ ≤ _; omega
  have Hm := Lib.hid hm'
  clear hlen
  rw [hm']
  clear hm'
  obtain ⟨z, hz⟩ : ∃ z, w.heap.size = z := ⟨_, rfl⟩
  have Hz := Lib.hid hz
  rw [hz] at TXT ⊢
  clear hz
  have IN := Lib.hid (in_calls (m : Int) 1 40 w)
  by_cases h0 : 1 ≤ m ∧ m ≤ 40
  case' neg =>
    have HF : Hid (rightF l = false) := rightF_len (by rw [Hm.out]; omega)
    have hq : (decide ((1 : Int) ≤ m) && decide ((m : Int) ≤ 40)) = false := by
      rw [Bool.and_eq_false_iff, decide_eq_false_iff_not, decide_eq_false_iff_not]
      omega
    rw [hq] at IN
    clear TXT hq
    go_enter Tryd.func17, Tryd.ntmps17
    go_wp2_with fail
    refine IN.out.mono ?_
    rintro e0 w0 ⟨rfl, rfl⟩
    go_wp2_with fail
    go_ret
    rw [HF.out]
    exact ⟨rfl, Below.refl _ _⟩
  have hq : (decide ((1 : Int) ≤ m) && decide ((m : Int) ≤ 40)) = true := by rw [decide_eq_true (by omega), decide_eq_true (by omega)]; rfl
  rw [hq] at IN
  clear hq
  go_enter Tryd.func17, Tryd.ntmps17
  go_wp2_with fail
  refine IN.out.mono ?_
  rintro e0 w0' ⟨rfl, hw⟩
  subst hw
  clear IN
  go_wp2_with fail
  go_loopg [15] m (fun k vk wr => ∃ i : Nat, vk = .int .i64 i ∧ i ≤ m ∧ k = m - i ∧ (∀ j, j < i → rightOne l j = true) ∧ Below z w wr)
  case atStart => exact ⟨0, rfl, Nat.zero_le _, rfl, fun j hj => absurd hj (Nat.not_lt_zero _), Below.refl _ _⟩
  case round =>
    obtain ⟨i, rfl, hi, hk, hall, hB⟩ := hrel
    have Hk := Lib.hid hk
    have HAll := Lib.hid hall
    have HB := Lib.hid hB
    clear hk hall hB
    by_cases hlt : i < m
    · obtain ⟨b, o, rfl, hb, hc⟩ := Hcell.out.resolve_left (by omega)
      rw [Hz.out] at hb
      obtain ⟨t, ht⟩ : ∃ t, l.getD i default = t := ⟨_, rfl⟩
      have hs := SzF.at_ Hsz.out i
      have c0 : wr.cell? ⟨b, o + i * 2, none⟩ = some (.string t.1) := (HB.out.cell (p := ⟨b, o + i * 2, none⟩) hb).trans (by have := hc i 0 hlt (by decide); rw [ht] at this; exact this)
      have c1 : wr.cell? ⟨b, o + i * 2 + 1, none⟩ = some (.string t.2) := (HB.out.cell (p := ⟨b, o + i * 2 + 1, none⟩) hb).trans (by have := hc i 1 hlt (by decide); rw [ht] at this; exact this)
      rw [ht] at hs
      obtain ⟨x, y⟩ := t
      have HT : Hid (l.getD i default = (x, y)) := ht
      dsimp only at c0 c1
      obtain ⟨hs1, hs2⟩ := hs
      dsimp only at hs1 hs2
      have Hs1 := Lib.hid hs1
      have Hs2 := Lib.hid hs2
      have hzr : z ≤ wr.heap.size := by have := HB.out.size; rw [Hz.out] at this; exact this
      have HB0 : Hid (Below z w (wr.alloc (.cells #[.string x, .string y] 48))) := HB.out.alloc hzr _
      have HA0 : Hid ((wr.alloc (.cells #[.string x, .string y] 48)).heap[wr.heap.size]? = some (.cells #[.string x, .string y] 48)) := heap_alloc_new wr _
      obtain ⟨r, hr⟩ : ∃ r, wr.heap.size = r := ⟨_, rfl⟩
      have HCC := Lib.hid hc
      clear hc ht
      go_wp2_with fail
      obtain ⟨w0, hw0⟩ : ∃ w0 : World, wr.alloc (.cells #[.string x, .string y] 48) = w0 := ⟨_, rfl⟩
      rw [hw0] at HB0 HA0 ⊢
      have hw0z : w0.heap.size = r + 1 := by rw [← hw0, ← hr]; simp
      rw [hr] at HA0 hzr
      clear hw0 hr
      have d0 : w0.cell? ⟨r, 0, none⟩ = some (.string x) := by simp [World.cell?, HA0.out]
      have d1 : w0.cell? ⟨r, 1, none⟩ = some (.string y) := by simp [World.cell?, HA0.out]
      have NC := Lib.hid (rname_calls x w0 (by omega))
      cases hnm : nameS x
      · rw [hnm] at NC
        have HF : Hid (rightF l = false) := by
          show _ = _
          refine rightF_no (i := i) (by rw [Hm.out]; exact hlt) ?_
          rw [rightOne_eq HT.out, hnm]
          rfl
        clear hnm
        refine NC.out.mono ?_
        rintro e1 w1 ⟨rfl, rfl⟩
        go_wp2_with fail
        go_ret
        rw [HF.out]
        exact ⟨rfl, HB0.out⟩
      rw [hnm] at NC
      have HNM := Lib.hid hnm
      clear hnm
      refine NC.out.mono ?_
      rintro e1 w0' ⟨rfl, hw⟩
      subst hw
      clear NC
      have hr0 : r < w0.heap.size := by omega
      have HC1 : Hid (w0.cell? ⟨r, 1, none⟩ = some (.string y)) := d1
      have HC0 : Hid (w0.cell? ⟨r, 0, none⟩ = some (.string x)) := d0
      have hcapi : i ≤ cap := by omega
      clear d0 d1 c0 c1
      go_wp2_with fail
      go_loopg [28] i (fun k vk wr => ∃ j : Nat, vk = .int .i64 j ∧ j ≤ i ∧ k = i - j ∧ (l.take j).any (sameN x) = false ∧ Below z w wr ∧ Below (r + 1) w0 wr)
      case atStart => exact ⟨0, rfl, Nat.zero_le _, rfl, rfl, HB0.out, Below.refl _ _⟩
      case round =>
        obtain ⟨j, rfl, hj, hkj, hany, hBg, hBr⟩ := hrel
        have Hkj := Lib.hid hkj
        have HAny := Lib.hid hany
        have HBg := Lib.hid hBg
        have HBr := Lib.hid hBr
        clear hkj hany hBg hBr
        by_cases hji : j < i
        · obtain ⟨g, hg⟩ : ∃ g, l.getD j default = g := ⟨_, rfl⟩
          have hsg := SzF.at_ Hsz.out j
          rw [hg] at hsg
          obtain ⟨gx, gy⟩ := g
          obtain ⟨hsg, -⟩ := hsg
          dsimp only at hsg
          have g0 : wr.cell? ⟨b, o + j * 2, none⟩ = some (.string gx) := (HBg.out.cell (p := ⟨b, o + j * 2, none⟩) hb).trans (by have := HCC.out j 0 (by omega) (by decide); rw [hg] at this; exact this)
          have g1 : wr.cell? ⟨b, o + j * 2 + 1, none⟩ = some (.string gy) := (HBg.out.cell (p := ⟨b, o + j * 2 + 1, none⟩) hb).trans (by have := HCC.out j 1 (by omega) (by decide); rw [hg] at this; exact this)
          have HGT := Lib.hid hg
          obtain ⟨r2, hr2⟩ : ∃ r2, wr.heap.size = r2 := ⟨_, rfl⟩
          have hrr : r + 1 ≤ r2 := by have := HBr.out.size; omega
          have hTS : TwoS w w0 z r r2 x gx (wr.alloc (.cells #[.string gx, .string gy] 48)) := by
            refine ⟨HBg.out.alloc (by omega) _, HBr.out.alloc (by omega) _, by simp [hr2], ?_, ?_⟩
            · rw [← hr2]; simp [go_sem]
            · rw [World.cell?_alloc_lt _ _ _ (by show r < _; omega)]
              exact (HBr.out.cell (p := ⟨r, 0, none⟩) (Nat.lt_succ_self r)).trans HC0.out
          have hTS2 : TwoS w w0 z r r2 x gx (wr.alloc (.cells #[.string gx, .string gy] 48)).drew := ⟨hTS.1.drew, hTS.2.1.drew, hTS.2.2.1, hTS.2.2.2.1, hTS.2.2.2.2⟩
          have hrz : r < r2 ∧ z ≤ r := by omega
          clear hg
          go_upto_region 11 with fail
          cases hp : decide (smallB gx = smallB x)
          · obtain ⟨t1, t2⟩ := small_eq hp
            have HN : Hid ((l.take (j + 1)).any (sameN x) = false) := by
              show _ = _
              exact any_step default (by rw [Hm.out]; omega) HAny.out (by rw [show l.getD j default = (gx, gy) from HGT.out]; exact hp)
            clear hp
            go_region_held3 (fun w' => Below z w w' ∧ Below (r + 1) w0 w' ∧ r2 + 1 ≤ w'.heap.size ∧ w'.cell? ⟨r2, 0, none⟩ = some (.string gx) ∧ w'.cell? ⟨r, 0, none⟩ = some (.string x)) (first | exact hTS | exact hTS2 | assumption | (refine TwoS.step ?_ hbz hrz; assumption))
              (first
                | (go_at_call_of 19 (Value.string gx); refine (rsmall_calls gx _ (size_big hsg)).mono ?_; rintro e w' ⟨rfl, hbz⟩)
                | (go_at_call_of 19 (Value.string x); refine (rsmall_calls x _ (size_big hs1)).mono ?_; rintro e w' ⟨rfl, hbz⟩))
            all_goals go_wp2
            all_goals go_roundg (i - (j + 1))
            all_goals first
              | (have := Hkj.out; omega)
              | exact ⟨j + 1, by go_num, by omega, rfl, HN.out, And.left (by assumption : TwoS w w0 z r r2 x gx _), And.left (And.right (by assumption : TwoS w w0 z r r2 x gx _))⟩
          · obtain ⟨t1, t2⟩ := small_eq hp
            have HF : Hid (rightF l = false) := by
              show _ = _
              refine rightF_no (i := i) (by rw [Hm.out]; exact hlt) ?_
              have : (l.take i).any (sameN x) = true := by
                rw [List.any_eq_true]
                refine ⟨(gx, gy), ?_, hp⟩
                have e1 : (l.take i).getD j default = l.getD j default := by
                  rw [List.getD_eq_getElem?_getD, List.getD_eq_getElem?_getD, List.getElem?_take_of_lt hji]
                rw [← HGT.out, ← e1]
                exact mem_getD _ (by rw [List.length_take, Hm.out]; omega)
              rw [rightOne_eq HT.out, this]
              simp
            clear hp
            go_region_held3 (fun w' => Below z w w' ∧ Below (r + 1) w0 w' ∧ r2 + 1 ≤ w'.heap.size ∧ w'.cell? ⟨r2, 0, none⟩ = some (.string gx) ∧ w'.cell? ⟨r, 0, none⟩ = some (.string x)) (first | exact hTS | exact hTS2 | assumption | (refine TwoS.step ?_ hbz hrz; assumption))
              (first
                | (go_at_call_of 19 (Value.string gx); refine (rsmall_calls gx _ (size_big hsg)).mono ?_; rintro e w' ⟨rfl, hbz⟩)
                | (go_at_call_of 19 (Value.string x); refine (rsmall_calls x _ (size_big hs1)).mono ?_; rintro e w' ⟨rfl, hbz⟩))
            all_goals go_wp2
            all_goals go_ret
            all_goals rw [HF.out]
            all_goals exact ⟨rfl, And.left (by assumption : TwoS w w0 z r r2 x gx _)⟩
        · obtain rfl : i = j := by omega
          have HAN := Lib.hid HAny.out
          obtain ⟨w1, rfl⟩ : ∃ w1, w1 = wr := ⟨_, rfl⟩
          have HB1 : Hid (Below z w w1) := HBg.out
          have d1' : w1.cell? ⟨r, 1, none⟩ = some (.string y) := (HBr.out.cell (p := ⟨r, 1, none⟩) (Nat.lt_succ_self r)).trans HC1.out
          have hr1 : r < w1.heap.size := by have := HBr.out.size; omega
          have SP := Lib.hid (split_calls y w1 (by omega) (HMax.out.below HB1.out (by rw [← Hz.out]; exact HMax.out.lt)))
          obtain ⟨ls, hls⟩ : ∃ ls, linesB y = ls := ⟨_, rfl⟩
          obtain ⟨nl, hnl⟩ : ∃ nl, ls.length = nl := ⟨_, rfl⟩
          rw [hls, hnl] at SP
          have hnle : nl ≤ 100001 := by
            rw [← hnl, ← hls]
            exact linesB_le y Hs2.out
          have HLC : Hid (∀ j, j < nl → (w1.alloc (.cells (ls.map Value.string).toArray 9)).cell? ⟨w1.heap.size, j, none⟩ = some (.string (ls.getD j ⟨#[]⟩))) := fun j hj => by
            rw [← hls]
            exact linesB_cell y w1 (by rw [hls, hnl]; exact hj)
          have HB2 : Hid (Below z w (w1.alloc (.cells (ls.map Value.string).toArray 9))) := HB1.out.alloc (by have := HB1.out.size; rw [Hz.out] at this; exact this) _
          obtain ⟨q, hq⟩ : ∃ q, w1.heap.size = q := ⟨_, rfl⟩
          have HLS := Lib.hid (And.intro hls hnl)
          rw [hq] at SP HLC
          have hq2 : (w1.alloc (.cells (ls.map Value.string).toArray 9)).heap.size = q + 1 := by simp [hq]
          obtain ⟨w2, hw2⟩ : ∃ w2 : World, w1.alloc (.cells (ls.map Value.string).toArray 9) = w2 := ⟨_, rfl⟩
          rw [hw2] at SP HLC HB2 hq2
          have Hq2 := Lib.hid hq2
          clear hls hnl hq hq2 hw2
          go_wp2_with fail
          refine SP.out.mono ?_
          rintro e4 w3 ⟨rfl, rfl⟩
          obtain ⟨w2, rfl⟩ : ∃ w2, w2 = w3 := ⟨_, rfl⟩
          clear SP
          clear d1' hr1
          go_wp2_with fail
          go_loopg [44] nl (fun k vk wi => ∃ j : Nat, vk = .int .i64 j ∧ j ≤ nl ∧ k = nl - j ∧ (∀ p, p < j → lineS (ls.getD p ⟨#[]⟩) = true ∧ (0 < p → ls.getD p ⟨#[]⟩ ≠ ⟨#[]⟩)) ∧ Below (q + 1) w2 wi)
          case atStart => exact ⟨0, rfl, Nat.zero_le _, rfl, fun p hp => absurd hp (Nat.not_lt_zero _), Below.refl _ _⟩
          case round =>
            obtain ⟨j, rfl, hj, hkj, hdone, hBi⟩ := hrel
            have Hkj := Lib.hid hkj
            have HD := Lib.hid hdone
            have HBi := Lib.hid hBi
            clear hkj hdone hBi
            have HZI : Hid (Below z w wr) := HB2.out.trans (HBi.out.mono (by have := HB2.out.size; rw [Hz.out, Hq2.out] at this; exact this))
            by_cases hjl : j < nl
            · have hcell := (HBi.out.cell (p := ⟨q, j, none⟩) (Nat.lt_succ_self q)).trans (HLC.out j hjl)
              have hql : q < wr.heap.size := by have := HBi.out.size; rw [Hq2.out] at this; omega
              obtain ⟨t, ht⟩ : ∃ t, ls.getD j ⟨#[]⟩ = t := ⟨_, rfl⟩
              rw [ht] at hcell
              have htl : t.size ≤ 100000 := by
                rw [← ht, ← HLS.out.1]
                exact Nat.le_trans (linesB_size y j) Hs2.out
              have HT' := Lib.hid ht
              clear ht
              have LC := Lib.hid (rline_calls t wr (by omega))
              cases hlt' : lineS t
              · rw [hlt'] at LC
                have HF : Hid (rightF l = false) := by
                  show _ = _
                  refine rightF_no (i := i) (by rw [Hm.out]; exact hlt) ?_
                  rw [rightOne_eq HT.out, linesOk_no (v := y) (k := j) (by rw [HLS.out.1, HLS.out.2]; exact hjl) (Or.inl (by rw [HLS.out.1, HT'.out]; exact hlt'))]
                  simp
                clear hlt'
                go_wp2_with fail
                refine LC.out.mono ?_
                rintro e5 w5 ⟨rfl, hb5⟩
                have HB5 : Hid (Below z w w5) := HZI.out.trans (hb5.mono (by have := HZI.out.size; rw [Hz.out] at this; exact this))
                clear hb5 LC
                go_wp2_with fail
                go_ret
                rw [HF.out]
                exact ⟨rfl, HB5.out⟩
              · rw [hlt'] at LC
                have HLT := Lib.hid hlt'
                clear hlt'
                by_cases hj0 : j = 0
                · have HDN : Hid (∀ p, p < j + 1 → lineS (ls.getD p ⟨#[]⟩) = true ∧ (0 < p → ls.getD p ⟨#[]⟩ ≠ ⟨#[]⟩)) := fun p hp => by
                    rcases Nat.lt_or_ge p j with h | h
                    · exact HD.out p h
                    · have : p = j := by omega
                      rw [this, HT'.out]
                      exact ⟨HLT.out, fun h => by omega⟩
                  have hj1 : decide ((j : Int) > 0) = false := decide_eq_false (by omega)
                  have hj2 : decide ((0 : Int) < j) = false := decide_eq_false (by omega)
                  have hj3 : decide (0 < j) = false := decide_eq_false (by omega)
                  have hj4 : ¬ 0 < j := by omega
                  clear hj0
                  go_wp2_with fail
                  refine LC.out.mono ?_
                  rintro e5 w5 ⟨rfl, hb5⟩
                  have HB5 : Hid (Below (q + 1) w2 w5) := HBi.out.trans (hb5.mono (by have := HBi.out.size; rw [Hq2.out] at this; exact this))
                  clear hb5 LC
                  go_wp2_with fail
                  go_roundg (nl - (j + 1))
                  case rel => exact ⟨j + 1, by go_num, by omega, rfl, HDN.out, HB5.out⟩
                  case measure => have := Hkj.out; omega
                · have hj1 : decide ((j : Int) > 0) = true := decide_eq_true (by omega)
                  have hj2 : decide ((0 : Int) < j) = true := decide_eq_true (by omega)
                  have hj3 : decide (0 < j) = true := decide_eq_true (by omega)
                  have hj4 : 0 < j := by omega
                  by_cases ht0 : t.size = 0
                  · have HF : Hid (rightF l = false) := by
                      show _ = _
                      refine rightF_no (i := i) (by rw [Hm.out]; exact hlt) ?_
                      have ht9 : t = ⟨#[]⟩ := toL_iff.1 ((emptyL ht0).1.trans (emptyL (s := ⟨#[]⟩) rfl).1.symm)
                      rw [rightOne_eq HT.out, linesOk_no (v := y) (k := j) (by rw [HLS.out.1, HLS.out.2]; exact hjl) (Or.inr ⟨hj4, by rw [HLS.out.1, HT'.out]; exact ht9⟩)]
                      simp
                    obtain ⟨t1, t2⟩ := emptyL ht0
                    clear hj0 ht0
                    go_wp2_with fail
                    refine LC.out.mono ?_
                    rintro e5 w5 ⟨rfl, hb5⟩
                    have HB5 : Hid (Below z w w5) := HZI.out.trans (hb5.mono (by have := HZI.out.size; rw [Hz.out] at this; exact this))
                    clear hb5 LC
                    go_wp2_with fail
                    go_ret
                    rw [HF.out]
                    exact ⟨rfl, HB5.out⟩
                  · have HDN : Hid (∀ p, p < j + 1 → lineS (ls.getD p ⟨#[]⟩) = true ∧ (0 < p → ls.getD p ⟨#[]⟩ ≠ ⟨#[]⟩)) := fun p hp => by
                      rcases Nat.lt_or_ge p j with h | h
                      · exact HD.out p h
                      · have : p = j := by omega
                        rw [this, HT'.out]
                        exact ⟨HLT.out, fun _ h9 => ht0 (by rw [h9]; rfl)⟩
                    obtain ⟨t1, t2⟩ := emptyN ht0
                    clear hj0 ht0
                    go_wp2_with fail
                    refine LC.out.mono ?_
                    rintro e5 w5 ⟨rfl, hb5⟩
                    have HB5 : Hid (Below (q + 1) w2 w5) := HBi.out.trans (hb5.mono (by have := HBi.out.size; rw [Hq2.out] at this; exact this))
                    clear hb5 LC
                    go_wp2_with fail
                    go_roundg (nl - (j + 1))
                    case rel => exact ⟨j + 1, by go_num, by omega, rfl, HDN.out, HB5.out⟩
                    case measure => have := Hkj.out; omega
            · have HR1 : Hid (∀ p, p < i + 1 → rightOne l p = true) := fun p hp => by
                rcases Nat.lt_or_ge p i with h | h
                · exact HAll.out p h
                · have : p = i := by omega
                  rw [this, rightOne_eq HT.out, HNM.out, HAN.out]
                  have : linesOk y = true := (linesOk_iff y).2 (fun k hk => by
                    rw [HLS.out.1] at hk ⊢
                    exact HD.out k (by rw [HLS.out.2] at hk; omega))
                  rw [this]
                  rfl
              go_wp2_with fail
              go_roundg (m - (i + 1))
              case rel => exact ⟨i + 1, by go_num, by omega, rfl, HR1.out, HZI.out⟩
              case measure => have := Hk.out; omega
    · obtain rfl : i = m := by omega
      have TT := Lib.hid (TXT.out wr HB.out)
      have HE := Lib.hid (rightF_end (l := l) (by rw [Hm.out]; omega) (by rw [Hm.out]; exact HAll.out))
      go_wp2_with fail
      refine TT.out.mono ?_
      rintro e9 w9 ⟨rfl, hb9⟩
      have HB9 : Hid (Below z w w9) := HB.out.trans (hb9.mono (by have := HB.out.size; rw [Hz.out] at this; exact this))
      obtain ⟨S, hS⟩ : ∃ S, ofL (textL l) = S := ⟨_, rfl⟩
      have hSs : (textL l).length = S.size := by rw [← hS]; rfl
      rw [hSs] at HE HTLn
      have hS0 := HTLn.out
      rw [hS]
      clear hb9 TT hS hSs TXT
      by_cases h4 : S.size ≤ 4000
      · have HR : Hid (rightF l = true) := HE.out.trans (decide_eq_true h4)
        have q1 : decide ((S.size : Int) ≤ 4000) = true := decide_eq_true (by omega)
        go_wp2_with fail
        go_ret
        rw [HR.out]
        exact ⟨by first | rfl | simp, HB9.out⟩
      · have HR : Hid (rightF l = false) := HE.out.trans (decide_eq_false h4)
        have q1 : decide ((S.size : Int) ≤ 4000) = false := decide_eq_false (by omega)
        go_wp2_with fail
        go_ret
        rw [HR.out]
        exact ⟨by first | rfl | simp, HB9.out⟩

theorem rprint_calls (v : Value) (l : List FieldD) (w : World) (hT : Flds w v l) (hm : MaxV w) (hl : l.length ≤ 60) :
    Calls Tryd.prog 11 #[v] w fun e w' => e = .returned (if rightF l = true then .tuple #[.string (ofL (textL l)), .int .i64 0] else .tuple #[.string ⟨#[]⟩, .int .i64 1]) ∧ Below w.heap.size w w' := by
  have RC := Lib.hid (rright_calls v l w hT hm hl)
  cases hr : rightF l
  · rw [hr] at RC
    rw [if_neg (by decide)]
    clear hr
    go_enter Tryd.func11, Tryd.ntmps11
    go_wp2_with fail
    refine RC.out.mono ?_
    rintro e1 w1 ⟨rfl, hb⟩
    clear RC
    go_wp2_with fail
    go_ret2
    exact ⟨rfl, hb⟩
  · have HTO : Hid (∀ w', Below w.heap.size w w' → Calls Tryd.prog 38 #[v] w' fun e w'' => e = .returned (.string (ofL (textL l))) ∧ Below w'.heap.size w' w'') := fun w' hb => rtext_calls v l w' (hT.below hb (Nat.le_refl _)) (hm.below hb hm.lt) hl
    rw [hr] at RC
    rw [if_pos rfl]
    clear hr
    go_enter Tryd.func11, Tryd.ntmps11
    go_wp2_with fail
    refine RC.out.mono ?_
    rintro e1 w1 ⟨rfl, hb⟩
    clear RC
    go_wp2_with fail
    refine (HTO.out w1 hb).mono ?_
    rintro e2 w2 ⟨rfl, hb2⟩
    go_wp2_with fail
    go_ret2
    exact ⟨rfl, hb.trans (hb2.mono hb.size)⟩
end Go.Proofs.YtpiobckemlkomaaDoor
