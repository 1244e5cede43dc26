/- BookKeeps: from the write on, to the round's end. -/
import Derived.Test.YtodmnogoacghpaaGreatDoorM40
namespace Go.Proofs.YtodmnogoacghpaaGreatDoor
open Go.RowKit
set_option maxRecDepth 1000000
set_option maxHeartbeats 8000000

noncomputable def midBody : Code := ((Tryz.f4.body.bind (fromReg 24)).getD .skip)
theorem mid_calls {w wr : World} {A a bb z i nc cc b6 : Nat} {ac : Option Addr} {cs : List Int} {X : List Nat} {d : DiskD} {m : FS} {t : ByteArray} {s2 : BkS} {W0 : ByteArray} {what : Int} {name v : ByteArray}
    (hi : i < 40) (hcl : nc ≤ 40) (hl1 : ¬ 60 < name.size) (hl2 : ¬ 400 < v.size) (hml : m.length ≤ i) (hbX : b6 ∈ X) (hAw : A ≤ w.heap.size) (HAe : Hid (w.heap.size = A)) (Hc : Hid (nc = 0 ∨ ∃ b o, ac = some ⟨b, o, none⟩ ∧ b < w.heap.size ∧ ∀ i j, i < nc → j < 1 → w.cell? ⟨b, o + i * 1 + j, none⟩ = some (.int .i64 (cs.getD i 0))))
    (Hnc : Hid (cs.length = nc)) (Hokc : Hid (∀ i, InJ2 (cs.getD i 0))) (HV : Hid (∀ W, Below A w W → ErrVar W)) (HI : Hid (KInv i d m t)) (HC5 : Hid (Copied m m.length s2)) (HW0 : Hid (linesM m = W0))
    (HT5 : Hid (TwoB wr A X a bb ⟨d, m, t, false⟩ z (z + 2) s2)) (HB5 : Hid (Below A w wr)) (HC5c : Hid (wr.heap[b6]? = some (.cells #[.int .i64 what, .string name, .string v] 57))) {z0 z2 z3 z4 z7 z13 z14 z15 z16 z17 z18 z19 z20 z21 z22 z23 z24 z25 z26 z27 z28 z29 z30 z31 z32 z33 z34 z35 z36 z37 z38 z39 z40 z41 z42 z43 z44 z45 z46 z47 z48 z49 z50 z51 z52 z53 z54 z55 z56 z57 z58 z59 z60 z61 z62 z63 z64 z65 z66 z67 z68 z69 z70 z71 z72 z73 z74 z75 z76 z77 z78 z79 z80 z81 z82 z83 z84 z85 z86 z87 z88 z89 z90 z91 z92 z93 z94 z95 z96 z97 z98 z99 z100 z101 z102 z103 z104 z105 z106 z107 z108 z109 z110 z111 z112 z113 z114 z115 z116 z117 z118 z119 z120 z121 z122 z123 z124 z125 z126 z127 z128 z129 z130 z131 z132 z133 z134 z135 z136 z137 z138 z139 z140 z141 z142 z143 z144 z145 z146 z147 z148 z149 z150 z151 z152 z153 z154 z155 z156 z157 z158 z159 z160 z161 z162 z163 z164 z165 z166 z167 z168 z169 z170 z171 z172 z173 z174 z175 z176 z177 z178 z179 z180 z181 z182 z183 z184 z185 z186 z187 z188 z189 z190 z191 z192 z193 z194 z195 z196 z197 z198 z199 z200 z201 z202 z203 z204 z205 z206 z207 z208 z209 z210 z211 z212 z213 z214 z215 z216 z217 z218 z219 z220 z221 z222 z223 z224 : Value} {KK : Act → World → Prop}
    (hQ : ∀ (u4 u12 u15 u16 u17 u18 u91 u92 u93 u94 u95 u96 u97 u98 u99 u100 u101 u102 u103 u104 u105 u106 u107 u108 u109 u110 u111 u112 u113 u114 u115 u116 u117 u118 u119 u120 u121 u122 u123 u124 u125 u126 u127 u128 u129 u130 u131 u132 u133 u134 u135 u136 u137 u138 u139 u140 u141 u142 u143 u144 u145 u146 u147 u148 u149 u150 u151 u152 u153 u154 u155 u156 u157 u158 u159 u160 u161 u162 u163 u164 u165 u166 u167 u168 u169 u170 u171 u172 u173 u174 u175 u176 u177 u178 u179 u180 u181 u182 u183 u184 u185 u186 u187 u188 u189 u190 u191 u192 u193 u194 u195 u196 u197 u198 u199 u200 u201 u202 u203 u204 u205 u206 u207 u208 u209 u210 u211 u212 u213 u214 u215 u216 u217 u218 u219 u220 u221 u222 u223 u224 : Value) (bb2 : Nat) (d9 : DiskD) (m' : FS) (t' : ByteArray) (wx : World), OneB wx A [] a bb2 ⟨d9, m', t', false⟩ → KInv (i + 1) d9 m' t' → Below A w wx → KK ⟨#[z0, .slice ac nc cc, z2, z3, u4, .pointer (some ⟨a, 0, none⟩), .pointer (some ⟨bb2, 0, none⟩), z7, .int .i64 ((i : Nat) : Int), .pointer (some ⟨b6, 0, none⟩), .string W0, .pointer (some ⟨z + 2, 0, none⟩), u12, z13, z14, u15, u16, u17, u18, z19, z20, z21, z22, z23, z24, z25, z26, z27, z28, z29, z30, z31, z32, z33, z34, z35, z36, z37, z38, z39, z40, z41, z42, z43, z44, z45, z46, z47, z48, z49, z50, z51, z52, z53, z54, z55, z56, z57, z58, z59, z60, z61, z62, z63, z64, z65, z66, z67, z68, z69, z70, z71, z72, z73, z74, z75, z76, z77, z78, z79, z80, z81, z82, z83, z84, z85, z86, z87, z88, z89, z90, u91, u92, u93, u94, u95, u96, u97, u98, u99, u100, u101, u102, u103, u104, u105, u106, u107, u108, u109, u110, u111, u112, u113, u114, u115, u116, u117, u118, u119, u120, u121, u122, u123, u124, u125, u126, u127, u128, u129, u130, u131, u132, u133, u134, u135, u136, u137, u138, u139, u140, u141, u142, u143, u144, u145, u146, u147, u148, u149, u150, u151, u152, u153, u154, u155, u156, u157, u158, u159, u160, u161, u162, u163, u164, u165, u166, u167, u168, u169, u170, u171, u172, u173, u174, u175, u176, u177, u178, u179, u180, u181, u182, u183, u184, u185, u186, u187, u188, u189, u190, u191, u192, u193, u194, u195, u196, u197, u198, u199, u200, u201, u202, u203, u204, u205, u206, u207, u208, u209, u210, u211, u212, u213, u214, u215, u216, u217, u218, u219, u220, u221, u222, u223, u224], []⟩ wx) :
    Code.wp Tryz.prog midBody (SwQ KK) ⟨#[z0, .slice ac nc cc, z2, z3, z4, .pointer (some ⟨a, 0, none⟩), .pointer (some ⟨bb, 0, none⟩), z7, .int .i64 ((i : Nat) : Int), .pointer (some ⟨b6, 0, none⟩), .string W0, .pointer (some ⟨z + 2, 0, none⟩), .nilIface, z13, z14, z15, z16, z17, z18, z19, z20, z21, z22, z23, z24, z25, z26, z27, z28, z29, z30, z31, z32, z33, z34, z35, z36, z37, z38, z39, z40, z41, z42, z43, z44, z45, z46, z47, z48, z49, z50, z51, z52, z53, z54, z55, z56, z57, z58, z59, z60, z61, z62, z63, z64, z65, z66, z67, z68, z69, z70, z71, z72, z73, z74, z75, z76, z77, z78, z79, z80, z81, z82, z83, z84, z85, z86, z87, z88, z89, z90, z91, z92, z93, z94, z95, z96, z97, z98, z99, z100, z101, z102, z103, z104, z105, z106, z107, z108, z109, z110, z111, z112, z113, z114, z115, z116, z117, z118, z119, z120, z121, z122, z123, z124, z125, z126, z127, z128, z129, z130, z131, z132, z133, z134, z135, z136, z137, z138, z139, z140, z141, z142, z143, z144, z145, z146, z147, z148, z149, z150, z151, z152, z153, z154, z155, z156, z157, z158, z159, z160, z161, z162, z163, z164, z165, z166, z167, z168, z169, z170, z171, z172, z173, z174, z175, z176, z177, z178, z179, z180, z181, z182, z183, z184, z185, z186, z187, z188, z189, z190, z191, z192, z193, z194, z195, z196, z197, z198, z199, z200, z201, z202, z203, z204, z205, z206, z207, z208, z209, z210, z211, z212, z213, z214, z215, z216, z217, z218, z219, z220, z221, z222, z223, z224], []⟩ wr := by
  have HQ := Lib.hid hQ
  clear hQ
  have hA5 : A ≤ wr.heap.size := Nat.le_trans hAw HB5.out.size
  have hp1 : i % nc < nc ∨ nc = 0 := by rcases Nat.eq_zero_or_pos nc with h | h; exact Or.inr h; exact Or.inl (Nat.mod_lt _ h)
  conv => arg 2; whnf
  obtain ⟨s2e, hs2e⟩ : ∃ x, (if what = 0 then (setB s2 name v).2 else s2) = x := ⟨_, rfl⟩
  obtain ⟨L, hLe⟩ : ∃ x, cutAt cs i = x := ⟨_, rfl⟩
  obtain ⟨KP, hKP⟩ : ∃ x, keepAt cs i = x := ⟨_, rfl⟩
  have hLb : -9223372036854775808 ≤ L ∧ L ≤ 9223372036854775807 := by
    rw [← hLe]; unfold cutAt
    split
    · decide
    · have := pickI_lt (cs.getD (i % cs.length) 0) (show 0 < 9 by decide); omega
  obtain ⟨⟨code, s8⟩, hs8⟩ : ∃ x, (if what = 0 then setB ⟨cutD d L, m, t, false⟩ name v else tidyB ⟨cutD d L, m, t, false⟩) = x := ⟨_, rfl⟩
  have RO := round_all HI.out (by omega) hLb.2 what name v HC5.out
  rw [hs8, hs2e] at RO
  have HRO := Lib.hid RO
  have HLe := Lib.hid hLe
  have HKP := Lib.hid hKP
  have Hs8 := Lib.hid hs8
  have Hs2e := Lib.hid hs2e
  have HLb := Lib.hid hLb
  obtain ⟨r0, hI5⟩ := HC5.out.1
  have HI5 := Lib.hid hI5
  clear RO hLe hKP hs8 hs2e hLb hI5
  obtain ⟨c0, c1, c2, hbl⟩ := nk_cells HC5c.out
  go_upto_if 93 with fail
  go_cut [12] from 91 to 224 (fun v12 wx => v12 = .nilIface ∧ TwoB wx A X a bb ⟨d, m, t, false⟩ z (z + 2) s2e ∧ Below A w wx ∧ wx.heap[b6]? = some (.cells #[.int .i64 what, .string name, .string v] 57))
  case first =>
    by_cases hq0 : what = 0
    case' pos =>
      have hl5 := HI5.out.len
      have TS := tb_set hA5 HT5.out.swap (HI5.out.good.mono (by omega) (Nat.le_refl _)) (n := name) (v := v) (by omega) (by omega) (HI5.out.tsize (by omega)) (by omega)
      have es := Hs2e.out
      rw [if_pos hq0] at es
      rw [es] at TS
      have HTS := Lib.hid TS
      clear TS es
      subst hq0
      go_wp2_with fail
      refine HTS.out.mono ?_
      rintro e6 w6' ⟨rfl, hT6, hK6⟩
      have HT6 := Lib.hid hT6
      have HK6 := Lib.hid hK6
      clear hT6 hK6 HTS c0 c1 c2
      go_wp2_with fail
      go_meet
      case rel => exact ⟨rfl, HT6.out.swap, HB5.out.trans HK6.out.1, (HK6.out.2 b6 hbX).trans HC5c.out⟩
    have eq0 : (what == 0) = false := by rw [beq_eq_false_iff_ne]; exact hq0
    have es := Hs2e.out
    rw [if_neg hq0] at es
    have Hes := Lib.hid es
    clear es
    go_wp2_with fail
    go_meet
    case rel => exact ⟨rfl, by rw [← Hes.out]; exact HT5.out, HB5.out, HC5c.out⟩
  case rest =>
    obtain ⟨rfl, hT11, hB11, hC11⟩ := hcut
    have HT11 := Lib.hid hT11
    have HB11 := Lib.hid hB11
    have HC11 := Lib.hid hC11
    have hA11 : A ≤ wc.heap.size := Nat.le_trans hAw hB11.size
    clear c0 c1 c2 hbl hT11 hB11 hC11 HT5 HB5 HC5c HI5 HC5
    go_upto_if 102 with fail
    go_cut [12] from 91 to 224 (fun v12 wx => v12 = .nilIface ∧ TwoB wx A X a bb ⟨cutD d L, m, t, false⟩ z (z + 2) s2e ∧ Below A w wx ∧ wx.heap[b6]? = some (.cells #[.int .i64 what, .string name, .string v] 57))
    case first =>
      by_cases hc0 : nc = 0
      case' pos =>
        have ec0 : decide ((0 : Int) < (nc : Int)) = false := decide_eq_false (by omega)
        have hL1 : L = -1 := by rw [← HLe.out]; unfold cutAt; rw [if_pos (by rw [Hnc.out]; exact hc0)]
        have hcd : cutD d L = d := by rw [hL1]; exact cut_off HI.out
        have Hcd := Lib.hid hcd
        have hc9 : ¬ 0 < nc := by omega
        clear hL1 hcd hc0 hp1
        go_wp2_with fail
        go_meet
        case rel => exact ⟨rfl, by rw [Hcd.out]; exact HT11.out, HB11.out, HC11.out⟩
      obtain ⟨bc, oc, rfl, hbc, hcq⟩ := Hc.out.resolve_left (by omega)
      obtain ⟨p, hp⟩ : ∃ p, i % nc = p := ⟨_, rfl⟩
      have hpl : p < nc := by rw [← hp]; exact Nat.mod_lt _ (by omega)
      obtain ⟨cut, hcut0⟩ : ∃ x, cs.getD p 0 = x := ⟨_, rfl⟩
      have hcok := Hokc.out p
      rw [hcut0] at hcok
      have dq : wc.cell? ⟨bc, oc + p, none⟩ = some (.int .i64 cut) := by
        have h1 : w.cell? ⟨bc, oc + p * 1 + 0, none⟩ = some (.int .i64 (cs.getD p 0)) := hcq p 0 hpl (by decide)
        rw [hcut0] at h1
        exact (HB11.out.cell (p := ⟨bc, oc + p, none⟩) (show bc < A by have := HAe.out; omega)).trans (by simpa using h1)
      have hm1 : ((i : Nat) : Int).tmod ((nc : Nat) : Int) = ((p : Nat) : Int) := by rw [Int.tmod_eq_emod_of_nonneg (by omega), ← hp]; omega
      have hm2 : IntKind.i64.wrap ((p : Nat) : Int) = ((p : Nat) : Int) := by rw [IntKind.wrap_i64]; omega
      have hz0 : ((nc : Nat) : Int) ≠ 0 := by omega
      have hzb : (((nc : Nat) : Int) == 0) = false := beq_eq_false_iff_ne.2 hz0
      have ec0 : decide ((0 : Int) < (nc : Int)) = true := decide_eq_true (by omega)
      have hL1 : L = ((pickI cut 9 : Nat) : Int) - 3 := by rw [← HLe.out]; unfold cutAt; rw [if_neg (by rw [Hnc.out]; exact hc0), Hnc.out, hp, hcut0]
      have p9 := pickI_lt cut (show 0 < 9 by decide)
      have PI := Lib.hid (pick_calls cut 9 wc hcok (by decide))
      have TC := Lib.hid (tb_cut hA11 HT11.out L HLb.out)
      obtain ⟨x9, hx9⟩ : ∃ x, pickI cut 9 = x := ⟨_, rfl⟩
      rw [hx9] at PI hL1 p9
      have hL2 : IntKind.i64.wrap (((x9 : Nat) : Int) - 3) = L := by rw [IntKind.wrap_i64, hL1]; omega
      have HL2 := Lib.hid hL2
      clear hcq hp hcut0 hcok hL1 hx9 hL2
      go_wp2_with fail
      refine PI.out.mono ?_
      rintro e6 w6' ⟨rfl, rfl⟩
      have hL3 := HL2.out
      go_wp2_with fail
      refine TC.out.mono ?_
      rintro e7 w7' ⟨rfl, hT7, hK7⟩
      have HT7 := Lib.hid hT7
      have HK7 := Lib.hid hK7
      clear hT7 hK7 TC PI dq
      go_wp2_with fail
      go_meet
      case rel => exact ⟨rfl, HT7.out, HB11.out.trans HK7.out.1, (HK7.out.2 b6 hbX).trans HC11.out⟩
    case rest =>
      obtain ⟨rfl, hT12, hB12, hC12⟩ := hcut
      have HT12 := Lib.hid hT12
      have HB12 := Lib.hid hB12
      have HC12 := Lib.hid hC12
      have hA12 : A ≤ wc.heap.size := Nat.le_trans hAw hB12.size
      clear hT12 hB12 hC12 HT11 HB11 HC11
      obtain ⟨c0, c1, c2, hbl⟩ := nk_cells HC12.out
      go_upto_if 116 with fail
      go_cut [12] from 91 to 224 (fun v12 wx => v12 = errV code ∧ TwoB wx A X a bb s8 z (z + 2) s2e ∧ Below A w wx)
      case first =>
        have hgd : GoodD (3 * i) 30000 (cutD d L) := cutD_good HI.out.good HLb.out.2
        by_cases hq0 : what = 0
        case' pos =>
          have TS := tb_set hA12 HT12.out (hgd.mono (by omega) (Nat.le_refl _)) (n := name) (v := v) (by omega) (by omega) (HI.out.tsize (by omega)) (by show m.length ≤ 1000; omega)
          have es := Hs8.out
          rw [if_pos hq0] at es
          rw [es] at TS
          have HTS := Lib.hid TS
          clear TS es hgd
          subst hq0
          go_wp2_with fail
          refine HTS.out.mono ?_
          rintro e6 w6' ⟨rfl, hT6, hK6⟩
          have HT6 := Lib.hid hT6
          have HK6 := Lib.hid hK6
          clear hT6 hK6 HTS c0 c1 c2
          go_wp2_with fail
          go_meet
          case rel => exact ⟨rfl, HT6.out, HB12.out.trans HK6.out.1⟩
        have eq0 : (what == 0) = false := by rw [beq_eq_false_iff_ne]; exact hq0
        have TS := tb_tidy hA12 HT12.out (hgd.mono (by omega) (Nat.le_refl _)) (HI.out.text (by omega)) (by show m.length ≤ 1000; omega) (fun n hn => HI.out.nameLen hn)
        have es := Hs8.out
        rw [if_neg hq0] at es
        rw [es] at TS
        have HTS := Lib.hid TS
        clear TS es hgd
        go_wp2_with fail
        refine HTS.out.mono ?_
        rintro e6 w6' ⟨rfl, hT6, hK6⟩
        have HT6 := Lib.hid hT6
        have HK6 := Lib.hid hK6
        clear hT6 hK6 HTS c0 c1 c2
        go_wp2_with fail
        go_meet
        case rel => exact ⟨rfl, HT6.out, HB12.out.trans HK6.out.1⟩
      case rest =>
        obtain ⟨rfl, hT13, hB13⟩ := hcut
        have HT13 := Lib.hid hT13
        have HB13 := Lib.hid hB13
        have HV2 := HV
        clear c0 c1 c2 hbl hT13 hB13 HT12 HB12 HC12 Hs8 Hs2e HLb HLe
        apply_assumption
        refine wp_swq (tail_calls (w := w) (A := A) (a := a) (z := z) (i := i) (nc := nc) (cs := cs) (m := m) (code := code) (s8 := s8) (s2e := s2e) (W0 := W0) (KP := KP) (X := X) hi hcl hAw HAe Hc Hnc Hokc HV HRO HW0 HKP HT13 HB13 ?_)
        intros
        rename_i bb2 d9 m' t' wx hO22 hI22 hB22
        exact HQ.out _ _ _ _ _ _ _ _ _ _ _ _ _ _ _ _ _ _ _ _ _ _ _ _ _ _ _ _ _ _ _ _ _ _ _ _ _ _ _ _ _ _ _ _ _ _ _ _ _ _ _ _ _ _ _ _ _ _ _ _ _ _ _ _ _ _ _ _ _ _ _ _ _ _ _ _ _ _ _ _ _ _ _ _ _ _ _ _ _ _ _ _ _ _ _ _ _ _ _ _ _ _ _ _ _ _ _ _ _ _ _ _ _ _ _ _ _ _ _ _ _ _ _ _ _ _ _ _ _ _ _ _ _ _ _ _ _ _ _ _ _ _ _ _ _ hO22 hI22 hB22
end Go.Proofs.YtodmnogoacghpaaGreatDoor
