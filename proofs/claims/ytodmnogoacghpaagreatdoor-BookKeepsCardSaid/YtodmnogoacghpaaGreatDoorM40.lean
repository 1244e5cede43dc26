/- BookKeeps: from the error's number on, to the round's end. -/
import Derived.Test.YtodmnogoacghpaaGreatDoorM39
namespace Go.Proofs.YtodmnogoacghpaaGreatDoor
open Go.RowKit
set_option maxRecDepth 1000000
set_option maxHeartbeats 8000000

def headReg : Code → Option Nat
  | .region n _ _ => some n
  | .seq a _ => headReg a
  | _ => none
def fromReg (n : Nat) : Code → Option Code
  | .seq a b => if headReg a = some n then some (.seq a b) else match fromReg n a with
    | some c => some c
    | none => fromReg n b
  | .loop c => fromReg n c
  | .scope c => fromReg n c
  | .block _ c => fromReg n c
  | .cond _ a b => match fromReg n a with
    | some c => some c
    | none => fromReg n b
  | _ => none
noncomputable def tailBody : Code := ((Tryz.f4.body.bind (fromReg 31)).getD .skip)
def SwQ (KK : Act → World → Prop) : Exit → Act → World → Prop
  | .normal, a, w => KK a w
  | _, _, _ => False
theorem wp_swq {P : Program} {c : Code} {Q : Exit → Act → World → Prop} {a : Act} {w : World} (h : Code.wp P c (SwQ fun a w => Q .normal a w) a w) : Code.wp P c Q a w :=
  wp_mono h fun e a w hq => by cases e <;> first | exact hq | exact hq.elim

theorem tail_calls {w wc : World} {A a bb z i nc cc : Nat} {ac : Option Addr} {cs : List Int} {X : List Nat} {m : FS} {code KP : Int} {s8 s2e : BkS} {W0 : ByteArray}
    (hi : i < 40) (hcl : nc ≤ 40) (hAw : A ≤ w.heap.size) (HAe : Hid (w.heap.size = A)) (Hc : Hid (nc = 0 ∨ ∃ b o, ac = some ⟨b, o, none⟩ ∧ b < w.heap.size ∧ ∀ i j, i < nc → j < 1 → w.cell? ⟨b, o + i * 1 + j, none⟩ = some (.int .i64 (cs.getD i 0))))
    (Hnc : Hid (cs.length = nc)) (Hokc : Hid (∀ i, InJ2 (cs.getD i 0))) (HV : Hid (∀ W, Below A w W → ErrVar W)) (HRO : Hid (RoundOk i m code s8 s2e)) (HW0 : Hid (linesM m = W0)) (HKP : Hid (keepAt cs i = KP))
    (HT13 : Hid (TwoB wc A X a bb s8 z (z + 2) s2e)) (HB13 : Hid (Below A w wc)) {z0 z2 z3 z4 z7 z9 z13 z14 z15 z16 z17 z18 z19 z20 z21 z22 z23 z24 z25 z26 z27 z28 z29 z30 z31 z32 z33 z34 z35 z36 z37 z38 z39 z40 z41 z42 z43 z44 z45 z46 z47 z48 z49 z50 z51 z52 z53 z54 z55 z56 z57 z58 z59 z60 z61 z62 z63 z64 z65 z66 z67 z68 z69 z70 z71 z72 z73 z74 z75 z76 z77 z78 z79 z80 z81 z82 z83 z84 z85 z86 z87 z88 z89 z90 z91 z92 z93 z94 z95 z96 z97 z98 z99 z100 z101 z102 z103 z104 z105 z106 z107 z108 z109 z110 z111 z112 z113 z114 z115 z116 z117 z118 z119 z120 z121 z122 z123 z124 z125 z126 z127 z128 z129 z130 z131 z132 z133 z134 z135 z136 z137 z138 z139 z140 z141 z142 z143 z144 z145 z146 z147 z148 z149 z150 z151 z152 z153 z154 z155 z156 z157 z158 z159 z160 z161 z162 z163 z164 z165 z166 z167 z168 z169 z170 z171 z172 z173 z174 z175 z176 z177 z178 z179 z180 z181 z182 z183 z184 z185 z186 z187 z188 z189 z190 z191 z192 z193 z194 z195 z196 z197 z198 z199 z200 z201 z202 z203 z204 z205 z206 z207 z208 z209 z210 z211 z212 z213 z214 z215 z216 z217 z218 z219 z220 z221 z222 z223 z224 : Value} {KK : Act → World → Prop}
    (hQ : ∀ (u4 u12 u15 u16 u17 u18 u125 u126 u127 u128 u129 u130 u131 u132 u133 u134 u135 u136 u137 u138 u139 u140 u141 u142 u143 u144 u145 u146 u147 u148 u149 u150 u151 u152 u153 u154 u155 u156 u157 u158 u159 u160 u161 u162 u163 u164 u165 u166 u167 u168 u169 u170 u171 u172 u173 u174 u175 u176 u177 u178 u179 u180 u181 u182 u183 u184 u185 u186 u187 u188 u189 u190 u191 u192 u193 u194 u195 u196 u197 u198 u199 u200 u201 u202 u203 u204 u205 u206 u207 u208 u209 u210 u211 u212 u213 u214 u215 u216 u217 u218 u219 u220 u221 u222 u223 u224 : Value) (bb2 : Nat) (d9 : DiskD) (m' : FS) (t' : ByteArray) (wx : World), OneB wx A [] a bb2 ⟨d9, m', t', false⟩ → KInv (i + 1) d9 m' t' → Below A w wx → KK ⟨#[z0, .slice ac nc cc, z2, z3, u4, .pointer (some ⟨a, 0, none⟩), .pointer (some ⟨bb2, 0, none⟩), z7, .int .i64 ((i : Nat) : Int), z9, .string W0, .pointer (some ⟨z + 2, 0, none⟩), u12, z13, z14, u15, u16, u17, u18, z19, z20, z21, z22, z23, z24, z25, z26, z27, z28, z29, z30, z31, z32, z33, z34, z35, z36, z37, z38, z39, z40, z41, z42, z43, z44, z45, z46, z47, z48, z49, z50, z51, z52, z53, z54, z55, z56, z57, z58, z59, z60, z61, z62, z63, z64, z65, z66, z67, z68, z69, z70, z71, z72, z73, z74, z75, z76, z77, z78, z79, z80, z81, z82, z83, z84, z85, z86, z87, z88, z89, z90, z91, z92, z93, z94, z95, z96, z97, z98, z99, z100, z101, z102, z103, z104, z105, z106, z107, z108, z109, z110, z111, z112, z113, z114, z115, z116, z117, z118, z119, z120, z121, z122, z123, z124, u125, u126, u127, u128, u129, u130, u131, u132, u133, u134, u135, u136, u137, u138, u139, u140, u141, u142, u143, u144, u145, u146, u147, u148, u149, u150, u151, u152, u153, u154, u155, u156, u157, u158, u159, u160, u161, u162, u163, u164, u165, u166, u167, u168, u169, u170, u171, u172, u173, u174, u175, u176, u177, u178, u179, u180, u181, u182, u183, u184, u185, u186, u187, u188, u189, u190, u191, u192, u193, u194, u195, u196, u197, u198, u199, u200, u201, u202, u203, u204, u205, u206, u207, u208, u209, u210, u211, u212, u213, u214, u215, u216, u217, u218, u219, u220, u221, u222, u223, u224], []⟩ wx) :
    Code.wp Tryz.prog tailBody (SwQ KK) ⟨#[z0, .slice ac nc cc, z2, z3, z4, .pointer (some ⟨a, 0, none⟩), .pointer (some ⟨bb, 0, none⟩), z7, .int .i64 ((i : Nat) : Int), z9, .string W0, .pointer (some ⟨z + 2, 0, none⟩), errV code, z13, z14, z15, z16, z17, z18, z19, z20, z21, z22, z23, z24, z25, z26, z27, z28, z29, z30, z31, z32, z33, z34, z35, z36, z37, z38, z39, z40, z41, z42, z43, z44, z45, z46, z47, z48, z49, z50, z51, z52, z53, z54, z55, z56, z57, z58, z59, z60, z61, z62, z63, z64, z65, z66, z67, z68, z69, z70, z71, z72, z73, z74, z75, z76, z77, z78, z79, z80, z81, z82, z83, z84, z85, z86, z87, z88, z89, z90, z91, z92, z93, z94, z95, z96, z97, z98, z99, z100, z101, z102, z103, z104, z105, z106, z107, z108, z109, z110, z111, z112, z113, z114, z115, z116, z117, z118, z119, z120, z121, z122, z123, z124, z125, z126, z127, z128, z129, z130, z131, z132, z133, z134, z135, z136, z137, z138, z139, z140, z141, z142, z143, z144, z145, z146, z147, z148, z149, z150, z151, z152, z153, z154, z155, z156, z157, z158, z159, z160, z161, z162, z163, z164, z165, z166, z167, z168, z169, z170, z171, z172, z173, z174, z175, z176, z177, z178, z179, z180, z181, z182, z183, z184, z185, z186, z187, z188, z189, z190, z191, z192, z193, z194, z195, z196, z197, z198, z199, z200, z201, z202, z203, z204, z205, z206, z207, z208, z209, z210, z211, z212, z213, z214, z215, z216, z217, z218, z219, z220, z221, z222, z223, z224], []⟩ wc := by
  have HQ := Lib.hid hQ
  clear hQ
  have hU : True := (fun _ _ => trivial) hi hcl
  clear hU
  have hp1 : i % nc < nc ∨ nc = 0 := by rcases Nat.eq_zero_or_pos nc with h | h; exact Or.inr h; exact Or.inl (Nat.mod_lt _ h)
  conv => arg 2; whnf
  have hA13 : A ≤ wc.heap.size := Nat.le_trans hAw HB13.out.size
  have TL := Lib.hid (tell_errV code wc (HV.out _ HB13.out))
  go_wp2_with fail
  refine TL.out.mono ?_
  rintro e14 w14 ⟨rfl, hb14⟩
  have HT14 := Lib.hid (HT13.out.other hb14)
  have HB14 := Lib.hid (HB13.out.trans (hb14.mono hA13))
  have hA14 : A ≤ w14.heap.size := Nat.le_trans hAw HB14.out.size
  clear hb14 TL HT13 HB13
  obtain ⟨S8, hS8⟩ : ∃ s, linesM s8.m = s := ⟨_, rfl⟩
  obtain ⟨S2, hS2⟩ : ∃ s, linesM s2e.m = s := ⟨_, rfl⟩
  have HS8 := Lib.hid hS8
  have HS2 := Lib.hid hS2
  have HLB : Hid (∀ W s, TwoB W A X a bb s z (z + 2) s2e → s.m = s8.m → Calls Tryz.prog 19 #[.pointer (some ⟨bb, 0, none⟩)] W fun e w' => e = .returned (.string S8) ∧ Below W.heap.size W w') := fun W s h he => by
    have := tb_lines h (by rw [he]; exact HRO.out.ok8) (by rw [he]; exact HRO.out.len8)
    rw [he, HS8.out] at this
    exact this
  have HLE : Hid (∀ W s, TwoB W A X a bb s z (z + 2) s2e → Calls Tryz.prog 19 #[.pointer (some ⟨z + 2, 0, none⟩)] W fun e w' => e = .returned (.string S2) ∧ Below W.heap.size W w') := fun W s h => by
    have := tb_lines h.swap HRO.out.ok2 HRO.out.len2
    rw [HS2.out] at this
    exact this
  clear hS8 hS2
  go_upto_region 32 with fail
  go_cut [164] from 125 to 224 (fun v164 wx => v164 = .bool false ∧ TwoB wx A X a bb s8 z (z + 2) s2e ∧ Below A w wx)
  case first =>
    rcases HRO.out.kind with rfl | rfl | rfl
    · have h82 : S8 = S2 := by rw [← HS8.out, ← HS2.out]; exact HRO.out.c0 rfl
      have Hdn : Hid (s8.dn = false) := HRO.out.dn
      subst h82
      go_wp2_with fail
      refine (HLB.out _ _ HT14.out rfl).mono ?_
      rintro e15 w15 ⟨rfl, hb15⟩
      have HT15 := Lib.hid (HT14.out.other hb15)
      have HB15 := Lib.hid (HB14.out.trans (hb15.mono hA14))
      have hA15 : A ≤ w15.heap.size := Nat.le_trans hAw HB15.out.size
      clear hb15 HT14 HB14
      go_wp2_with fail
      refine (HLE.out _ _ HT15.out).mono ?_
      rintro e16 w16 ⟨rfl, hb16⟩
      have HT16 := Lib.hid (HT15.out.other hb16)
      have HB16 := Lib.hid (HB15.out.trans (hb16.mono hA15))
      have hA16 : A ≤ w16.heap.size := Nat.le_trans hAw HB16.out.size
      clear hb16 HT15 HB15
      go_wp2_with fail
      refine (tb_down HT16.out).mono ?_
      rintro ed wd ⟨rfl, rfl⟩
      rw [Hdn.out]
      go_wp2_with fail
      go_meet
      case rel => exact ⟨rfl, HT16.out, HB16.out⟩
    · have h80 : S8 = W0 := by rw [← HS8.out, ← HW0.out]; exact HRO.out.c1 rfl
      have Hdn : Hid (s8.dn = false) := HRO.out.dn
      subst h80
      go_wp2_with fail
      refine (HLB.out _ _ HT14.out rfl).mono ?_
      rintro e16 w16 ⟨rfl, hb16⟩
      have HT16 := Lib.hid (HT14.out.other hb16)
      have HB16 := Lib.hid (HB14.out.trans (hb16.mono hA14))
      have hA16 : A ≤ w16.heap.size := Nat.le_trans hAw HB16.out.size
      clear hb16 HT14 HB14
      go_wp2_with fail
      refine (tb_down HT16.out).mono ?_
      rintro ed wd ⟨rfl, rfl⟩
      rw [Hdn.out]
      go_wp2_with fail
      go_meet
      case rel => exact ⟨rfl, HT16.out, HB16.out⟩
    · have Hdn : Hid (s8.dn = true) := HRO.out.dn
      go_wp2_with fail
      refine (tb_down HT14.out).mono ?_
      rintro ed wd ⟨rfl, rfl⟩
      rw [Hdn.out]
      go_wp2_with fail
      go_meet
      case rel => exact ⟨rfl, HT14.out, HB14.out⟩
  case rest =>
    obtain ⟨rfl, hT14, hB14⟩ := hcut
    clear HT14 HB14 hA14
    have HT14 := Lib.hid hT14
    have HB14 := Lib.hid hB14
    have hA14 : A ≤ wc.heap.size := Nat.le_trans hAw hB14.size
    clear hT14 hB14
    go_upto_region 34 with fail
    go_cut [172] from 125 to 224 (fun v172 wx => v172 = .bool false ∧ TwoB wx A X a bb s8 z (z + 2) s2e ∧ Below A w wx)
    case first =>
      rcases HRO.out.kind with rfl | rfl | rfl
      · go_wp2_with fail
        go_meet
        case rel => exact ⟨rfl, HT14.out, HB14.out⟩
      · go_wp2_with fail
        go_meet
        case rel => exact ⟨rfl, HT14.out, HB14.out⟩
      · have Hdn : Hid (s8.dn = true) := HRO.out.dn
        have hsb : setB s8 ⟨#[97]⟩ ⟨#[98]⟩ = (6, s8) := by unfold setB; rw [if_pos Hdn.out]
        have TS := tb_set hA14 HT14.out (HRO.out.good) (n := ⟨#[97]⟩) (v := ⟨#[98]⟩) (by decide) (by decide) (HRO.out.text rfl) (by have := HRO.out.len8; omega)
        rw [hsb] at TS
        have HTS := Lib.hid TS
        clear TS hsb
        go_wp2_with fail
        refine HTS.out.mono ?_
        rintro e15 w15 ⟨rfl, hT15, hK15⟩
        have HT15 := Lib.hid hT15
        have HB15 := Lib.hid (HB14.out.trans hK15.1)
        have hA15 : A ≤ w15.heap.size := Nat.le_trans hAw HB15.out.size
        have TL := Lib.hid (tell_errV 6 w15 (HV.out _ HB15.out))
        clear hT15 hK15 HTS HT14 HB14
        dsimp only
        go_wp2_with fail
        refine TL.out.mono ?_
        rintro e16 w16 ⟨rfl, hb16⟩
        have HT16 := Lib.hid (HT15.out.other hb16)
        have HB16 := Lib.hid (HB15.out.trans (hb16.mono hA15))
        have hA16 : A ≤ w16.heap.size := Nat.le_trans hAw HB16.out.size
        clear hb16 TL HT15 HB15
        go_wp2_with fail
        go_meet
        case rel => exact ⟨rfl, HT16.out, HB16.out⟩
    case rest =>
      obtain ⟨rfl, hT16, hB16⟩ := hcut
      clear HT14 HB14 hA14
      obtain ⟨w16, rfl⟩ : ∃ x, x = wc := ⟨_, rfl⟩
      have HT16 := Lib.hid hT16
      have HB16 := Lib.hid hB16
      have hA16 : A ≤ w16.heap.size := Nat.le_trans hAw hB16.size
      clear hT16 hB16
      go_upto_if 175 with fail
      go_cut [16] from 125 to 224 (fun v16 wx => v16 = .int .i64 KP ∧ wx = w16)
      case first =>
        by_cases hc0 : nc = 0
        case' pos =>
          have ec0 : decide ((0 : Int) < (nc : Int)) = false := decide_eq_false (by omega)
          have hL1 : KP = 0 := by rw [← HKP.out]; unfold keepAt; rw [if_pos (by rw [Hnc.out]; exact hc0)]
          have HL1 := Lib.hid hL1
          have hc9 : ¬ 0 < nc := by omega
          clear hL1 hc0 hp1
          go_wp2_with fail
          go_meet
          case rel => exact ⟨by rw [HL1.out], rfl⟩
        obtain ⟨bc, oc, rfl, hbc, hcq⟩ := Hc.out.resolve_left (by omega)
        obtain ⟨p, hp⟩ : ∃ p, i % nc = p := ⟨_, rfl⟩
        have hpl : p < nc := by rw [← hp]; exact Nat.mod_lt _ (by omega)
        obtain ⟨cut, hcut0⟩ : ∃ x, cs.getD p 0 = x := ⟨_, rfl⟩
        have hcok := Hokc.out p
        rw [hcut0] at hcok
        have dq : w16.cell? ⟨bc, oc + p, none⟩ = some (.int .i64 cut) := by
          have h1 : w.cell? ⟨bc, oc + p * 1 + 0, none⟩ = some (.int .i64 (cs.getD p 0)) := hcq p 0 hpl (by decide)
          rw [hcut0] at h1
          exact (HB16.out.cell (p := ⟨bc, oc + p, none⟩) (show bc < A by have := HAe.out; omega)).trans (by simpa using h1)
        have hm1 : ((i : Nat) : Int).tmod ((nc : Nat) : Int) = ((p : Nat) : Int) := by rw [Int.tmod_eq_emod_of_nonneg (by omega), ← hp]; omega
        have hm2 : IntKind.i64.wrap ((p : Nat) : Int) = ((p : Nat) : Int) := by rw [IntKind.wrap_i64]; omega
        have hz0 : ((nc : Nat) : Int) ≠ 0 := by omega
        have hzb : (((nc : Nat) : Int) == 0) = false := beq_eq_false_iff_ne.2 hz0
        have ec0 : decide ((0 : Int) < (nc : Int)) = true := decide_eq_true (by omega)
        have hL1 : KP = ((pickI (cut.tdiv 9) 60 : Nat) : Int) := by rw [← HKP.out]; unfold keepAt; rw [if_neg (by rw [Hnc.out]; exact hc0), Hnc.out, hp, hcut0]
        have hq9 := tdiv9 hcok
        obtain ⟨q9, hqe⟩ : ∃ x, cut.tdiv 9 = x := ⟨_, rfl⟩
        rw [hqe] at hL1 hq9
        have hq2 : IntKind.i64.wrap q9 = q9 := by
          obtain ⟨g1, g2⟩ := hq9
          rw [IntKind.wrap_i64]; omega
        have PI := Lib.hid (pick_calls q9 60 w16 hq9 (by decide))
        rw [← hL1] at PI
        clear hcq hp hcut0 hcok hL1 hq9
        go_wp2_with fail
        refine PI.out.mono ?_
        rintro e6 w6' ⟨rfl, rfl⟩
        clear PI dq
        go_wp2_with fail
        go_meet
        case rel => exact ⟨rfl, rfl⟩
      case rest =>
        obtain ⟨rfl, rfl⟩ := hcut
        obtain ⟨m', t', x1, x2, x3, x4⟩ := HRO.out.ex KP
        obtain ⟨d9, hd9⟩ : ∃ x, startD s8.d KP = x := ⟨_, rfl⟩
        rw [hd9] at x1 x2
        have STT := tb_start hA16 HT16.out (HRO.out.good.mono (by decide) (Nat.le_refl _)) KP
        rw [hd9] at STT
        have HST := Lib.hid STT
        have HX1 := Lib.hid x1
        have HX2 := Lib.hid x2
        obtain ⟨S9, hS9⟩ : ∃ s, linesM m' = s := ⟨_, rfl⟩
        have HX3 : Hid (code ≠ 14 → S9 = S8) := fun h => by rw [← hS9, ← HS8.out]; exact x3 h
        have HX4 : Hid (code = 14 → S9 = W0 ∨ S9 = S2) := fun h => by rw [← hS9, ← HW0.out, ← HS2.out]; exact x4 h
        clear x1 x2 x3 x4 STT hd9
        go_wp2_with fail
        refine HST.out.mono ?_
        rintro e20 w20 ⟨rfl, hT20, hK20⟩
        have HT20 := Lib.hid hT20
        have HB20 := Lib.hid (HB16.out.trans hK20.1)
        have hA20 : A ≤ w20.heap.size := Nat.le_trans hAw HB20.out.size
        have OPN := tb_open hA20 hT20 (HX2.out.good.mono (by omega) (Nat.le_refl _))
        dsimp only at OPN
        rw [HX1.out] at OPN
        obtain ⟨bb2, hbb2⟩ : ∃ x, w20.heap.size + 1 = x := ⟨_, rfl⟩
        rw [hbb2] at OPN
        have HOPN := Lib.hid OPN
        clear hT20 hK20 HST HT16 HB16 OPN hbb2
        go_wp2_with fail
        refine HOPN.out.mono ?_
        rintro e21 w21 ⟨rfl, hT21, hO21, hb21⟩
        have HT21 := Lib.hid hT21
        have HO21 := Lib.hid hO21
        have HB21 := Lib.hid (HB20.out.trans (hb21.mono hA20))
        have hA21 : A ≤ w21.heap.size := Nat.le_trans hAw HB21.out.size
        have hml2 := HX2.out.len
        have LC := ob_lines hO21 HX2.out.ok (by show m'.length ≤ 100; omega)
        dsimp only at LC
        rw [hS9] at LC
        have HLC := Lib.hid LC
        clear hT21 hO21 hb21 HT20 HB20 HOPN LC hS9
        go_wp2_with fail
        refine HLC.out.mono ?_
        rintro e22 w22 ⟨rfl, hb22⟩
        have HT22 := Lib.hid (HT21.out.other hb22)
        have HO22 := Lib.hid (HO21.out.other hb22)
        have HB22 := Lib.hid (HB21.out.trans (hb22.mono hA21))
        have hA22 : A ≤ w22.heap.size := Nat.le_trans hAw HB22.out.size
        clear hb22 HT21 HO21 HB21 HLC
        go_upto_region 44 with fail
        go_cut [223] from 125 to 224 (fun v223 wx => v223 = .bool false ∧ OneB wx A [] a bb2 ⟨d9, m', t', false⟩ ∧ Below A w wx)
        case first =>
          rcases HRO.out.kind with rfl | rfl | rfl
          · have h98 : S9 = S8 := HX3.out (by decide)
            subst h98
            go_wp2_with fail
            refine (HLB.out _ _ HT22.out rfl).mono ?_
            rintro e23 w23 ⟨rfl, hb23⟩
            have HO23 := Lib.hid (HO22.out.other hb23)
            have HB23 := Lib.hid (HB22.out.trans (hb23.mono hA22))
            clear hb23 HT22 HB22 HO22
            go_wp2_with fail
            go_meet
            case rel => exact ⟨rfl, HO23.out.less, HB23.out⟩
          · have h98 : S9 = S8 := HX3.out (by decide)
            subst h98
            go_wp2_with fail
            refine (HLB.out _ _ HT22.out rfl).mono ?_
            rintro e23 w23 ⟨rfl, hb23⟩
            have HO23 := Lib.hid (HO22.out.other hb23)
            have HB23 := Lib.hid (HB22.out.trans (hb23.mono hA22))
            clear hb23 HT22 HB22 HO22
            go_wp2_with fail
            go_meet
            case rel => exact ⟨rfl, HO23.out.less, HB23.out⟩
          · have h94 : S9 = W0 ∨ S9 = S2 := HX4.out rfl
            have H94 := Lib.hid h94
            clear h94
            by_cases h90 : S9 = W0
            case' pos =>
              subst h90
              go_wp2_with fail
              go_meet
              case rel => exact ⟨rfl, HO22.out.less, HB22.out⟩
            have h92 : S9 = S2 := H94.out.resolve_left h90
            have n1 : ¬ S9.toList = W0.toList := fun e => h90 (toL_inj e)
            have n2 : (S9.toList == W0.toList) = false := by rw [beq_eq_false_iff_ne]; exact n1
            have n3 : decide (S9.toList = W0.toList) = false := decide_eq_false n1
            subst h92
            go_wp2_with fail
            refine (HLE.out _ _ HT22.out).mono ?_
            rintro e23 w23 ⟨rfl, hb23⟩
            have HO23 := Lib.hid (HO22.out.other hb23)
            have HB23 := Lib.hid (HB22.out.trans (hb23.mono hA22))
            clear hb23 HT22 HB22 HO22
            go_wp2_with fail
            go_meet
            case rel => exact ⟨rfl, HO23.out.less, HB23.out⟩
        case rest =>
          obtain ⟨rfl, hO22, hB22⟩ := hcut
          have HO22 := Lib.hid hO22
          have HB22 := Lib.hid hB22
          clear hO22 hB22
          go_wp2_with fail
          exact HQ.out _ _ _ _ _ _ _ _ _ _ _ _ _ _ _ _ _ _ _ _ _ _ _ _ _ _ _ _ _ _ _ _ _ _ _ _ _ _ _ _ _ _ _ _ _ _ _ _ _ _ _ _ _ _ _ _ _ _ _ _ _ _ _ _ _ _ _ _ _ _ _ _ _ _ _ _ _ _ _ _ _ _ _ _ _ _ _ _ _ _ _ _ _ _ _ _ _ _ _ _ _ _ _ _ _ _ _ _ _ _ _ HO22.out HX2.out HB22.out
end Go.Proofs.YtodmnogoacghpaaGreatDoor
