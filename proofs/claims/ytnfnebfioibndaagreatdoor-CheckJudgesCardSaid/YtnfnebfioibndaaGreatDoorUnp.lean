/- check.Unpack: the error that it returns is judgeU's. -/
import Derived.Test.YtnfnebfioibndaaGreatDoorConf
import Derived.Test.YtnfnebfioibndaaGreatDoorDelN
namespace Go.Proofs.YtnfnebfioibndaaGreatDoor
open Go.RowKit
set_option maxRecDepth 100000
set_option maxHeartbeats 80000000

theorem unpack_calls (kv : Value) (ks : List KnownD) (p : PackD) (dv av gv bv rv pv sv lv : Value) (pa : Option Addr) (pn pc : Nat) (w : World) (hK : Knowns w kv ks) (hP : PackV w p dv av gv bv rv pv sv lv pa pn pc) (hF : FitK ks) (hS : SmallP p) :
    Calls Tryz.prog 8 #[kv, .agg #[.string p.name, .int .i64 p.ep, .string p.up, .string p.rv, dv, av, gv, bv, rv, pv, sv, lv, .slice pa pn pc]] w (ErrR w (judgeU ks p)) := by
  obtain ⟨p9, m9, c9, rfl⟩ := hP.provides.1.slice
  obtain ⟨w0, hw0⟩ : ∃ w0 : World, w0 = w.alloc (.cells #[.string p.name, .int .i64 p.ep, .string p.up, .string p.rv, dv, av, gv, bv, rv, .slice p9 m9 c9, sv, lv, .slice pa pn pc] 30) := ⟨_, rfl⟩
  have hB0 : Below w.heap.size w w0 := by rw [hw0]; go_grown
  have hz0 : w0.heap.size = w.heap.size + 1 := by rw [hw0]; simp
  have hPB : w0.rangeAt w.heap.size 0 [.string p.name, .int .i64 p.ep, .string p.up, .string p.rv, dv, av, gv, bv, rv, .slice p9 m9 c9, sv, lv, .slice pa pn pc] := by rw [hw0]; exact rangeAt_new w [.string p.name, .int .i64 p.ep, .string p.up, .string p.rv, dv, av, gv, bv, rv, .slice p9 m9 c9, sv, lv, .slice pa pn pc] _
  have hK0 := hK.below hB0 (Nat.le_refl _)
  have hV0 := hP.below hB0 (Nat.le_refl _)
  have HK0 := Lib.hid hK0
  obtain ⟨R, hSl, hO⟩ := hK0
  have HSl := Lib.hid hSl
  obtain ⟨a, cap, rfl, hcap, hmax, hcell⟩ := hSl
  unfold maxLen at hmax
  have Hcell := Lib.hid hcell
  have HO := Lib.hid hO
  obtain ⟨m, hm⟩ : ∃ m, ks.length = m := ⟨_, rfl⟩
  have hm20 := hF.len
  rw [hm] at hcap Hcell HO hm20 ⊢
  have HK : Hid (Knowns w0 (.slice a m cap) ks) := by have := HK0; rwa [hm] at this
  have HSl2 : Hid (Sl w0 (.slice a m cap) m 20 R) := by have := HSl; rwa [hm] at this
  have hwl : w.heap.size < w0.heap.size := by omega
  have HPB := Lib.hid hPB
  have HP := Lib.hid hV0
  have HF := Lib.hid hF
  have HS := Lib.hid hS
  have Hm := Lib.hid hm
  have Hw := Lib.hid hw0
  have HB0 := Lib.hid hB0
  have CK : Hid (Calls Tryz.prog 22 #[.slice a m cap, .func (.func 23) #[] #[.pointer (some ⟨w.heap.size, 0, none⟩)]] w0 fun e w' => e = .returned (.bool (ks.any (fun k => nameB k p.name && k.held))) ∧ Below w0.heap.size w0 w') := by
    have := containsKnown_calls (.slice a m cap) m R 23 #[.pointer (some ⟨w.heap.size, 0, none⟩)] (fun i => nameB (ks.getD i KnownD.none) p.name && (ks.getD i KnownD.none).held) w0 HSl2.out enters_unpack1 ?_
    · rw [← Hm.out, any_range_ks ks (fun k => nameB k p.name && k.held)] at this
      rw [← Hm.out]
      exact this
    · intro i hi w' hb
      obtain ⟨q, hq⟩ : ∃ q, ks.getD i KnownD.none = q := ⟨_, rfl⟩
      have hkn := HO.out i hi
      rw [hq] at hkn ⊢
      obtain ⟨fw, nw, qw, ft, nt, qt, f4, n4, q4, f5, n5, q5, f6, n6, q6, f7, n7, q7, f8, n8, q8, f9, n9, q9, f10, n10, q10, f11, n11, q11, fa, fn, fc, eR, -, -, -⟩ := hkn.cells
      rw [eR]
      exact unpack1_calls q.state q.ep q.up q.rv q.held _ _ q.pack _ _ _ _ _ _ _ _ _ _ _ w.heap.size p.name w' (Nat.lt_of_lt_of_le hwl hb.size) (rangeAt_below HPB.out hb hwl 0 _ rfl)
  have CO : Hid (∀ w1, Below w0.heap.size w0 w1 → Calls Tryz.prog 25 #[.slice a m cap, .func (.func 26) #[] #[]] w1 (WorkR w1 ks)) := fun w1 hb => offersK_calls _ _ _ (HK.out.below hb (Nat.le_refl _)) (by rw [Hm.out]; exact hm20)
  have CD : Hid (∀ w1, Below w0.heap.size w0 w1 → ∀ w2 v os, Below w1.heap.size w1 w2 → w2.ownsRow w1.heap.size 73 5 v os.length (rowsOf os) → os.length ≤ ks.length → (∀ o ∈ os, Terms w1 o.pv o.provides) → Calls Tryz.prog 24 #[v, .func (.func 27) #[] #[.pointer (some ⟨w.heap.size, 0, none⟩)]] w2 (DelR w1.heap.size w2 os (fun o => o.name.toList == p.name.toList))) := by
    intro w1 hb1 w2 v os hb2 hown hlen hterm
    refine deleteOwn_calls w1.heap.size v os _ _ _ w2 (by have := Hm.out; omega) hown hb2.size (fun o ho => (hterm o ho).1.slice) enters_unpack2 ?_
    intro o ho w' hb' hs
    have hb3 : Below w0.heap.size w0 w' := (hb1.trans (hb2.mono hb1.size)).trans (hb'.mono hb1.size)
    exact unpack2_calls o w.heap.size p.name w' (Nat.lt_of_lt_of_le hwl hb3.size) (rangeAt_below HPB.out hb3 hwl 0 _ rfl)
  clear hcell hO hm hPB HK0 hV0 hF hS hw0 hB0 hP hK HSl
  go_enter Tryz.func8, Tryz.ntmps8
  go_wp2_with fail
  rw [← Hw.out]
  go_wp2_with fail
  refine CK.out.mono ?_
  rintro e1 w1 ⟨rfl, hb1⟩
  clear CK
  cases hheld : ks.any (fun k => nameB k p.name && k.held)
  case' true =>
    have HJ : Hid (judgeU ks p = (6, -1)) := by
      show _ = _
      unfold judgeU
      rw [hheld, if_pos rfl]
    clear hheld
    go_wp2_with fail
    go_ret
    exact ⟨_, rfl, by rw [HJ.out]; exact .no 6, HB0.out.trans (hb1.mono HB0.out.size)⟩
  have HA0 := Lib.hid hheld
  clear hheld
  go_wp2_with fail
  refine (CO.out w1 hb1).mono ?_
  rintro e2 w2 ⟨ov, os, rfl, hown, hbare, hterm, hlen, hb2⟩
  have HD := Lib.hid (CD.out w1 hb1 w2 ov os hb2 hown hlen hterm)
  have Hbare := Lib.hid hbare
  have Hterm := Lib.hid hterm
  have hB2 := hb1.trans (hb2.mono hb1.size)
  have h12 := hb1.size
  clear hown hbare hterm hlen CO CD
  go_wp2_with fail
  refine HD.out.mono ?_
  rintro e3 w3 ⟨v3, rfl, hoffs, hb3⟩
  have hB3 := hB2.trans (hb3.mono h12)
  have H13 : Hid (Below w1.heap.size w1 w3) := hb2.trans hb3
  have HOs := Lib.hid hoffs
  have p3 : w3.cell? ⟨w.heap.size, 5, none⟩ = some av := rangeAt_below HPB.out hB3 hwl 5 _ rfl
  have HBR : Hid ((os.filter (fun o => !(o.name.toList == p.name.toList))).map OffD.bare = othersB ks p.name) := others_offs Hbare.out
  have HOk : Hid (∀ o ∈ os.filter (fun o => !(o.name.toList == p.name.toList)), OffOk w3 o) := by
    intro o ho
    refine small_of_bare' HF.out ((Hterm.out o (List.mem_filter.1 ho).1).below H13.out (Nat.le_refl _)) (othersB_mem (nm := p.name) ?_)
    rw [← HBR.out]
    exact List.mem_map_of_mem ho
  have HM : Hid (metR (oneO (os.filter (fun o => !(o.name.toList == p.name.toList)))) p.ahead = metU ks p) := by
    show _ = _
    unfold metU
    rw [oneO_K, HBR.out]
  clear hoffs hb2 hb3 HD Hterm Hbare hb1 hB2
  go_wp2_with fail
  refine (met_calls _ _ p.ahead _ _ (HP.out.ahead.below hB3 (Nat.le_refl _)) HOs.out HOk.out HS.out.ahead).mono ?_
  rintro e4 w4 ⟨rfl, hb4⟩
  have hB := hB3.trans (hb4.mono hB3.size)
  rw [HM.out]
  clear hb4 hB3 HOs HBR HOk HM p3 H13
  cases hok : (metU ks p).2
  case' false =>
    have HJ : Hid (judgeU ks p = (7, (metU ks p).1)) := by
      show _ = _
      unfold judgeU
      rw [if_neg (by rw [HA0.out]; exact Bool.false_ne_true), hok, if_neg Bool.false_ne_true]
    clear hok
    go_wp2_with fail
    go_ret
    refine ⟨_, rfl, ?_, ?_⟩
    · rw [HJ.out]
      exact .at _ 0 _ _ (by simp [go_sem]) (by simp [go_sem]) (by simp)
    · exact (HB0.out.trans (hB.mono HB0.out.size)).alloc (Nat.le_trans HB0.out.size hB.size) _
  have HJ : Hid (judgeU ks p = firstU p ks 0) := by
    show _ = _
    unfold judgeU
    rw [if_neg (by rw [HA0.out]; exact Bool.false_ne_true), hok, if_pos rfl]
  clear hok HA0
  go_wp2_with fail
  go_loopg [34] m (fun k v34 wr => ∃ i : Nat, v34 = .int .i64 i ∧ i ≤ m ∧ k = m - i ∧ firstU p ks 0 = firstU p (ks.drop i) i ∧ Below w0.heap.size w0 wr)
  case atStart => exact ⟨0, rfl, Nat.zero_le _, rfl, rfl, hB⟩
  case round =>
    clear hB
    obtain ⟨i, rfl, hi, hk, hfs, hB⟩ := hrel
    have Hk := Lib.hid hk
    have Hfs := Lib.hid hfs
    clear hk hfs
    by_cases hlt : i < m
    · obtain ⟨bp, op, rfl, hbp, hcp⟩ := Hcell.out.resolve_left (by omega)
      obtain ⟨q, hq⟩ : ∃ q, ks.getD i KnownD.none = q := ⟨_, rfl⟩
      have hkn := HO.out i hlt
      have hmem : ks.getD i KnownD.none ∈ ks := mem_getD _ (by rw [Hm.out]; exact hlt)
      rw [hq] at hkn hmem
      have HR0 : wr.rangeAt bp (op + i * 20) (row20 (R i)) := rangeAt_row20 fun j hj => (hB.cell (p := ⟨bp, op + i * 20 + j, none⟩) hbp).trans (hcp i j hlt hj)
      obtain ⟨s, e, u, r, hd, wl, tl, kp⟩ := q
      obtain ⟨fw, nw, qw, ft, nt, qt, f4, n4, q4, f5, n5, q5, f6, n6, q6, f7, n7, q7, f8, n8, q8, f9, n9, q9, f10, n10, q10, f11, n11, q11, fa, fn, fc, eR, hV, -, -⟩ := hkn.cells
      dsimp only at eR hV
      rw [eR] at HR0
      have HR := Lib.hid HR0
      have HV := Lib.hid hV
      have Hq := Lib.hid hq
      have Hmem := Lib.hid hmem
      have hsz := hB.size
      clear HR0 eR hV hkn hcp hq hmem
      obtain ⟨wt, hwt⟩ : ∃ wt : World, wt = wr.alloc (.cells #[.int .i64 s, .int .i64 e, .string u, .string r, .bool hd, .slice fw nw qw, .slice ft nt qt, .string kp.name, .int .i64 kp.ep, .string kp.up, .string kp.rv, .slice f4 n4 q4, .slice f5 n5 q5, .slice f6 n6 q6, .slice f7 n7 q7, .slice f8 n8 q8, .slice f9 n9 q9, .slice f10 n10 q10, .slice f11 n11 q11, .slice fa fn fc] 61) := ⟨_, rfl⟩
      have hBr : Below wr.heap.size wr wt := by rw [hwt]; exact (Below.refl _ _).alloc (Nat.le_refl _) _
      have hBt : Below w0.heap.size w0 wt := by rw [hwt]; exact hB.alloc hB.size _
      have hzt : wt.heap.size = wr.heap.size + 1 := by rw [hwt]; simp
      have hRn : wt.rangeAt wr.heap.size 0 [.int .i64 s, .int .i64 e, .string u, .string r, .bool hd, .slice fw nw qw, .slice ft nt qt, .string kp.name, .int .i64 kp.ep, .string kp.up, .string kp.rv, .slice f4 n4 q4, .slice f5 n5 q5, .slice f6 n6 q6, .slice f7 n7 q7, .slice f8 n8 q8, .slice f9 n9 q9, .slice f10 n10 q10, .slice f11 n11 q11, .slice fa fn fc] := by rw [hwt]; exact rangeAt_new _ _ _
      have HRn := Lib.hid hRn
      have hlt2 : wr.heap.size < wt.heap.size := by omega
      have Hwt := Lib.hid hwt
      have Hzt := Lib.hid hzt
      have hsz2 : w0.heap.size ≤ wt.heap.size := hBt.size
      clear hzt hwt hRn hBr
      have HSk : Hid (SmallP kp) := HF.out.small _ Hmem.out
      have HPos : Hid (0 ≤ s) := HF.out.pos _ Hmem.out
      have HBt := Lib.hid hBt
      go_wp2_with (first
        | (refine wpList_load_mid (by rfl) 61 _ (by rfl) bp (op + i * 20) (by rfl) _ _ HR.out Tryz.underlying61 (by rfl) (by kernel_rfl) ?_)
        | (refine wpList_store_mid (by rfl) 61 _ _ (by rfl) wr.heap.size 0 #[.int .i64 s, .int .i64 e, .string u, .string r, .bool hd, .slice fw nw qw, .slice ft nt qt, .string kp.name, .int .i64 kp.ep, .string kp.up, .string kp.rv, .slice f4 n4 q4, .slice f5 n5 q5, .slice f6 n6 q6, .slice f7 n7 q7, .slice f8 n8 q8, .slice f9 n9 q9, .slice f10 n10 q10, .slice f11 n11 q11, .slice fa fn fc] (by rfl) (by rfl) (there_new _ _ _ _ (by rfl)) (by kernel_rfl) (by simp [Value.oneCell']) ?_; rw [setCells_new _ _ _ _ (by rfl)]; rw [show wr.alloc (.cells _ _) = wt from Hwt.out.symm])
        | (refine wpList_load_mid (by rfl) 30 _ (by rfl) wr.heap.size 7 (by rfl) _ _ (rangeAt_drop7 HRn.out) Tryz.underlying30 (by rfl) (by kernel_rfl) ?_))
      refine (offer_of_calls kp (.slice f4 n4 q4) (.slice f5 n5 q5) (.slice f6 n6 q6) (.slice f7 n7 q7) (.slice f8 n8 q8) (.slice f9 n9 q9) (.slice f10 n10 q10) (.slice f11 n11 q11) fa fn fc wt ⟨_, _, _, rfl⟩).mono ?_
      rintro e5 w5 ⟨rfl, hc5⟩
      obtain ⟨wA, hwA⟩ : ∃ wA : World, wA = w5.alloc (.cells #[.string kp.name, .int .i64 kp.ep, .string kp.up, .string kp.rv, .slice f9 n9 q9] 73) := ⟨_, rfl⟩
      have hB5A : Below w5.heap.size w5 wA := by rw [hwA]; exact (Below.refl _ _).alloc (Nat.le_refl _) _
      have hBtA : Below wt.heap.size wt wA := hc5.trans (hB5A.mono hc5.size)
      have hBA : Below w0.heap.size w0 wA := HBt.out.trans (hBtA.mono hsz2)
      have hzA : wA.heap.size = w5.heap.size + 1 := by rw [hwA]; simp
      have hOn : wA.rangeAt w5.heap.size 0 [.string kp.name, .int .i64 kp.ep, .string kp.up, .string kp.rv, .slice f9 n9 q9] := by rw [hwA]; exact rangeAt_new _ _ _
      have HOn := Lib.hid hOn
      have HwA := Lib.hid hwA
      have HBtA := Lib.hid hBtA
      have HBA := Lib.hid hBA
      have h5A : w5.heap.size < wA.heap.size := by omega
      clear hwA hzA hOn hc5 hB5A hBt hB
      go_upto_region 11 with fail
      rw [show w5.alloc (.cells _ _) = wA from HwA.out.symm]
      have go0 : wA.cell? ⟨wr.heap.size, 0, none⟩ = some (.int .i64 s) := rangeAt_below HRn.out HBtA.out hlt2 0 _ rfl
      have go7 : wA.cell? ⟨wr.heap.size, 7, none⟩ = some (.string kp.name) := rangeAt_below HRn.out HBtA.out hlt2 7 _ rfl
      have gop : wA.cell? ⟨w.heap.size, 0, none⟩ = some (.string p.name) := rangeAt_below HPB.out HBA.out hwl 0 _ rfl
      cases hnm : (kp.name.toList == p.name.toList)
      case' true =>
        have HC : Hid (firstU p ks 0 = firstU p (ks.drop (i + 1)) ((i + 1 : Nat) : Int)) := by
          refine Hfs.out.trans (firstU_step (by rw [Hm.out]; exact hlt) ?_)
          rw [Hq.out]
          unfold codeU nameB; rw [if_pos (by simp [hnm])]
        go_wp2_with fail
        go_roundg (m - (i + 1))
        case rel => exact ⟨i + 1, by go_num, by omega, rfl, HC.out, HBA.out⟩
        case measure => have := Hk.out; omega
      by_cases hs : s ≤ 1
      case' pos =>
        have HC : Hid (firstU p ks 0 = firstU p (ks.drop (i + 1)) ((i + 1 : Nat) : Int)) := by
          refine Hfs.out.trans (firstU_step (by rw [Hm.out]; exact hlt) ?_)
          rw [Hq.out]
          unfold codeU nameB; rw [if_pos (by simp [hnm, hs])]
        have es : decide (s ≤ 1) = true := decide_eq_true hs
        clear hs
        go_wp2_with fail
        go_roundg (m - (i + 1))
        case rel => exact ⟨i + 1, by go_num, by omega, rfl, HC.out, HBA.out⟩
        case measure => have := Hk.out; omega
      have es : decide (s ≤ 1) = false := decide_eq_false hs
      have Hs := Lib.hid hs
      clear hs
      have HH : Hid (∀ w', Below wA.heap.size wA w' → w'.cell? ⟨w5.heap.size, 0, none⟩ = some (.string kp.name) ∧ w'.cell? ⟨w5.heap.size, 1, none⟩ = some (.int .i64 kp.ep) ∧ w'.cell? ⟨w5.heap.size, 2, none⟩ = some (.string kp.up) ∧ w'.cell? ⟨w5.heap.size, 3, none⟩ = some (.string kp.rv) ∧ w'.cell? ⟨w5.heap.size, 4, none⟩ = some (.slice f9 n9 q9) ∧ w'.cell? ⟨w.heap.size, 0, none⟩ = some (.string p.name) ∧ w'.cell? ⟨w.heap.size, 1, none⟩ = some (.int .i64 p.ep) ∧ w'.cell? ⟨w.heap.size, 2, none⟩ = some (.string p.up) ∧ w'.cell? ⟨w.heap.size, 3, none⟩ = some (.string p.rv) ∧ w'.cell? ⟨w.heap.size, 4, none⟩ = some (dv) ∧ w'.cell? ⟨w.heap.size, 5, none⟩ = some (av) ∧ w'.cell? ⟨w.heap.size, 6, none⟩ = some (gv) ∧ w'.cell? ⟨w.heap.size, 7, none⟩ = some (bv) ∧ w'.cell? ⟨w.heap.size, 8, none⟩ = some (rv) ∧ w'.cell? ⟨w.heap.size, 9, none⟩ = some (.slice p9 m9 c9) ∧ w'.cell? ⟨w.heap.size, 10, none⟩ = some (sv) ∧ w'.cell? ⟨w.heap.size, 11, none⟩ = some (lv) ∧ w'.cell? ⟨w.heap.size, 12, none⟩ = some (.slice pa pn pc) ∧ w'.cell? ⟨wr.heap.size, 0, none⟩ = some (.int .i64 s) ∧ w'.cell? ⟨wr.heap.size, 7, none⟩ = some (.string kp.name) ∧ w'.cell? ⟨wr.heap.size, 13, none⟩ = some (.slice f6 n6 q6) ∧ w'.cell? ⟨wr.heap.size, 14, none⟩ = some (.slice f7 n7 q7)) := by
        intro w' hb
        have hO := rangeAt_below HOn.out hb h5A
        have hPp := rangeAt_below HPB.out (HBA.out.trans (hb.mono HBA.out.size)) hwl
        have hKk := rangeAt_below HRn.out (HBtA.out.trans (hb.mono HBtA.out.size)) hlt2
        exact ⟨hO 0 _ rfl, hO 1 _ rfl, hO 2 _ rfl, hO 3 _ rfl, hO 4 _ rfl, hPp 0 _ rfl, hPp 1 _ rfl, hPp 2 _ rfl, hPp 3 _ rfl, hPp 4 _ rfl, hPp 5 _ rfl, hPp 6 _ rfl, hPp 7 _ rfl, hPp 8 _ rfl, hPp 9 _ rfl, hPp 10 _ rfl, hPp 11 _ rfl, hPp 12 _ rfl, hKk 0 _ rfl, hKk 7 _ rfl, hKk 13 _ rfl, hKk 14 _ rfl⟩
      have hnm' : (p.name.toList == kp.name.toList) = false := by
        have := hnm
        simp only [beq_eq_false_iff_ne, ne_eq] at this ⊢
        exact fun e => this e.symm
      have hBAA : Below wA.heap.size wA wA := Below.refl _ _
      have HS0 := Lib.hid (And.intro hBAA.drew (HH.out _ hBAA.drew))
      have HS1 := Lib.hid (And.intro hBAA (HH.out _ hBAA))
      have hko : ∀ w', Below wA.heap.size wA w' → OffOk w' ⟨kp.name, kp.ep, kp.up, kp.rv, .slice f9 n9 q9, kp.provides⟩ := fun w' hb => ⟨HV.out.provides.below (HBA.out.trans (hb.mono HBA.out.size)) (Nat.le_refl _), HSk.out.sm, HSk.out.provides⟩
      have hpo : ∀ w', Below wA.heap.size wA w' → OffOk w' ⟨p.name, p.ep, p.up, p.rv, .slice p9 m9 c9, p.provides⟩ := fun w' hb => ⟨HP.out.provides.below (HBA.out.trans (hb.mono HBA.out.size)) (Nat.le_refl _), HS.out.sm, HS.out.provides⟩
      have hup : ∀ w', Below wA.heap.size wA w' → Below w0.heap.size w0 w' := fun w' hb => HBA.out.trans (hb.mono HBA.out.size)
      have OFP : Hid (∀ w', Below wA.heap.size wA w' → Calls Tryz.prog 29 #[.agg #[.string p.name, .int .i64 p.ep, .string p.up, .string p.rv, dv, av, gv, bv, rv, .slice p9 m9 c9, sv, lv, .slice pa pn pc]] w' fun e w'' => e = .returned (.agg #[.string p.name, .int .i64 p.ep, .string p.up, .string p.rv, .slice p9 m9 c9]) ∧ Below w'.heap.size w' w'') := fun w' _ => offer_of_calls p dv av gv bv rv _ sv lv pa pn pc w' ⟨_, _, _, rfl⟩
      obtain ⟨a1, ha1⟩ : ∃ a1, p.against.any (fun t => packB t kp) = a1 := ⟨_, rfl⟩
      obtain ⟨a2, ha2⟩ : ∃ a2, kp.against.any (fun t => packB t p) = a2 := ⟨_, rfl⟩
      obtain ⟨b1, hb1'⟩ : ∃ b1, p.breaks.any (fun t => packB t kp) = b1 := ⟨_, rfl⟩
      obtain ⟨b2, hb2'⟩ : ∃ b2, kp.breaks.any (fun t => packB t p) = b2 := ⟨_, rfl⟩
      have M1 : Hid (∀ w', Below wA.heap.size wA w' → Calls Tryz.prog 30 #[.agg #[.string kp.name, .int .i64 kp.ep, .string kp.up, .string kp.rv, .slice f9 n9 q9], gv, .string p.name] w' fun e w'' => e = .returned (.bool a1) ∧ Below w'.heap.size w' w'') := by
        intro w' hb
        have := meetsOf_calls ⟨kp.name, kp.ep, kp.up, kp.rv, .slice f9 n9 q9, kp.provides⟩ gv p.against p.name w' (HP.out.against.below (hup w' hb) (Nat.le_refl _)) (hko w' hb) HS.out.against
        have e : (!((⟨kp.name, kp.ep, kp.up, kp.rv, .slice f9 n9 q9, kp.provides⟩ : OffD).name.toList == p.name.toList) && p.against.any (fun t => offB t ⟨kp.name, kp.ep, kp.up, kp.rv, .slice f9 n9 q9, kp.provides⟩)) = a1 := by
          show (!(kp.name.toList == p.name.toList) && _) = _
          rw [hnm]
          exact ha1
        rw [e] at this
        exact this
      have M2 : Hid (∀ w', Below wA.heap.size wA w' → Calls Tryz.prog 30 #[.agg #[.string p.name, .int .i64 p.ep, .string p.up, .string p.rv, .slice p9 m9 c9], (.slice f6 n6 q6), .string kp.name] w' fun e w'' => e = .returned (.bool a2) ∧ Below w'.heap.size w' w'') := by
        intro w' hb
        have := meetsOf_calls ⟨p.name, p.ep, p.up, p.rv, .slice p9 m9 c9, p.provides⟩ (.slice f6 n6 q6) kp.against kp.name w' (HV.out.against.below (hup w' hb) (Nat.le_refl _)) (hpo w' hb) HSk.out.against
        have e : (!((⟨p.name, p.ep, p.up, p.rv, .slice p9 m9 c9, p.provides⟩ : OffD).name.toList == kp.name.toList) && kp.against.any (fun t => offB t ⟨p.name, p.ep, p.up, p.rv, .slice p9 m9 c9, p.provides⟩)) = a2 := by
          show (!(p.name.toList == kp.name.toList) && _) = _
          rw [hnm']
          exact ha2
        rw [e] at this
        exact this
      have N1 : Hid (∀ w', Below wA.heap.size wA w' → Calls Tryz.prog 30 #[.agg #[.string kp.name, .int .i64 kp.ep, .string kp.up, .string kp.rv, .slice f9 n9 q9], bv, .string p.name] w' fun e w'' => e = .returned (.bool b1) ∧ Below w'.heap.size w' w'') := by
        intro w' hb
        have := meetsOf_calls ⟨kp.name, kp.ep, kp.up, kp.rv, .slice f9 n9 q9, kp.provides⟩ bv p.breaks p.name w' (HP.out.breaks.below (hup w' hb) (Nat.le_refl _)) (hko w' hb) HS.out.breaks
        have e : (!((⟨kp.name, kp.ep, kp.up, kp.rv, .slice f9 n9 q9, kp.provides⟩ : OffD).name.toList == p.name.toList) && p.breaks.any (fun t => offB t ⟨kp.name, kp.ep, kp.up, kp.rv, .slice f9 n9 q9, kp.provides⟩)) = b1 := by
          show (!(kp.name.toList == p.name.toList) && _) = _
          rw [hnm]
          exact hb1'
        rw [e] at this
        exact this
      have N2 : Hid (∀ w', Below wA.heap.size wA w' → Calls Tryz.prog 30 #[.agg #[.string p.name, .int .i64 p.ep, .string p.up, .string p.rv, .slice p9 m9 c9], (.slice f7 n7 q7), .string kp.name] w' fun e w'' => e = .returned (.bool b2) ∧ Below w'.heap.size w' w'') := by
        intro w' hb
        have := meetsOf_calls ⟨p.name, p.ep, p.up, p.rv, .slice p9 m9 c9, p.provides⟩ (.slice f7 n7 q7) kp.breaks kp.name w' (HV.out.breaks.below (hup w' hb) (Nat.le_refl _)) (hpo w' hb) HSk.out.breaks
        have e : (!((⟨p.name, p.ep, p.up, p.rv, .slice p9 m9 c9, p.provides⟩ : OffD).name.toList == kp.name.toList) && kp.breaks.any (fun t => offB t ⟨p.name, p.ep, p.up, p.rv, .slice p9 m9 c9, p.provides⟩)) = b2 := by
          show (!(p.name.toList == kp.name.toList) && _) = _
          rw [hnm']
          exact hb2'
        rw [e] at this
        exact this
      have Ha1 := Lib.hid ha1
      have Ha2 := Lib.hid ha2
      have Hb1 := Lib.hid hb1'
      have Hb2 := Lib.hid hb2'
      have Hnm := Lib.hid hnm
      clear ha1 ha2 hb1' hb2' hko hpo hnm' hBAA
      cases a1
      case' true =>
        go_wp2_with fail
        refine wp_region_held_drew (S := (fun w' => Below wA.heap.size wA w' ∧ w'.cell? ⟨w5.heap.size, 0, none⟩ = some (.string kp.name) ∧ w'.cell? ⟨w5.heap.size, 1, none⟩ = some (.int .i64 kp.ep) ∧ w'.cell? ⟨w5.heap.size, 2, none⟩ = some (.string kp.up) ∧ w'.cell? ⟨w5.heap.size, 3, none⟩ = some (.string kp.rv) ∧ w'.cell? ⟨w5.heap.size, 4, none⟩ = some (.slice f9 n9 q9) ∧ w'.cell? ⟨w.heap.size, 0, none⟩ = some (.string p.name) ∧ w'.cell? ⟨w.heap.size, 1, none⟩ = some (.int .i64 p.ep) ∧ w'.cell? ⟨w.heap.size, 2, none⟩ = some (.string p.up) ∧ w'.cell? ⟨w.heap.size, 3, none⟩ = some (.string p.rv) ∧ w'.cell? ⟨w.heap.size, 4, none⟩ = some (dv) ∧ w'.cell? ⟨w.heap.size, 5, none⟩ = some (av) ∧ w'.cell? ⟨w.heap.size, 6, none⟩ = some (gv) ∧ w'.cell? ⟨w.heap.size, 7, none⟩ = some (bv) ∧ w'.cell? ⟨w.heap.size, 8, none⟩ = some (rv) ∧ w'.cell? ⟨w.heap.size, 9, none⟩ = some (.slice p9 m9 c9) ∧ w'.cell? ⟨w.heap.size, 10, none⟩ = some (sv) ∧ w'.cell? ⟨w.heap.size, 11, none⟩ = some (lv) ∧ w'.cell? ⟨w.heap.size, 12, none⟩ = some (.slice pa pn pc) ∧ w'.cell? ⟨wr.heap.size, 0, none⟩ = some (.int .i64 s) ∧ w'.cell? ⟨wr.heap.size, 7, none⟩ = some (.string kp.name) ∧ w'.cell? ⟨wr.heap.size, 13, none⟩ = some (.slice f6 n6 q6) ∧ w'.cell? ⟨wr.heap.size, 14, none⟩ = some (.slice f7 n7 q7))) (by kernel_rfl) ?_ (fun hHeld => ?_)
        · exact HS0.out
        refine wpAnyH_take (i := 0) (oi := _) (v := .agg #[.string kp.name, .int .i64 kp.ep, .string kp.up, .string kp.rv, .slice f9 n9 q9]) rfl (by kernel_rfl) (by kernel_rfl) (by kernel_rfl) (fun _ _ _ h => h) (Or.inl ⟨by kernel_rfl, fun w hSw => ?_⟩) hHeld ?_
        · (try dsimp only at hSw); go_simp
        try simp only [Act.put, List.getElem_toArray, List.getElem_cons_succ, List.getElem_cons_zero, List.setIfInBounds_toArray, List.set_cons_zero, List.set_cons_succ]
        refine wpAnyH_take (i := 1) (oi := _) (v := .pointer (some ⟨w.heap.size, 6, none⟩)) rfl (by kernel_rfl) (by kernel_rfl) (by kernel_rfl) (fun _ _ _ h => h) (Or.inl ⟨by kernel_rfl, fun w hSw => ?_⟩) hHeld ?_
        · (try dsimp only at hSw); go_simp
        try simp only [Act.put, List.getElem_toArray, List.getElem_cons_succ, List.getElem_cons_zero, List.setIfInBounds_toArray, List.set_cons_zero, List.set_cons_succ]
        refine wpAnyH_take (i := 2) (oi := _) (v := gv) rfl (by kernel_rfl) (by kernel_rfl) (by kernel_rfl) (fun _ _ _ h => h) (Or.inl ⟨by kernel_rfl, fun w hSw => ?_⟩) hHeld ?_
        · (try dsimp only at hSw); go_simp
        try simp only [Act.put, List.getElem_toArray, List.getElem_cons_succ, List.getElem_cons_zero, List.setIfInBounds_toArray, List.set_cons_zero, List.set_cons_succ]
        refine wpAnyH_take (i := 3) (oi := _) (v := .pointer (some ⟨w.heap.size, 0, none⟩)) rfl (by kernel_rfl) (by kernel_rfl) (by kernel_rfl) (fun _ _ _ h => h) (Or.inl ⟨by kernel_rfl, fun w hSw => ?_⟩) hHeld ?_
        · (try dsimp only at hSw); go_simp
        try simp only [Act.put, List.getElem_toArray, List.getElem_cons_succ, List.getElem_cons_zero, List.setIfInBounds_toArray, List.set_cons_zero, List.set_cons_succ]
        refine wpAnyH_take (i := 4) (oi := _) (v := .string p.name) rfl (by kernel_rfl) (by kernel_rfl) (by kernel_rfl) (fun _ _ _ h => h) (Or.inl ⟨by kernel_rfl, fun w hSw => ?_⟩) hHeld ?_
        · (try dsimp only at hSw); go_simp
        try simp only [Act.put, List.getElem_toArray, List.getElem_cons_succ, List.getElem_cons_zero, List.setIfInBounds_toArray, List.set_cons_zero, List.set_cons_succ]
        refine wpAnyH_ready (rs := [5]) (by kernel_rfl) (by simp) ?_
        refine AllReadyH.cons (o := _) rfl (fun K hK => ?_) AllReadyH.nil
        go_simp
        go_at_call 30
        refine (M1.out _ hHeld.1).mono ?_
        rintro e w' ⟨rfl, hb⟩
        refine hK.out _ _ (held_next HH.out hHeld.1 hb) (fun hHeld2 => ?_)
        clear hK K hb hHeld
        have hHeld := hHeld2
        clear hHeld2
        try simp only [Act.put, List.getElem_toArray, List.getElem_cons_succ, List.getElem_cons_zero, List.setIfInBounds_toArray, List.set_cons_zero, List.set_cons_succ]
        refine wpAnyH_take (i := 6) (oi := _) (v := .bool true) rfl (by kernel_rfl) (by kernel_rfl) (by kernel_rfl) (fun _ _ _ h => h) (Or.inl ⟨by kernel_rfl, fun w hSw => ?_⟩) hHeld ?_
        · (try dsimp only at hSw); go_simp
        try simp only [Act.put, List.getElem_toArray, List.getElem_cons_succ, List.getElem_cons_zero, List.setIfInBounds_toArray, List.set_cons_zero, List.set_cons_succ]
        refine wpAnyH_take (i := 7) (oi := _) (v := undef) rfl (by kernel_rfl) (by kernel_rfl) (by kernel_rfl) (fun _ _ _ h => h) (Or.inr ⟨by kernel_rfl, rfl⟩) hHeld ?_
        try simp only [Act.put, List.getElem_toArray, List.getElem_cons_succ, List.getElem_cons_zero, List.setIfInBounds_toArray, List.set_cons_zero, List.set_cons_succ]
        refine wpAnyH_take (i := 8) (oi := _) (v := undef) rfl (by kernel_rfl) (by kernel_rfl) (by kernel_rfl) (fun _ _ _ h => h) (Or.inr ⟨by kernel_rfl, rfl⟩) hHeld ?_
        try simp only [Act.put, List.getElem_toArray, List.getElem_cons_succ, List.getElem_cons_zero, List.setIfInBounds_toArray, List.set_cons_zero, List.set_cons_succ]
        refine wpAnyH_take (i := 9) (oi := _) (v := undef) rfl (by kernel_rfl) (by kernel_rfl) (by kernel_rfl) (fun _ _ _ h => h) (Or.inr ⟨by kernel_rfl, rfl⟩) hHeld ?_
        try simp only [Act.put, List.getElem_toArray, List.getElem_cons_succ, List.getElem_cons_zero, List.setIfInBounds_toArray, List.set_cons_zero, List.set_cons_succ]
        refine wpAnyH_take (i := 10) (oi := _) (v := undef) rfl (by kernel_rfl) (by kernel_rfl) (by kernel_rfl) (fun _ _ _ h => h) (Or.inr ⟨by kernel_rfl, rfl⟩) hHeld ?_
        try simp only [Act.put, List.getElem_toArray, List.getElem_cons_succ, List.getElem_cons_zero, List.setIfInBounds_toArray, List.set_cons_zero, List.set_cons_succ]
        refine wpAnyH_take (i := 11) (oi := _) (v := undef) rfl (by kernel_rfl) (by kernel_rfl) (by kernel_rfl) (fun _ _ _ h => h) (Or.inr ⟨by kernel_rfl, rfl⟩) hHeld ?_
        try simp only [Act.put, List.getElem_toArray, List.getElem_cons_succ, List.getElem_cons_zero, List.setIfInBounds_toArray, List.set_cons_zero, List.set_cons_succ]
        refine wpAnyH_take (i := 12) (oi := _) (v := undef) rfl (by kernel_rfl) (by kernel_rfl) (by kernel_rfl) (fun _ _ _ h => h) (Or.inr ⟨by kernel_rfl, rfl⟩) hHeld ?_
        try simp only [Act.put, List.getElem_toArray, List.getElem_cons_succ, List.getElem_cons_zero, List.setIfInBounds_toArray, List.set_cons_zero, List.set_cons_succ]
        refine wpAnyH_take (i := 13) (oi := _) (v := undef) rfl (by kernel_rfl) (by kernel_rfl) (by kernel_rfl) (fun _ _ _ h => h) (Or.inr ⟨by kernel_rfl, rfl⟩) hHeld ?_
        try simp only [Act.put, List.getElem_toArray, List.getElem_cons_succ, List.getElem_cons_zero, List.setIfInBounds_toArray, List.set_cons_zero, List.set_cons_succ]
        refine wpAnyH_take (i := 14) (oi := _) (v := undef) rfl (by kernel_rfl) (by kernel_rfl) (by kernel_rfl) (fun _ _ _ h => h) (Or.inr ⟨by kernel_rfl, rfl⟩) hHeld ?_
        try simp only [Act.put, List.getElem_toArray, List.getElem_cons_succ, List.getElem_cons_zero, List.setIfInBounds_toArray, List.set_cons_zero, List.set_cons_succ]
        refine wpAnyH_take (i := 15) (oi := _) (v := undef) rfl (by kernel_rfl) (by kernel_rfl) (by kernel_rfl) (fun _ _ _ h => h) (Or.inr ⟨by kernel_rfl, rfl⟩) hHeld ?_
        try simp only [Act.put, List.getElem_toArray, List.getElem_cons_succ, List.getElem_cons_zero, List.setIfInBounds_toArray, List.set_cons_zero, List.set_cons_succ]
        refine wpAnyH_take (i := 16) (oi := _) (v := .bool true) rfl (by kernel_rfl) (by kernel_rfl) (by kernel_rfl) (fun _ _ _ h => h) (Or.inl ⟨by kernel_rfl, fun w hSw => ?_⟩) hHeld ?_
        · (try dsimp only at hSw); go_simp
        try simp only [Act.put, List.getElem_toArray, List.getElem_cons_succ, List.getElem_cons_zero, List.setIfInBounds_toArray, List.set_cons_zero, List.set_cons_succ]
        refine wpAnyH_take (i := 17) (oi := _) (v := .bool true) rfl (by kernel_rfl) (by kernel_rfl) (by kernel_rfl) (fun _ _ _ h => h) (Or.inl ⟨by kernel_rfl, fun w hSw => ?_⟩) hHeld ?_
        · (try dsimp only at hSw); go_simp
        try simp only [Act.put, List.getElem_toArray, List.getElem_cons_succ, List.getElem_cons_zero, List.setIfInBounds_toArray, List.set_cons_zero, List.set_cons_succ]
        refine wpAnyH_done (by kernel_rfl) ?_ _
        have HJ2 : Hid (judgeU ks p = (13, (i : Int))) := by
          refine HJ.out.trans (Hfs.out.trans ?_)
          have hc : codeU p (ks.getD i KnownD.none) = 13 := by
            rw [Hq.out]
            unfold codeU nameB; rw [if_neg (by simp [Hnm.out]; have := Hs.out; omega), if_pos (by rw [Ha1.out]; rfl)]
          rw [firstU_at (by rw [Hm.out]; exact hlt) (by rw [hc]; decide), hc]
        go_wp2_with fail
        (try go_split_ands)
        go_ret
        refine ⟨_, rfl, ?_, ?_⟩
        · rw [HJ2.out]
          exact .at _ 0 _ _ (by simp [go_sem]) (by simp [go_sem]) (by simp)
        · have hN := hup _ (by assumption)
          exact (HB0.out.trans (hN.mono HB0.out.size)).alloc (Nat.le_trans HB0.out.size hN.size) _
      cases a2
      case' true =>
        go_wp2_with fail
        refine wp_region_held_drew (S := (fun w' => Below wA.heap.size wA w' ∧ w'.cell? ⟨w5.heap.size, 0, none⟩ = some (.string kp.name) ∧ w'.cell? ⟨w5.heap.size, 1, none⟩ = some (.int .i64 kp.ep) ∧ w'.cell? ⟨w5.heap.size, 2, none⟩ = some (.string kp.up) ∧ w'.cell? ⟨w5.heap.size, 3, none⟩ = some (.string kp.rv) ∧ w'.cell? ⟨w5.heap.size, 4, none⟩ = some (.slice f9 n9 q9) ∧ w'.cell? ⟨w.heap.size, 0, none⟩ = some (.string p.name) ∧ w'.cell? ⟨w.heap.size, 1, none⟩ = some (.int .i64 p.ep) ∧ w'.cell? ⟨w.heap.size, 2, none⟩ = some (.string p.up) ∧ w'.cell? ⟨w.heap.size, 3, none⟩ = some (.string p.rv) ∧ w'.cell? ⟨w.heap.size, 4, none⟩ = some (dv) ∧ w'.cell? ⟨w.heap.size, 5, none⟩ = some (av) ∧ w'.cell? ⟨w.heap.size, 6, none⟩ = some (gv) ∧ w'.cell? ⟨w.heap.size, 7, none⟩ = some (bv) ∧ w'.cell? ⟨w.heap.size, 8, none⟩ = some (rv) ∧ w'.cell? ⟨w.heap.size, 9, none⟩ = some (.slice p9 m9 c9) ∧ w'.cell? ⟨w.heap.size, 10, none⟩ = some (sv) ∧ w'.cell? ⟨w.heap.size, 11, none⟩ = some (lv) ∧ w'.cell? ⟨w.heap.size, 12, none⟩ = some (.slice pa pn pc) ∧ w'.cell? ⟨wr.heap.size, 0, none⟩ = some (.int .i64 s) ∧ w'.cell? ⟨wr.heap.size, 7, none⟩ = some (.string kp.name) ∧ w'.cell? ⟨wr.heap.size, 13, none⟩ = some (.slice f6 n6 q6) ∧ w'.cell? ⟨wr.heap.size, 14, none⟩ = some (.slice f7 n7 q7))) (by kernel_rfl) ?_ (fun hHeld => ?_)
        · exact HS0.out
        refine wpAnyH_take (i := 0) (oi := _) (v := .agg #[.string kp.name, .int .i64 kp.ep, .string kp.up, .string kp.rv, .slice f9 n9 q9]) rfl (by kernel_rfl) (by kernel_rfl) (by kernel_rfl) (fun _ _ _ h => h) (Or.inl ⟨by kernel_rfl, fun w hSw => ?_⟩) hHeld ?_
        · (try dsimp only at hSw); go_simp
        try simp only [Act.put, List.getElem_toArray, List.getElem_cons_succ, List.getElem_cons_zero, List.setIfInBounds_toArray, List.set_cons_zero, List.set_cons_succ]
        refine wpAnyH_take (i := 1) (oi := _) (v := .pointer (some ⟨w.heap.size, 6, none⟩)) rfl (by kernel_rfl) (by kernel_rfl) (by kernel_rfl) (fun _ _ _ h => h) (Or.inl ⟨by kernel_rfl, fun w hSw => ?_⟩) hHeld ?_
        · (try dsimp only at hSw); go_simp
        try simp only [Act.put, List.getElem_toArray, List.getElem_cons_succ, List.getElem_cons_zero, List.setIfInBounds_toArray, List.set_cons_zero, List.set_cons_succ]
        refine wpAnyH_take (i := 2) (oi := _) (v := gv) rfl (by kernel_rfl) (by kernel_rfl) (by kernel_rfl) (fun _ _ _ h => h) (Or.inl ⟨by kernel_rfl, fun w hSw => ?_⟩) hHeld ?_
        · (try dsimp only at hSw); go_simp
        try simp only [Act.put, List.getElem_toArray, List.getElem_cons_succ, List.getElem_cons_zero, List.setIfInBounds_toArray, List.set_cons_zero, List.set_cons_succ]
        refine wpAnyH_take (i := 3) (oi := _) (v := .pointer (some ⟨w.heap.size, 0, none⟩)) rfl (by kernel_rfl) (by kernel_rfl) (by kernel_rfl) (fun _ _ _ h => h) (Or.inl ⟨by kernel_rfl, fun w hSw => ?_⟩) hHeld ?_
        · (try dsimp only at hSw); go_simp
        try simp only [Act.put, List.getElem_toArray, List.getElem_cons_succ, List.getElem_cons_zero, List.setIfInBounds_toArray, List.set_cons_zero, List.set_cons_succ]
        refine wpAnyH_take (i := 4) (oi := _) (v := .string p.name) rfl (by kernel_rfl) (by kernel_rfl) (by kernel_rfl) (fun _ _ _ h => h) (Or.inl ⟨by kernel_rfl, fun w hSw => ?_⟩) hHeld ?_
        · (try dsimp only at hSw); go_simp
        try simp only [Act.put, List.getElem_toArray, List.getElem_cons_succ, List.getElem_cons_zero, List.setIfInBounds_toArray, List.set_cons_zero, List.set_cons_succ]
        refine wpAnyH_ready (rs := [5]) (by kernel_rfl) (by simp) ?_
        refine AllReadyH.cons (o := _) rfl (fun K hK => ?_) AllReadyH.nil
        go_simp
        go_at_call 30
        refine (M1.out _ hHeld.1).mono ?_
        rintro e w' ⟨rfl, hb⟩
        refine hK.out _ _ (held_next HH.out hHeld.1 hb) (fun hHeld2 => ?_)
        clear hK K hb hHeld
        have hHeld := hHeld2
        clear hHeld2
        try simp only [Act.put, List.getElem_toArray, List.getElem_cons_succ, List.getElem_cons_zero, List.setIfInBounds_toArray, List.set_cons_zero, List.set_cons_succ]
        refine wpAnyH_take (i := 6) (oi := _) (v := .bool false) rfl (by kernel_rfl) (by kernel_rfl) (by kernel_rfl) (fun _ _ _ h => h) (Or.inl ⟨by kernel_rfl, fun w hSw => ?_⟩) hHeld ?_
        · (try dsimp only at hSw); go_simp
        try simp only [Act.put, List.getElem_toArray, List.getElem_cons_succ, List.getElem_cons_zero, List.setIfInBounds_toArray, List.set_cons_zero, List.set_cons_succ]
        refine wpAnyH_take (i := 7) (oi := _) (v := .agg #[.string p.name, .int .i64 p.ep, .string p.up, .string p.rv, dv, av, gv, bv, rv, .slice p9 m9 c9, sv, lv, .slice pa pn pc]) rfl (by kernel_rfl) (by kernel_rfl) (by kernel_rfl) (fun _ _ _ h => h) (Or.inl ⟨by kernel_rfl, fun w hSw => ?_⟩) hHeld ?_
        · (try dsimp only at hSw); go_simp
        try simp only [Act.put, List.getElem_toArray, List.getElem_cons_succ, List.getElem_cons_zero, List.setIfInBounds_toArray, List.set_cons_zero, List.set_cons_succ]
        refine wpAnyH_take (i := 9) (oi := _) (v := .pointer (some ⟨wr.heap.size, 7, none⟩)) rfl (by kernel_rfl) (by kernel_rfl) (by kernel_rfl) (fun _ _ _ h => h) (Or.inl ⟨by kernel_rfl, fun w hSw => ?_⟩) hHeld ?_
        · (try dsimp only at hSw); go_simp
        try simp only [Act.put, List.getElem_toArray, List.getElem_cons_succ, List.getElem_cons_zero, List.setIfInBounds_toArray, List.set_cons_zero, List.set_cons_succ]
        refine wpAnyH_take (i := 10) (oi := _) (v := .pointer (some ⟨wr.heap.size, 13, none⟩)) rfl (by kernel_rfl) (by kernel_rfl) (by kernel_rfl) (fun _ _ _ h => h) (Or.inl ⟨by kernel_rfl, fun w hSw => ?_⟩) hHeld ?_
        · (try dsimp only at hSw); go_simp
        try simp only [Act.put, List.getElem_toArray, List.getElem_cons_succ, List.getElem_cons_zero, List.setIfInBounds_toArray, List.set_cons_zero, List.set_cons_succ]
        refine wpAnyH_take (i := 11) (oi := _) (v := .slice f6 n6 q6) rfl (by kernel_rfl) (by kernel_rfl) (by kernel_rfl) (fun _ _ _ h => h) (Or.inl ⟨by kernel_rfl, fun w hSw => ?_⟩) hHeld ?_
        · (try dsimp only at hSw); go_simp
        try simp only [Act.put, List.getElem_toArray, List.getElem_cons_succ, List.getElem_cons_zero, List.setIfInBounds_toArray, List.set_cons_zero, List.set_cons_succ]
        refine wpAnyH_take (i := 12) (oi := _) (v := .pointer (some ⟨wr.heap.size, 7, none⟩)) rfl (by kernel_rfl) (by kernel_rfl) (by kernel_rfl) (fun _ _ _ h => h) (Or.inl ⟨by kernel_rfl, fun w hSw => ?_⟩) hHeld ?_
        · (try dsimp only at hSw); go_simp
        try simp only [Act.put, List.getElem_toArray, List.getElem_cons_succ, List.getElem_cons_zero, List.setIfInBounds_toArray, List.set_cons_zero, List.set_cons_succ]
        refine wpAnyH_take (i := 13) (oi := _) (v := .pointer (some ⟨wr.heap.size, 7, none⟩)) rfl (by kernel_rfl) (by kernel_rfl) (by kernel_rfl) (fun _ _ _ h => h) (Or.inl ⟨by kernel_rfl, fun w hSw => ?_⟩) hHeld ?_
        · (try dsimp only at hSw); go_simp
        try simp only [Act.put, List.getElem_toArray, List.getElem_cons_succ, List.getElem_cons_zero, List.setIfInBounds_toArray, List.set_cons_zero, List.set_cons_succ]
        refine wpAnyH_take (i := 14) (oi := _) (v := .string kp.name) rfl (by kernel_rfl) (by kernel_rfl) (by kernel_rfl) (fun _ _ _ h => h) (Or.inl ⟨by kernel_rfl, fun w hSw => ?_⟩) hHeld ?_
        · (try dsimp only at hSw); go_simp
        try simp only [Act.put, List.getElem_toArray, List.getElem_cons_succ, List.getElem_cons_zero, List.setIfInBounds_toArray, List.set_cons_zero, List.set_cons_succ]
        refine wpAnyH_ready (rs := [8]) (by kernel_rfl) (by simp) ?_
        refine AllReadyH.cons (o := _) rfl (fun K hK => ?_) AllReadyH.nil
        go_simp
        go_at_call 29
        refine (OFP.out _ hHeld.1).mono ?_
        rintro e w' ⟨rfl, hb⟩
        refine hK.out _ _ (held_next HH.out hHeld.1 hb) (fun hHeld2 => ?_)
        clear hK K hb hHeld
        have hHeld := hHeld2
        clear hHeld2
        try simp only [Act.put, List.getElem_toArray, List.getElem_cons_succ, List.getElem_cons_zero, List.setIfInBounds_toArray, List.set_cons_zero, List.set_cons_succ]
        refine wpAnyH_ready (rs := [15]) (by kernel_rfl) (by simp) ?_
        refine AllReadyH.cons (o := _) rfl (fun K hK => ?_) AllReadyH.nil
        go_simp
        go_at_call 30
        refine (M2.out _ hHeld.1).mono ?_
        rintro e w' ⟨rfl, hb⟩
        refine hK.out _ _ (held_next HH.out hHeld.1 hb) (fun hHeld2 => ?_)
        clear hK K hb hHeld
        have hHeld := hHeld2
        clear hHeld2
        try simp only [Act.put, List.getElem_toArray, List.getElem_cons_succ, List.getElem_cons_zero, List.setIfInBounds_toArray, List.set_cons_zero, List.set_cons_succ]
        refine wpAnyH_take (i := 16) (oi := _) (v := .bool true) rfl (by kernel_rfl) (by kernel_rfl) (by kernel_rfl) (fun _ _ _ h => h) (Or.inl ⟨by kernel_rfl, fun w hSw => ?_⟩) hHeld ?_
        · (try dsimp only at hSw); go_simp
        try simp only [Act.put, List.getElem_toArray, List.getElem_cons_succ, List.getElem_cons_zero, List.setIfInBounds_toArray, List.set_cons_zero, List.set_cons_succ]
        refine wpAnyH_take (i := 17) (oi := _) (v := .bool true) rfl (by kernel_rfl) (by kernel_rfl) (by kernel_rfl) (fun _ _ _ h => h) (Or.inl ⟨by kernel_rfl, fun w hSw => ?_⟩) hHeld ?_
        · (try dsimp only at hSw); go_simp
        try simp only [Act.put, List.getElem_toArray, List.getElem_cons_succ, List.getElem_cons_zero, List.setIfInBounds_toArray, List.set_cons_zero, List.set_cons_succ]
        refine wpAnyH_done (by kernel_rfl) ?_ _
        have HJ2 : Hid (judgeU ks p = (13, (i : Int))) := by
          refine HJ.out.trans (Hfs.out.trans ?_)
          have hc : codeU p (ks.getD i KnownD.none) = 13 := by
            rw [Hq.out]
            unfold codeU nameB; rw [if_neg (by simp [Hnm.out]; have := Hs.out; omega), if_pos (by rw [Ha1.out, Ha2.out]; rfl)]
          rw [firstU_at (by rw [Hm.out]; exact hlt) (by rw [hc]; decide), hc]
        go_wp2_with fail
        (try go_split_ands)
        go_ret
        refine ⟨_, rfl, ?_, ?_⟩
        · rw [HJ2.out]
          exact .at _ 0 _ _ (by simp [go_sem]) (by simp [go_sem]) (by simp)
        · have hN := hup _ (by assumption)
          exact (HB0.out.trans (hN.mono HB0.out.size)).alloc (Nat.le_trans HB0.out.size hN.size) _
      go_wp2_with fail
      refine wp_region_held_drew (S := (fun w' => Below wA.heap.size wA w' ∧ w'.cell? ⟨w5.heap.size, 0, none⟩ = some (.string kp.name) ∧ w'.cell? ⟨w5.heap.size, 1, none⟩ = some (.int .i64 kp.ep) ∧ w'.cell? ⟨w5.heap.size, 2, none⟩ = some (.string kp.up) ∧ w'.cell? ⟨w5.heap.size, 3, none⟩ = some (.string kp.rv) ∧ w'.cell? ⟨w5.heap.size, 4, none⟩ = some (.slice f9 n9 q9) ∧ w'.cell? ⟨w.heap.size, 0, none⟩ = some (.string p.name) ∧ w'.cell? ⟨w.heap.size, 1, none⟩ = some (.int .i64 p.ep) ∧ w'.cell? ⟨w.heap.size, 2, none⟩ = some (.string p.up) ∧ w'.cell? ⟨w.heap.size, 3, none⟩ = some (.string p.rv) ∧ w'.cell? ⟨w.heap.size, 4, none⟩ = some (dv) ∧ w'.cell? ⟨w.heap.size, 5, none⟩ = some (av) ∧ w'.cell? ⟨w.heap.size, 6, none⟩ = some (gv) ∧ w'.cell? ⟨w.heap.size, 7, none⟩ = some (bv) ∧ w'.cell? ⟨w.heap.size, 8, none⟩ = some (rv) ∧ w'.cell? ⟨w.heap.size, 9, none⟩ = some (.slice p9 m9 c9) ∧ w'.cell? ⟨w.heap.size, 10, none⟩ = some (sv) ∧ w'.cell? ⟨w.heap.size, 11, none⟩ = some (lv) ∧ w'.cell? ⟨w.heap.size, 12, none⟩ = some (.slice pa pn pc) ∧ w'.cell? ⟨wr.heap.size, 0, none⟩ = some (.int .i64 s) ∧ w'.cell? ⟨wr.heap.size, 7, none⟩ = some (.string kp.name) ∧ w'.cell? ⟨wr.heap.size, 13, none⟩ = some (.slice f6 n6 q6) ∧ w'.cell? ⟨wr.heap.size, 14, none⟩ = some (.slice f7 n7 q7))) (by kernel_rfl) ?_ (fun hHeld => ?_)
      · exact HS0.out
      refine wpAnyH_take (i := 0) (oi := _) (v := .agg #[.string kp.name, .int .i64 kp.ep, .string kp.up, .string kp.rv, .slice f9 n9 q9]) rfl (by kernel_rfl) (by kernel_rfl) (by kernel_rfl) (fun _ _ _ h => h) (Or.inl ⟨by kernel_rfl, fun w hSw => ?_⟩) hHeld ?_
      · (try dsimp only at hSw); go_simp
      try simp only [Act.put, List.getElem_toArray, List.getElem_cons_succ, List.getElem_cons_zero, List.setIfInBounds_toArray, List.set_cons_zero, List.set_cons_succ]
      refine wpAnyH_take (i := 1) (oi := _) (v := .pointer (some ⟨w.heap.size, 6, none⟩)) rfl (by kernel_rfl) (by kernel_rfl) (by kernel_rfl) (fun _ _ _ h => h) (Or.inl ⟨by kernel_rfl, fun w hSw => ?_⟩) hHeld ?_
      · (try dsimp only at hSw); go_simp
      try simp only [Act.put, List.getElem_toArray, List.getElem_cons_succ, List.getElem_cons_zero, List.setIfInBounds_toArray, List.set_cons_zero, List.set_cons_succ]
      refine wpAnyH_take (i := 2) (oi := _) (v := gv) rfl (by kernel_rfl) (by kernel_rfl) (by kernel_rfl) (fun _ _ _ h => h) (Or.inl ⟨by kernel_rfl, fun w hSw => ?_⟩) hHeld ?_
      · (try dsimp only at hSw); go_simp
      try simp only [Act.put, List.getElem_toArray, List.getElem_cons_succ, List.getElem_cons_zero, List.setIfInBounds_toArray, List.set_cons_zero, List.set_cons_succ]
      refine wpAnyH_take (i := 3) (oi := _) (v := .pointer (some ⟨w.heap.size, 0, none⟩)) rfl (by kernel_rfl) (by kernel_rfl) (by kernel_rfl) (fun _ _ _ h => h) (Or.inl ⟨by kernel_rfl, fun w hSw => ?_⟩) hHeld ?_
      · (try dsimp only at hSw); go_simp
      try simp only [Act.put, List.getElem_toArray, List.getElem_cons_succ, List.getElem_cons_zero, List.setIfInBounds_toArray, List.set_cons_zero, List.set_cons_succ]
      refine wpAnyH_take (i := 4) (oi := _) (v := .string p.name) rfl (by kernel_rfl) (by kernel_rfl) (by kernel_rfl) (fun _ _ _ h => h) (Or.inl ⟨by kernel_rfl, fun w hSw => ?_⟩) hHeld ?_
      · (try dsimp only at hSw); go_simp
      try simp only [Act.put, List.getElem_toArray, List.getElem_cons_succ, List.getElem_cons_zero, List.setIfInBounds_toArray, List.set_cons_zero, List.set_cons_succ]
      refine wpAnyH_ready (rs := [5]) (by kernel_rfl) (by simp) ?_
      refine AllReadyH.cons (o := _) rfl (fun K hK => ?_) AllReadyH.nil
      go_simp
      go_at_call 30
      refine (M1.out _ hHeld.1).mono ?_
      rintro e w' ⟨rfl, hb⟩
      refine hK.out _ _ (held_next HH.out hHeld.1 hb) (fun hHeld2 => ?_)
      clear hK K hb hHeld
      have hHeld := hHeld2
      clear hHeld2
      try simp only [Act.put, List.getElem_toArray, List.getElem_cons_succ, List.getElem_cons_zero, List.setIfInBounds_toArray, List.set_cons_zero, List.set_cons_succ]
      refine wpAnyH_take (i := 6) (oi := _) (v := .bool false) rfl (by kernel_rfl) (by kernel_rfl) (by kernel_rfl) (fun _ _ _ h => h) (Or.inl ⟨by kernel_rfl, fun w hSw => ?_⟩) hHeld ?_
      · (try dsimp only at hSw); go_simp
      try simp only [Act.put, List.getElem_toArray, List.getElem_cons_succ, List.getElem_cons_zero, List.setIfInBounds_toArray, List.set_cons_zero, List.set_cons_succ]
      refine wpAnyH_take (i := 7) (oi := _) (v := .agg #[.string p.name, .int .i64 p.ep, .string p.up, .string p.rv, dv, av, gv, bv, rv, .slice p9 m9 c9, sv, lv, .slice pa pn pc]) rfl (by kernel_rfl) (by kernel_rfl) (by kernel_rfl) (fun _ _ _ h => h) (Or.inl ⟨by kernel_rfl, fun w hSw => ?_⟩) hHeld ?_
      · (try dsimp only at hSw); go_simp
      try simp only [Act.put, List.getElem_toArray, List.getElem_cons_succ, List.getElem_cons_zero, List.setIfInBounds_toArray, List.set_cons_zero, List.set_cons_succ]
      refine wpAnyH_take (i := 9) (oi := _) (v := .pointer (some ⟨wr.heap.size, 7, none⟩)) rfl (by kernel_rfl) (by kernel_rfl) (by kernel_rfl) (fun _ _ _ h => h) (Or.inl ⟨by kernel_rfl, fun w hSw => ?_⟩) hHeld ?_
      · (try dsimp only at hSw); go_simp
      try simp only [Act.put, List.getElem_toArray, List.getElem_cons_succ, List.getElem_cons_zero, List.setIfInBounds_toArray, List.set_cons_zero, List.set_cons_succ]
      refine wpAnyH_take (i := 10) (oi := _) (v := .pointer (some ⟨wr.heap.size, 13, none⟩)) rfl (by kernel_rfl) (by kernel_rfl) (by kernel_rfl) (fun _ _ _ h => h) (Or.inl ⟨by kernel_rfl, fun w hSw => ?_⟩) hHeld ?_
      · (try dsimp only at hSw); go_simp
      try simp only [Act.put, List.getElem_toArray, List.getElem_cons_succ, List.getElem_cons_zero, List.setIfInBounds_toArray, List.set_cons_zero, List.set_cons_succ]
      refine wpAnyH_take (i := 11) (oi := _) (v := .slice f6 n6 q6) rfl (by kernel_rfl) (by kernel_rfl) (by kernel_rfl) (fun _ _ _ h => h) (Or.inl ⟨by kernel_rfl, fun w hSw => ?_⟩) hHeld ?_
      · (try dsimp only at hSw); go_simp
      try simp only [Act.put, List.getElem_toArray, List.getElem_cons_succ, List.getElem_cons_zero, List.setIfInBounds_toArray, List.set_cons_zero, List.set_cons_succ]
      refine wpAnyH_take (i := 12) (oi := _) (v := .pointer (some ⟨wr.heap.size, 7, none⟩)) rfl (by kernel_rfl) (by kernel_rfl) (by kernel_rfl) (fun _ _ _ h => h) (Or.inl ⟨by kernel_rfl, fun w hSw => ?_⟩) hHeld ?_
      · (try dsimp only at hSw); go_simp
      try simp only [Act.put, List.getElem_toArray, List.getElem_cons_succ, List.getElem_cons_zero, List.setIfInBounds_toArray, List.set_cons_zero, List.set_cons_succ]
      refine wpAnyH_take (i := 13) (oi := _) (v := .pointer (some ⟨wr.heap.size, 7, none⟩)) rfl (by kernel_rfl) (by kernel_rfl) (by kernel_rfl) (fun _ _ _ h => h) (Or.inl ⟨by kernel_rfl, fun w hSw => ?_⟩) hHeld ?_
      · (try dsimp only at hSw); go_simp
      try simp only [Act.put, List.getElem_toArray, List.getElem_cons_succ, List.getElem_cons_zero, List.setIfInBounds_toArray, List.set_cons_zero, List.set_cons_succ]
      refine wpAnyH_take (i := 14) (oi := _) (v := .string kp.name) rfl (by kernel_rfl) (by kernel_rfl) (by kernel_rfl) (fun _ _ _ h => h) (Or.inl ⟨by kernel_rfl, fun w hSw => ?_⟩) hHeld ?_
      · (try dsimp only at hSw); go_simp
      try simp only [Act.put, List.getElem_toArray, List.getElem_cons_succ, List.getElem_cons_zero, List.setIfInBounds_toArray, List.set_cons_zero, List.set_cons_succ]
      refine wpAnyH_ready (rs := [8]) (by kernel_rfl) (by simp) ?_
      refine AllReadyH.cons (o := _) rfl (fun K hK => ?_) AllReadyH.nil
      go_simp
      go_at_call 29
      refine (OFP.out _ hHeld.1).mono ?_
      rintro e w' ⟨rfl, hb⟩
      refine hK.out _ _ (held_next HH.out hHeld.1 hb) (fun hHeld2 => ?_)
      clear hK K hb hHeld
      have hHeld := hHeld2
      clear hHeld2
      try simp only [Act.put, List.getElem_toArray, List.getElem_cons_succ, List.getElem_cons_zero, List.setIfInBounds_toArray, List.set_cons_zero, List.set_cons_succ]
      refine wpAnyH_ready (rs := [15]) (by kernel_rfl) (by simp) ?_
      refine AllReadyH.cons (o := _) rfl (fun K hK => ?_) AllReadyH.nil
      go_simp
      go_at_call 30
      refine (M2.out _ hHeld.1).mono ?_
      rintro e w' ⟨rfl, hb⟩
      refine hK.out _ _ (held_next HH.out hHeld.1 hb) (fun hHeld2 => ?_)
      clear hK K hb hHeld
      have hHeld := hHeld2
      clear hHeld2
      try simp only [Act.put, List.getElem_toArray, List.getElem_cons_succ, List.getElem_cons_zero, List.setIfInBounds_toArray, List.set_cons_zero, List.set_cons_succ]
      refine wpAnyH_take (i := 16) (oi := _) (v := .bool false) rfl (by kernel_rfl) (by kernel_rfl) (by kernel_rfl) (fun _ _ _ h => h) (Or.inl ⟨by kernel_rfl, fun w hSw => ?_⟩) hHeld ?_
      · (try dsimp only at hSw); go_simp
      try simp only [Act.put, List.getElem_toArray, List.getElem_cons_succ, List.getElem_cons_zero, List.setIfInBounds_toArray, List.set_cons_zero, List.set_cons_succ]
      refine wpAnyH_take (i := 17) (oi := _) (v := .bool false) rfl (by kernel_rfl) (by kernel_rfl) (by kernel_rfl) (fun _ _ _ h => h) (Or.inl ⟨by kernel_rfl, fun w hSw => ?_⟩) hHeld ?_
      · (try dsimp only at hSw); go_simp
      try simp only [Act.put, List.getElem_toArray, List.getElem_cons_succ, List.getElem_cons_zero, List.setIfInBounds_toArray, List.set_cons_zero, List.set_cons_succ]
      refine wpAnyH_done (by kernel_rfl) ?_ _
      cases hwk : worksV s
      case' false =>
        have WK : Hid (∀ w', Below wA.heap.size wA w' → Calls Tryz.prog 26 #[.int .i64 s] w' fun e w'' => e = .returned (.bool false) ∧ Below w'.heap.size w' w'') := fun w' _ => (works_calls s w').mono (by rintro e w'' ⟨rfl, rfl⟩; exact ⟨by rw [hwk], Below.refl _ _⟩)
        have Hwk := Lib.hid hwk
        clear hwk
        have HC : Hid (firstU p ks 0 = firstU p (ks.drop (i + 1)) ((i + 1 : Nat) : Int)) := by
          refine Hfs.out.trans (firstU_step (by rw [Hm.out]; exact hlt) ?_)
          rw [Hq.out]
          unfold codeU nameB; rw [if_neg (by simp [Hnm.out]; have := Hs.out; omega), if_neg (by rw [Ha1.out, Ha2.out]; decide), if_neg (by rw [Hwk.out]; simp)]
        go_wp2_with fail
        refine wp_region_held_drew (S := (fun w' => Below wA.heap.size wA w' ∧ w'.cell? ⟨w5.heap.size, 0, none⟩ = some (.string kp.name) ∧ w'.cell? ⟨w5.heap.size, 1, none⟩ = some (.int .i64 kp.ep) ∧ w'.cell? ⟨w5.heap.size, 2, none⟩ = some (.string kp.up) ∧ w'.cell? ⟨w5.heap.size, 3, none⟩ = some (.string kp.rv) ∧ w'.cell? ⟨w5.heap.size, 4, none⟩ = some (.slice f9 n9 q9) ∧ w'.cell? ⟨w.heap.size, 0, none⟩ = some (.string p.name) ∧ w'.cell? ⟨w.heap.size, 1, none⟩ = some (.int .i64 p.ep) ∧ w'.cell? ⟨w.heap.size, 2, none⟩ = some (.string p.up) ∧ w'.cell? ⟨w.heap.size, 3, none⟩ = some (.string p.rv) ∧ w'.cell? ⟨w.heap.size, 4, none⟩ = some (dv) ∧ w'.cell? ⟨w.heap.size, 5, none⟩ = some (av) ∧ w'.cell? ⟨w.heap.size, 6, none⟩ = some (gv) ∧ w'.cell? ⟨w.heap.size, 7, none⟩ = some (bv) ∧ w'.cell? ⟨w.heap.size, 8, none⟩ = some (rv) ∧ w'.cell? ⟨w.heap.size, 9, none⟩ = some (.slice p9 m9 c9) ∧ w'.cell? ⟨w.heap.size, 10, none⟩ = some (sv) ∧ w'.cell? ⟨w.heap.size, 11, none⟩ = some (lv) ∧ w'.cell? ⟨w.heap.size, 12, none⟩ = some (.slice pa pn pc) ∧ w'.cell? ⟨wr.heap.size, 0, none⟩ = some (.int .i64 s) ∧ w'.cell? ⟨wr.heap.size, 7, none⟩ = some (.string kp.name) ∧ w'.cell? ⟨wr.heap.size, 13, none⟩ = some (.slice f6 n6 q6) ∧ w'.cell? ⟨wr.heap.size, 14, none⟩ = some (.slice f7 n7 q7))) (by kernel_rfl) ?_ (fun hHeld2 => ?_)
        · exact ⟨hHeld.1.drew, HH.out _ hHeld.1.drew⟩
        clear hHeld
        have hHeld := hHeld2
        clear hHeld2
        refine wpAnyH_take (i := 0) (oi := _) (v := .pointer (some ⟨wr.heap.size, 0, none⟩)) rfl (by kernel_rfl) (by kernel_rfl) (by kernel_rfl) (fun _ _ _ h => h) (Or.inl ⟨by kernel_rfl, fun w hSw => ?_⟩) hHeld ?_
        · (try dsimp only at hSw); go_simp
        try simp only [Act.put, List.getElem_toArray, List.getElem_cons_succ, List.getElem_cons_zero, List.setIfInBounds_toArray, List.set_cons_zero, List.set_cons_succ]
        refine wpAnyH_take (i := 1) (oi := _) (v := .pointer (some ⟨wr.heap.size, 0, none⟩)) rfl (by kernel_rfl) (by kernel_rfl) (by kernel_rfl) (fun _ _ _ h => h) (Or.inl ⟨by kernel_rfl, fun w hSw => ?_⟩) hHeld ?_
        · (try dsimp only at hSw); go_simp
        try simp only [Act.put, List.getElem_toArray, List.getElem_cons_succ, List.getElem_cons_zero, List.setIfInBounds_toArray, List.set_cons_zero, List.set_cons_succ]
        refine wpAnyH_take (i := 2) (oi := _) (v := .int .i64 s) rfl (by kernel_rfl) (by kernel_rfl) (by kernel_rfl) (fun _ _ _ h => h) (Or.inl ⟨by kernel_rfl, fun w hSw => ?_⟩) hHeld ?_
        · (try dsimp only at hSw); go_simp
        try simp only [Act.put, List.getElem_toArray, List.getElem_cons_succ, List.getElem_cons_zero, List.setIfInBounds_toArray, List.set_cons_zero, List.set_cons_succ]
        refine wpAnyH_ready (rs := [3]) (by kernel_rfl) (by simp) ?_
        refine AllReadyH.cons (o := _) rfl (fun K hK => ?_) AllReadyH.nil
        go_simp
        go_at_call 26
        refine (WK.out _ hHeld.1).mono ?_
        rintro e w' ⟨rfl, hb⟩
        refine hK.out _ _ (held_next HH.out hHeld.1 hb) (fun hHeld2 => ?_)
        clear hK K hb hHeld
        have hHeld := hHeld2
        clear hHeld2
        try simp only [Act.put, List.getElem_toArray, List.getElem_cons_succ, List.getElem_cons_zero, List.setIfInBounds_toArray, List.set_cons_zero, List.set_cons_succ]
        refine wpAnyH_take (i := 4) (oi := _) (v := .bool false) rfl (by kernel_rfl) (by kernel_rfl) (by kernel_rfl) (fun _ _ _ h => h) (Or.inl ⟨by kernel_rfl, fun w hSw => ?_⟩) hHeld ?_
        · (try dsimp only at hSw); go_simp
        try simp only [Act.put, List.getElem_toArray, List.getElem_cons_succ, List.getElem_cons_zero, List.setIfInBounds_toArray, List.set_cons_zero, List.set_cons_succ]
        refine wpAnyH_take (i := 5) (oi := _) (v := undef) rfl (by kernel_rfl) (by kernel_rfl) (by kernel_rfl) (fun _ _ _ h => h) (Or.inr ⟨by kernel_rfl, rfl⟩) hHeld ?_
        try simp only [Act.put, List.getElem_toArray, List.getElem_cons_succ, List.getElem_cons_zero, List.setIfInBounds_toArray, List.set_cons_zero, List.set_cons_succ]
        refine wpAnyH_take (i := 6) (oi := _) (v := undef) rfl (by kernel_rfl) (by kernel_rfl) (by kernel_rfl) (fun _ _ _ h => h) (Or.inr ⟨by kernel_rfl, rfl⟩) hHeld ?_
        try simp only [Act.put, List.getElem_toArray, List.getElem_cons_succ, List.getElem_cons_zero, List.setIfInBounds_toArray, List.set_cons_zero, List.set_cons_succ]
        refine wpAnyH_take (i := 7) (oi := _) (v := undef) rfl (by kernel_rfl) (by kernel_rfl) (by kernel_rfl) (fun _ _ _ h => h) (Or.inr ⟨by kernel_rfl, rfl⟩) hHeld ?_
        try simp only [Act.put, List.getElem_toArray, List.getElem_cons_succ, List.getElem_cons_zero, List.setIfInBounds_toArray, List.set_cons_zero, List.set_cons_succ]
        refine wpAnyH_take (i := 8) (oi := _) (v := undef) rfl (by kernel_rfl) (by kernel_rfl) (by kernel_rfl) (fun _ _ _ h => h) (Or.inr ⟨by kernel_rfl, rfl⟩) hHeld ?_
        try simp only [Act.put, List.getElem_toArray, List.getElem_cons_succ, List.getElem_cons_zero, List.setIfInBounds_toArray, List.set_cons_zero, List.set_cons_succ]
        refine wpAnyH_take (i := 9) (oi := _) (v := undef) rfl (by kernel_rfl) (by kernel_rfl) (by kernel_rfl) (fun _ _ _ h => h) (Or.inr ⟨by kernel_rfl, rfl⟩) hHeld ?_
        try simp only [Act.put, List.getElem_toArray, List.getElem_cons_succ, List.getElem_cons_zero, List.setIfInBounds_toArray, List.set_cons_zero, List.set_cons_succ]
        refine wpAnyH_take (i := 10) (oi := _) (v := undef) rfl (by kernel_rfl) (by kernel_rfl) (by kernel_rfl) (fun _ _ _ h => h) (Or.inr ⟨by kernel_rfl, rfl⟩) hHeld ?_
        try simp only [Act.put, List.getElem_toArray, List.getElem_cons_succ, List.getElem_cons_zero, List.setIfInBounds_toArray, List.set_cons_zero, List.set_cons_succ]
        refine wpAnyH_take (i := 11) (oi := _) (v := undef) rfl (by kernel_rfl) (by kernel_rfl) (by kernel_rfl) (fun _ _ _ h => h) (Or.inr ⟨by kernel_rfl, rfl⟩) hHeld ?_
        try simp only [Act.put, List.getElem_toArray, List.getElem_cons_succ, List.getElem_cons_zero, List.setIfInBounds_toArray, List.set_cons_zero, List.set_cons_succ]
        refine wpAnyH_take (i := 12) (oi := _) (v := undef) rfl (by kernel_rfl) (by kernel_rfl) (by kernel_rfl) (fun _ _ _ h => h) (Or.inr ⟨by kernel_rfl, rfl⟩) hHeld ?_
        try simp only [Act.put, List.getElem_toArray, List.getElem_cons_succ, List.getElem_cons_zero, List.setIfInBounds_toArray, List.set_cons_zero, List.set_cons_succ]
        refine wpAnyH_take (i := 13) (oi := _) (v := undef) rfl (by kernel_rfl) (by kernel_rfl) (by kernel_rfl) (fun _ _ _ h => h) (Or.inr ⟨by kernel_rfl, rfl⟩) hHeld ?_
        try simp only [Act.put, List.getElem_toArray, List.getElem_cons_succ, List.getElem_cons_zero, List.setIfInBounds_toArray, List.set_cons_zero, List.set_cons_succ]
        refine wpAnyH_take (i := 14) (oi := _) (v := undef) rfl (by kernel_rfl) (by kernel_rfl) (by kernel_rfl) (fun _ _ _ h => h) (Or.inr ⟨by kernel_rfl, rfl⟩) hHeld ?_
        try simp only [Act.put, List.getElem_toArray, List.getElem_cons_succ, List.getElem_cons_zero, List.setIfInBounds_toArray, List.set_cons_zero, List.set_cons_succ]
        refine wpAnyH_take (i := 15) (oi := _) (v := undef) rfl (by kernel_rfl) (by kernel_rfl) (by kernel_rfl) (fun _ _ _ h => h) (Or.inr ⟨by kernel_rfl, rfl⟩) hHeld ?_
        try simp only [Act.put, List.getElem_toArray, List.getElem_cons_succ, List.getElem_cons_zero, List.setIfInBounds_toArray, List.set_cons_zero, List.set_cons_succ]
        refine wpAnyH_take (i := 16) (oi := _) (v := undef) rfl (by kernel_rfl) (by kernel_rfl) (by kernel_rfl) (fun _ _ _ h => h) (Or.inr ⟨by kernel_rfl, rfl⟩) hHeld ?_
        try simp only [Act.put, List.getElem_toArray, List.getElem_cons_succ, List.getElem_cons_zero, List.setIfInBounds_toArray, List.set_cons_zero, List.set_cons_succ]
        refine wpAnyH_take (i := 17) (oi := _) (v := undef) rfl (by kernel_rfl) (by kernel_rfl) (by kernel_rfl) (fun _ _ _ h => h) (Or.inr ⟨by kernel_rfl, rfl⟩) hHeld ?_
        try simp only [Act.put, List.getElem_toArray, List.getElem_cons_succ, List.getElem_cons_zero, List.setIfInBounds_toArray, List.set_cons_zero, List.set_cons_succ]
        refine wpAnyH_take (i := 18) (oi := _) (v := undef) rfl (by kernel_rfl) (by kernel_rfl) (by kernel_rfl) (fun _ _ _ h => h) (Or.inr ⟨by kernel_rfl, rfl⟩) hHeld ?_
        try simp only [Act.put, List.getElem_toArray, List.getElem_cons_succ, List.getElem_cons_zero, List.setIfInBounds_toArray, List.set_cons_zero, List.set_cons_succ]
        refine wpAnyH_take (i := 19) (oi := _) (v := undef) rfl (by kernel_rfl) (by kernel_rfl) (by kernel_rfl) (fun _ _ _ h => h) (Or.inr ⟨by kernel_rfl, rfl⟩) hHeld ?_
        try simp only [Act.put, List.getElem_toArray, List.getElem_cons_succ, List.getElem_cons_zero, List.setIfInBounds_toArray, List.set_cons_zero, List.set_cons_succ]
        refine wpAnyH_take (i := 20) (oi := _) (v := undef) rfl (by kernel_rfl) (by kernel_rfl) (by kernel_rfl) (fun _ _ _ h => h) (Or.inr ⟨by kernel_rfl, rfl⟩) hHeld ?_
        try simp only [Act.put, List.getElem_toArray, List.getElem_cons_succ, List.getElem_cons_zero, List.setIfInBounds_toArray, List.set_cons_zero, List.set_cons_succ]
        refine wpAnyH_take (i := 21) (oi := _) (v := undef) rfl (by kernel_rfl) (by kernel_rfl) (by kernel_rfl) (fun _ _ _ h => h) (Or.inr ⟨by kernel_rfl, rfl⟩) hHeld ?_
        try simp only [Act.put, List.getElem_toArray, List.getElem_cons_succ, List.getElem_cons_zero, List.setIfInBounds_toArray, List.set_cons_zero, List.set_cons_succ]
        refine wpAnyH_take (i := 22) (oi := _) (v := .bool false) rfl (by kernel_rfl) (by kernel_rfl) (by kernel_rfl) (fun _ _ _ h => h) (Or.inl ⟨by kernel_rfl, fun w hSw => ?_⟩) hHeld ?_
        · (try dsimp only at hSw); go_simp
        try simp only [Act.put, List.getElem_toArray, List.getElem_cons_succ, List.getElem_cons_zero, List.setIfInBounds_toArray, List.set_cons_zero, List.set_cons_succ]
        refine wpAnyH_take (i := 23) (oi := _) (v := .bool false) rfl (by kernel_rfl) (by kernel_rfl) (by kernel_rfl) (fun _ _ _ h => h) (Or.inl ⟨by kernel_rfl, fun w hSw => ?_⟩) hHeld ?_
        · (try dsimp only at hSw); go_simp
        try simp only [Act.put, List.getElem_toArray, List.getElem_cons_succ, List.getElem_cons_zero, List.setIfInBounds_toArray, List.set_cons_zero, List.set_cons_succ]
        refine wpAnyH_done (by kernel_rfl) ?_ _
        go_wp2_with fail
        (try go_split_ands)
        go_roundg (m - (i + 1))
        case rel => exact ⟨i + 1, by go_num, by omega, rfl, HC.out, (hup _ (by assumption))⟩
        case measure => have := Hk.out; omega
      have WK : Hid (∀ w', Below wA.heap.size wA w' → Calls Tryz.prog 26 #[.int .i64 s] w' fun e w'' => e = .returned (.bool true) ∧ Below w'.heap.size w' w'') := fun w' _ => (works_calls s w').mono (by rintro e w'' ⟨rfl, rfl⟩; exact ⟨by rw [hwk], Below.refl _ _⟩)
      have Hwk := Lib.hid hwk
      clear hwk
      cases b1
      case' true =>
        go_wp2_with fail
        refine wp_region_held_drew (S := (fun w' => Below wA.heap.size wA w' ∧ w'.cell? ⟨w5.heap.size, 0, none⟩ = some (.string kp.name) ∧ w'.cell? ⟨w5.heap.size, 1, none⟩ = some (.int .i64 kp.ep) ∧ w'.cell? ⟨w5.heap.size, 2, none⟩ = some (.string kp.up) ∧ w'.cell? ⟨w5.heap.size, 3, none⟩ = some (.string kp.rv) ∧ w'.cell? ⟨w5.heap.size, 4, none⟩ = some (.slice f9 n9 q9) ∧ w'.cell? ⟨w.heap.size, 0, none⟩ = some (.string p.name) ∧ w'.cell? ⟨w.heap.size, 1, none⟩ = some (.int .i64 p.ep) ∧ w'.cell? ⟨w.heap.size, 2, none⟩ = some (.string p.up) ∧ w'.cell? ⟨w.heap.size, 3, none⟩ = some (.string p.rv) ∧ w'.cell? ⟨w.heap.size, 4, none⟩ = some (dv) ∧ w'.cell? ⟨w.heap.size, 5, none⟩ = some (av) ∧ w'.cell? ⟨w.heap.size, 6, none⟩ = some (gv) ∧ w'.cell? ⟨w.heap.size, 7, none⟩ = some (bv) ∧ w'.cell? ⟨w.heap.size, 8, none⟩ = some (rv) ∧ w'.cell? ⟨w.heap.size, 9, none⟩ = some (.slice p9 m9 c9) ∧ w'.cell? ⟨w.heap.size, 10, none⟩ = some (sv) ∧ w'.cell? ⟨w.heap.size, 11, none⟩ = some (lv) ∧ w'.cell? ⟨w.heap.size, 12, none⟩ = some (.slice pa pn pc) ∧ w'.cell? ⟨wr.heap.size, 0, none⟩ = some (.int .i64 s) ∧ w'.cell? ⟨wr.heap.size, 7, none⟩ = some (.string kp.name) ∧ w'.cell? ⟨wr.heap.size, 13, none⟩ = some (.slice f6 n6 q6) ∧ w'.cell? ⟨wr.heap.size, 14, none⟩ = some (.slice f7 n7 q7))) (by kernel_rfl) ?_ (fun hHeld2 => ?_)
        · exact ⟨hHeld.1.drew, HH.out _ hHeld.1.drew⟩
        clear hHeld
        have hHeld := hHeld2
        clear hHeld2
        refine wpAnyH_take (i := 0) (oi := _) (v := .pointer (some ⟨wr.heap.size, 0, none⟩)) rfl (by kernel_rfl) (by kernel_rfl) (by kernel_rfl) (fun _ _ _ h => h) (Or.inl ⟨by kernel_rfl, fun w hSw => ?_⟩) hHeld ?_
        · (try dsimp only at hSw); go_simp
        try simp only [Act.put, List.getElem_toArray, List.getElem_cons_succ, List.getElem_cons_zero, List.setIfInBounds_toArray, List.set_cons_zero, List.set_cons_succ]
        refine wpAnyH_take (i := 1) (oi := _) (v := .pointer (some ⟨wr.heap.size, 0, none⟩)) rfl (by kernel_rfl) (by kernel_rfl) (by kernel_rfl) (fun _ _ _ h => h) (Or.inl ⟨by kernel_rfl, fun w hSw => ?_⟩) hHeld ?_
        · (try dsimp only at hSw); go_simp
        try simp only [Act.put, List.getElem_toArray, List.getElem_cons_succ, List.getElem_cons_zero, List.setIfInBounds_toArray, List.set_cons_zero, List.set_cons_succ]
        refine wpAnyH_take (i := 2) (oi := _) (v := .int .i64 s) rfl (by kernel_rfl) (by kernel_rfl) (by kernel_rfl) (fun _ _ _ h => h) (Or.inl ⟨by kernel_rfl, fun w hSw => ?_⟩) hHeld ?_
        · (try dsimp only at hSw); go_simp
        try simp only [Act.put, List.getElem_toArray, List.getElem_cons_succ, List.getElem_cons_zero, List.setIfInBounds_toArray, List.set_cons_zero, List.set_cons_succ]
        refine wpAnyH_ready (rs := [3]) (by kernel_rfl) (by simp) ?_
        refine AllReadyH.cons (o := _) rfl (fun K hK => ?_) AllReadyH.nil
        go_simp
        go_at_call 26
        refine (WK.out _ hHeld.1).mono ?_
        rintro e w' ⟨rfl, hb⟩
        refine hK.out _ _ (held_next HH.out hHeld.1 hb) (fun hHeld2 => ?_)
        clear hK K hb hHeld
        have hHeld := hHeld2
        clear hHeld2
        try simp only [Act.put, List.getElem_toArray, List.getElem_cons_succ, List.getElem_cons_zero, List.setIfInBounds_toArray, List.set_cons_zero, List.set_cons_succ]
        refine wpAnyH_take (i := 4) (oi := _) (v := .bool true) rfl (by kernel_rfl) (by kernel_rfl) (by kernel_rfl) (fun _ _ _ h => h) (Or.inl ⟨by kernel_rfl, fun w hSw => ?_⟩) hHeld ?_
        · (try dsimp only at hSw); go_simp
        try simp only [Act.put, List.getElem_toArray, List.getElem_cons_succ, List.getElem_cons_zero, List.setIfInBounds_toArray, List.set_cons_zero, List.set_cons_succ]
        refine wpAnyH_take (i := 5) (oi := _) (v := .agg #[.string kp.name, .int .i64 kp.ep, .string kp.up, .string kp.rv, .slice f9 n9 q9]) rfl (by kernel_rfl) (by kernel_rfl) (by kernel_rfl) (fun _ _ _ h => h) (Or.inl ⟨by kernel_rfl, fun w hSw => ?_⟩) hHeld ?_
        · (try dsimp only at hSw); go_simp
        try simp only [Act.put, List.getElem_toArray, List.getElem_cons_succ, List.getElem_cons_zero, List.setIfInBounds_toArray, List.set_cons_zero, List.set_cons_succ]
        refine wpAnyH_take (i := 6) (oi := _) (v := .pointer (some ⟨w.heap.size, 7, none⟩)) rfl (by kernel_rfl) (by kernel_rfl) (by kernel_rfl) (fun _ _ _ h => h) (Or.inl ⟨by kernel_rfl, fun w hSw => ?_⟩) hHeld ?_
        · (try dsimp only at hSw); go_simp
        try simp only [Act.put, List.getElem_toArray, List.getElem_cons_succ, List.getElem_cons_zero, List.setIfInBounds_toArray, List.set_cons_zero, List.set_cons_succ]
        refine wpAnyH_take (i := 7) (oi := _) (v := bv) rfl (by kernel_rfl) (by kernel_rfl) (by kernel_rfl) (fun _ _ _ h => h) (Or.inl ⟨by kernel_rfl, fun w hSw => ?_⟩) hHeld ?_
        · (try dsimp only at hSw); go_simp
        try simp only [Act.put, List.getElem_toArray, List.getElem_cons_succ, List.getElem_cons_zero, List.setIfInBounds_toArray, List.set_cons_zero, List.set_cons_succ]
        refine wpAnyH_take (i := 8) (oi := _) (v := .pointer (some ⟨w.heap.size, 0, none⟩)) rfl (by kernel_rfl) (by kernel_rfl) (by kernel_rfl) (fun _ _ _ h => h) (Or.inl ⟨by kernel_rfl, fun w hSw => ?_⟩) hHeld ?_
        · (try dsimp only at hSw); go_simp
        try simp only [Act.put, List.getElem_toArray, List.getElem_cons_succ, List.getElem_cons_zero, List.setIfInBounds_toArray, List.set_cons_zero, List.set_cons_succ]
        refine wpAnyH_take (i := 9) (oi := _) (v := .string p.name) rfl (by kernel_rfl) (by kernel_rfl) (by kernel_rfl) (fun _ _ _ h => h) (Or.inl ⟨by kernel_rfl, fun w hSw => ?_⟩) hHeld ?_
        · (try dsimp only at hSw); go_simp
        try simp only [Act.put, List.getElem_toArray, List.getElem_cons_succ, List.getElem_cons_zero, List.setIfInBounds_toArray, List.set_cons_zero, List.set_cons_succ]
        refine wpAnyH_ready (rs := [10]) (by kernel_rfl) (by simp) ?_
        refine AllReadyH.cons (o := _) rfl (fun K hK => ?_) AllReadyH.nil
        go_simp
        go_at_call 30
        refine (N1.out _ hHeld.1).mono ?_
        rintro e w' ⟨rfl, hb⟩
        refine hK.out _ _ (held_next HH.out hHeld.1 hb) (fun hHeld2 => ?_)
        clear hK K hb hHeld
        have hHeld := hHeld2
        clear hHeld2
        try simp only [Act.put, List.getElem_toArray, List.getElem_cons_succ, List.getElem_cons_zero, List.setIfInBounds_toArray, List.set_cons_zero, List.set_cons_succ]
        refine wpAnyH_take (i := 11) (oi := _) (v := .bool true) rfl (by kernel_rfl) (by kernel_rfl) (by kernel_rfl) (fun _ _ _ h => h) (Or.inl ⟨by kernel_rfl, fun w hSw => ?_⟩) hHeld ?_
        · (try dsimp only at hSw); go_simp
        try simp only [Act.put, List.getElem_toArray, List.getElem_cons_succ, List.getElem_cons_zero, List.setIfInBounds_toArray, List.set_cons_zero, List.set_cons_succ]
        refine wpAnyH_take (i := 12) (oi := _) (v := undef) rfl (by kernel_rfl) (by kernel_rfl) (by kernel_rfl) (fun _ _ _ h => h) (Or.inr ⟨by kernel_rfl, rfl⟩) hHeld ?_
        try simp only [Act.put, List.getElem_toArray, List.getElem_cons_succ, List.getElem_cons_zero, List.setIfInBounds_toArray, List.set_cons_zero, List.set_cons_succ]
        refine wpAnyH_take (i := 13) (oi := _) (v := undef) rfl (by kernel_rfl) (by kernel_rfl) (by kernel_rfl) (fun _ _ _ h => h) (Or.inr ⟨by kernel_rfl, rfl⟩) hHeld ?_
        try simp only [Act.put, List.getElem_toArray, List.getElem_cons_succ, List.getElem_cons_zero, List.setIfInBounds_toArray, List.set_cons_zero, List.set_cons_succ]
        refine wpAnyH_take (i := 14) (oi := _) (v := undef) rfl (by kernel_rfl) (by kernel_rfl) (by kernel_rfl) (fun _ _ _ h => h) (Or.inr ⟨by kernel_rfl, rfl⟩) hHeld ?_
        try simp only [Act.put, List.getElem_toArray, List.getElem_cons_succ, List.getElem_cons_zero, List.setIfInBounds_toArray, List.set_cons_zero, List.set_cons_succ]
        refine wpAnyH_take (i := 15) (oi := _) (v := undef) rfl (by kernel_rfl) (by kernel_rfl) (by kernel_rfl) (fun _ _ _ h => h) (Or.inr ⟨by kernel_rfl, rfl⟩) hHeld ?_
        try simp only [Act.put, List.getElem_toArray, List.getElem_cons_succ, List.getElem_cons_zero, List.setIfInBounds_toArray, List.set_cons_zero, List.set_cons_succ]
        refine wpAnyH_take (i := 16) (oi := _) (v := undef) rfl (by kernel_rfl) (by kernel_rfl) (by kernel_rfl) (fun _ _ _ h => h) (Or.inr ⟨by kernel_rfl, rfl⟩) hHeld ?_
        try simp only [Act.put, List.getElem_toArray, List.getElem_cons_succ, List.getElem_cons_zero, List.setIfInBounds_toArray, List.set_cons_zero, List.set_cons_succ]
        refine wpAnyH_take (i := 17) (oi := _) (v := undef) rfl (by kernel_rfl) (by kernel_rfl) (by kernel_rfl) (fun _ _ _ h => h) (Or.inr ⟨by kernel_rfl, rfl⟩) hHeld ?_
        try simp only [Act.put, List.getElem_toArray, List.getElem_cons_succ, List.getElem_cons_zero, List.setIfInBounds_toArray, List.set_cons_zero, List.set_cons_succ]
        refine wpAnyH_take (i := 18) (oi := _) (v := undef) rfl (by kernel_rfl) (by kernel_rfl) (by kernel_rfl) (fun _ _ _ h => h) (Or.inr ⟨by kernel_rfl, rfl⟩) hHeld ?_
        try simp only [Act.put, List.getElem_toArray, List.getElem_cons_succ, List.getElem_cons_zero, List.setIfInBounds_toArray, List.set_cons_zero, List.set_cons_succ]
        refine wpAnyH_take (i := 19) (oi := _) (v := undef) rfl (by kernel_rfl) (by kernel_rfl) (by kernel_rfl) (fun _ _ _ h => h) (Or.inr ⟨by kernel_rfl, rfl⟩) hHeld ?_
        try simp only [Act.put, List.getElem_toArray, List.getElem_cons_succ, List.getElem_cons_zero, List.setIfInBounds_toArray, List.set_cons_zero, List.set_cons_succ]
        refine wpAnyH_take (i := 20) (oi := _) (v := undef) rfl (by kernel_rfl) (by kernel_rfl) (by kernel_rfl) (fun _ _ _ h => h) (Or.inr ⟨by kernel_rfl, rfl⟩) hHeld ?_
        try simp only [Act.put, List.getElem_toArray, List.getElem_cons_succ, List.getElem_cons_zero, List.setIfInBounds_toArray, List.set_cons_zero, List.set_cons_succ]
        refine wpAnyH_take (i := 21) (oi := _) (v := .bool true) rfl (by kernel_rfl) (by kernel_rfl) (by kernel_rfl) (fun _ _ _ h => h) (Or.inl ⟨by kernel_rfl, fun w hSw => ?_⟩) hHeld ?_
        · (try dsimp only at hSw); go_simp
        try simp only [Act.put, List.getElem_toArray, List.getElem_cons_succ, List.getElem_cons_zero, List.setIfInBounds_toArray, List.set_cons_zero, List.set_cons_succ]
        refine wpAnyH_take (i := 22) (oi := _) (v := .bool true) rfl (by kernel_rfl) (by kernel_rfl) (by kernel_rfl) (fun _ _ _ h => h) (Or.inl ⟨by kernel_rfl, fun w hSw => ?_⟩) hHeld ?_
        · (try dsimp only at hSw); go_simp
        try simp only [Act.put, List.getElem_toArray, List.getElem_cons_succ, List.getElem_cons_zero, List.setIfInBounds_toArray, List.set_cons_zero, List.set_cons_succ]
        refine wpAnyH_take (i := 23) (oi := _) (v := .bool true) rfl (by kernel_rfl) (by kernel_rfl) (by kernel_rfl) (fun _ _ _ h => h) (Or.inl ⟨by kernel_rfl, fun w hSw => ?_⟩) hHeld ?_
        · (try dsimp only at hSw); go_simp
        try simp only [Act.put, List.getElem_toArray, List.getElem_cons_succ, List.getElem_cons_zero, List.setIfInBounds_toArray, List.set_cons_zero, List.set_cons_succ]
        refine wpAnyH_done (by kernel_rfl) ?_ _
        have HJ2 : Hid (judgeU ks p = (10, (i : Int))) := by
          refine HJ.out.trans (Hfs.out.trans ?_)
          have hc : codeU p (ks.getD i KnownD.none) = 10 := by
            rw [Hq.out]
            unfold codeU nameB; rw [if_neg (by simp [Hnm.out]; have := Hs.out; omega), if_neg (by rw [Ha1.out, Ha2.out]; decide), if_pos (by rw [Hwk.out, Hb1.out]; rfl)]
          rw [firstU_at (by rw [Hm.out]; exact hlt) (by rw [hc]; decide), hc]
        go_wp2_with fail
        (try go_split_ands)
        go_ret
        refine ⟨_, rfl, ?_, ?_⟩
        · rw [HJ2.out]
          exact .at _ 0 _ _ (by simp [go_sem]) (by simp [go_sem]) (by simp)
        · have hN := hup _ (by assumption)
          exact (HB0.out.trans (hN.mono HB0.out.size)).alloc (Nat.le_trans HB0.out.size hN.size) _
      cases b2
      case' true =>
        go_wp2_with fail
        refine wp_region_held_drew (S := (fun w' => Below wA.heap.size wA w' ∧ w'.cell? ⟨w5.heap.size, 0, none⟩ = some (.string kp.name) ∧ w'.cell? ⟨w5.heap.size, 1, none⟩ = some (.int .i64 kp.ep) ∧ w'.cell? ⟨w5.heap.size, 2, none⟩ = some (.string kp.up) ∧ w'.cell? ⟨w5.heap.size, 3, none⟩ = some (.string kp.rv) ∧ w'.cell? ⟨w5.heap.size, 4, none⟩ = some (.slice f9 n9 q9) ∧ w'.cell? ⟨w.heap.size, 0, none⟩ = some (.string p.name) ∧ w'.cell? ⟨w.heap.size, 1, none⟩ = some (.int .i64 p.ep) ∧ w'.cell? ⟨w.heap.size, 2, none⟩ = some (.string p.up) ∧ w'.cell? ⟨w.heap.size, 3, none⟩ = some (.string p.rv) ∧ w'.cell? ⟨w.heap.size, 4, none⟩ = some (dv) ∧ w'.cell? ⟨w.heap.size, 5, none⟩ = some (av) ∧ w'.cell? ⟨w.heap.size, 6, none⟩ = some (gv) ∧ w'.cell? ⟨w.heap.size, 7, none⟩ = some (bv) ∧ w'.cell? ⟨w.heap.size, 8, none⟩ = some (rv) ∧ w'.cell? ⟨w.heap.size, 9, none⟩ = some (.slice p9 m9 c9) ∧ w'.cell? ⟨w.heap.size, 10, none⟩ = some (sv) ∧ w'.cell? ⟨w.heap.size, 11, none⟩ = some (lv) ∧ w'.cell? ⟨w.heap.size, 12, none⟩ = some (.slice pa pn pc) ∧ w'.cell? ⟨wr.heap.size, 0, none⟩ = some (.int .i64 s) ∧ w'.cell? ⟨wr.heap.size, 7, none⟩ = some (.string kp.name) ∧ w'.cell? ⟨wr.heap.size, 13, none⟩ = some (.slice f6 n6 q6) ∧ w'.cell? ⟨wr.heap.size, 14, none⟩ = some (.slice f7 n7 q7))) (by kernel_rfl) ?_ (fun hHeld2 => ?_)
        · exact ⟨hHeld.1.drew, HH.out _ hHeld.1.drew⟩
        clear hHeld
        have hHeld := hHeld2
        clear hHeld2
        refine wpAnyH_take (i := 0) (oi := _) (v := .pointer (some ⟨wr.heap.size, 0, none⟩)) rfl (by kernel_rfl) (by kernel_rfl) (by kernel_rfl) (fun _ _ _ h => h) (Or.inl ⟨by kernel_rfl, fun w hSw => ?_⟩) hHeld ?_
        · (try dsimp only at hSw); go_simp
        try simp only [Act.put, List.getElem_toArray, List.getElem_cons_succ, List.getElem_cons_zero, List.setIfInBounds_toArray, List.set_cons_zero, List.set_cons_succ]
        refine wpAnyH_take (i := 1) (oi := _) (v := .pointer (some ⟨wr.heap.size, 0, none⟩)) rfl (by kernel_rfl) (by kernel_rfl) (by kernel_rfl) (fun _ _ _ h => h) (Or.inl ⟨by kernel_rfl, fun w hSw => ?_⟩) hHeld ?_
        · (try dsimp only at hSw); go_simp
        try simp only [Act.put, List.getElem_toArray, List.getElem_cons_succ, List.getElem_cons_zero, List.setIfInBounds_toArray, List.set_cons_zero, List.set_cons_succ]
        refine wpAnyH_take (i := 2) (oi := _) (v := .int .i64 s) rfl (by kernel_rfl) (by kernel_rfl) (by kernel_rfl) (fun _ _ _ h => h) (Or.inl ⟨by kernel_rfl, fun w hSw => ?_⟩) hHeld ?_
        · (try dsimp only at hSw); go_simp
        try simp only [Act.put, List.getElem_toArray, List.getElem_cons_succ, List.getElem_cons_zero, List.setIfInBounds_toArray, List.set_cons_zero, List.set_cons_succ]
        refine wpAnyH_ready (rs := [3]) (by kernel_rfl) (by simp) ?_
        refine AllReadyH.cons (o := _) rfl (fun K hK => ?_) AllReadyH.nil
        go_simp
        go_at_call 26
        refine (WK.out _ hHeld.1).mono ?_
        rintro e w' ⟨rfl, hb⟩
        refine hK.out _ _ (held_next HH.out hHeld.1 hb) (fun hHeld2 => ?_)
        clear hK K hb hHeld
        have hHeld := hHeld2
        clear hHeld2
        try simp only [Act.put, List.getElem_toArray, List.getElem_cons_succ, List.getElem_cons_zero, List.setIfInBounds_toArray, List.set_cons_zero, List.set_cons_succ]
        refine wpAnyH_take (i := 4) (oi := _) (v := .bool true) rfl (by kernel_rfl) (by kernel_rfl) (by kernel_rfl) (fun _ _ _ h => h) (Or.inl ⟨by kernel_rfl, fun w hSw => ?_⟩) hHeld ?_
        · (try dsimp only at hSw); go_simp
        try simp only [Act.put, List.getElem_toArray, List.getElem_cons_succ, List.getElem_cons_zero, List.setIfInBounds_toArray, List.set_cons_zero, List.set_cons_succ]
        refine wpAnyH_take (i := 5) (oi := _) (v := .agg #[.string kp.name, .int .i64 kp.ep, .string kp.up, .string kp.rv, .slice f9 n9 q9]) rfl (by kernel_rfl) (by kernel_rfl) (by kernel_rfl) (fun _ _ _ h => h) (Or.inl ⟨by kernel_rfl, fun w hSw => ?_⟩) hHeld ?_
        · (try dsimp only at hSw); go_simp
        try simp only [Act.put, List.getElem_toArray, List.getElem_cons_succ, List.getElem_cons_zero, List.setIfInBounds_toArray, List.set_cons_zero, List.set_cons_succ]
        refine wpAnyH_take (i := 6) (oi := _) (v := .pointer (some ⟨w.heap.size, 7, none⟩)) rfl (by kernel_rfl) (by kernel_rfl) (by kernel_rfl) (fun _ _ _ h => h) (Or.inl ⟨by kernel_rfl, fun w hSw => ?_⟩) hHeld ?_
        · (try dsimp only at hSw); go_simp
        try simp only [Act.put, List.getElem_toArray, List.getElem_cons_succ, List.getElem_cons_zero, List.setIfInBounds_toArray, List.set_cons_zero, List.set_cons_succ]
        refine wpAnyH_take (i := 7) (oi := _) (v := bv) rfl (by kernel_rfl) (by kernel_rfl) (by kernel_rfl) (fun _ _ _ h => h) (Or.inl ⟨by kernel_rfl, fun w hSw => ?_⟩) hHeld ?_
        · (try dsimp only at hSw); go_simp
        try simp only [Act.put, List.getElem_toArray, List.getElem_cons_succ, List.getElem_cons_zero, List.setIfInBounds_toArray, List.set_cons_zero, List.set_cons_succ]
        refine wpAnyH_take (i := 8) (oi := _) (v := .pointer (some ⟨w.heap.size, 0, none⟩)) rfl (by kernel_rfl) (by kernel_rfl) (by kernel_rfl) (fun _ _ _ h => h) (Or.inl ⟨by kernel_rfl, fun w hSw => ?_⟩) hHeld ?_
        · (try dsimp only at hSw); go_simp
        try simp only [Act.put, List.getElem_toArray, List.getElem_cons_succ, List.getElem_cons_zero, List.setIfInBounds_toArray, List.set_cons_zero, List.set_cons_succ]
        refine wpAnyH_take (i := 9) (oi := _) (v := .string p.name) rfl (by kernel_rfl) (by kernel_rfl) (by kernel_rfl) (fun _ _ _ h => h) (Or.inl ⟨by kernel_rfl, fun w hSw => ?_⟩) hHeld ?_
        · (try dsimp only at hSw); go_simp
        try simp only [Act.put, List.getElem_toArray, List.getElem_cons_succ, List.getElem_cons_zero, List.setIfInBounds_toArray, List.set_cons_zero, List.set_cons_succ]
        refine wpAnyH_ready (rs := [10]) (by kernel_rfl) (by simp) ?_
        refine AllReadyH.cons (o := _) rfl (fun K hK => ?_) AllReadyH.nil
        go_simp
        go_at_call 30
        refine (N1.out _ hHeld.1).mono ?_
        rintro e w' ⟨rfl, hb⟩
        refine hK.out _ _ (held_next HH.out hHeld.1 hb) (fun hHeld2 => ?_)
        clear hK K hb hHeld
        have hHeld := hHeld2
        clear hHeld2
        try simp only [Act.put, List.getElem_toArray, List.getElem_cons_succ, List.getElem_cons_zero, List.setIfInBounds_toArray, List.set_cons_zero, List.set_cons_succ]
        refine wpAnyH_take (i := 11) (oi := _) (v := .bool false) rfl (by kernel_rfl) (by kernel_rfl) (by kernel_rfl) (fun _ _ _ h => h) (Or.inl ⟨by kernel_rfl, fun w hSw => ?_⟩) hHeld ?_
        · (try dsimp only at hSw); go_simp
        try simp only [Act.put, List.getElem_toArray, List.getElem_cons_succ, List.getElem_cons_zero, List.setIfInBounds_toArray, List.set_cons_zero, List.set_cons_succ]
        refine wpAnyH_take (i := 12) (oi := _) (v := .agg #[.string p.name, .int .i64 p.ep, .string p.up, .string p.rv, dv, av, gv, bv, rv, .slice p9 m9 c9, sv, lv, .slice pa pn pc]) rfl (by kernel_rfl) (by kernel_rfl) (by kernel_rfl) (fun _ _ _ h => h) (Or.inl ⟨by kernel_rfl, fun w hSw => ?_⟩) hHeld ?_
        · (try dsimp only at hSw); go_simp
        try simp only [Act.put, List.getElem_toArray, List.getElem_cons_succ, List.getElem_cons_zero, List.setIfInBounds_toArray, List.set_cons_zero, List.set_cons_succ]
        refine wpAnyH_take (i := 14) (oi := _) (v := .pointer (some ⟨wr.heap.size, 7, none⟩)) rfl (by kernel_rfl) (by kernel_rfl) (by kernel_rfl) (fun _ _ _ h => h) (Or.inl ⟨by kernel_rfl, fun w hSw => ?_⟩) hHeld ?_
        · (try dsimp only at hSw); go_simp
        try simp only [Act.put, List.getElem_toArray, List.getElem_cons_succ, List.getElem_cons_zero, List.setIfInBounds_toArray, List.set_cons_zero, List.set_cons_succ]
        refine wpAnyH_take (i := 15) (oi := _) (v := .pointer (some ⟨wr.heap.size, 14, none⟩)) rfl (by kernel_rfl) (by kernel_rfl) (by kernel_rfl) (fun _ _ _ h => h) (Or.inl ⟨by kernel_rfl, fun w hSw => ?_⟩) hHeld ?_
        · (try dsimp only at hSw); go_simp
        try simp only [Act.put, List.getElem_toArray, List.getElem_cons_succ, List.getElem_cons_zero, List.setIfInBounds_toArray, List.set_cons_zero, List.set_cons_succ]
        refine wpAnyH_take (i := 16) (oi := _) (v := .slice f7 n7 q7) rfl (by kernel_rfl) (by kernel_rfl) (by kernel_rfl) (fun _ _ _ h => h) (Or.inl ⟨by kernel_rfl, fun w hSw => ?_⟩) hHeld ?_
        · (try dsimp only at hSw); go_simp
        try simp only [Act.put, List.getElem_toArray, List.getElem_cons_succ, List.getElem_cons_zero, List.setIfInBounds_toArray, List.set_cons_zero, List.set_cons_succ]
        refine wpAnyH_take (i := 17) (oi := _) (v := .pointer (some ⟨wr.heap.size, 7, none⟩)) rfl (by kernel_rfl) (by kernel_rfl) (by kernel_rfl) (fun _ _ _ h => h) (Or.inl ⟨by kernel_rfl, fun w hSw => ?_⟩) hHeld ?_
        · (try dsimp only at hSw); go_simp
        try simp only [Act.put, List.getElem_toArray, List.getElem_cons_succ, List.getElem_cons_zero, List.setIfInBounds_toArray, List.set_cons_zero, List.set_cons_succ]
        refine wpAnyH_take (i := 18) (oi := _) (v := .pointer (some ⟨wr.heap.size, 7, none⟩)) rfl (by kernel_rfl) (by kernel_rfl) (by kernel_rfl) (fun _ _ _ h => h) (Or.inl ⟨by kernel_rfl, fun w hSw => ?_⟩) hHeld ?_
        · (try dsimp only at hSw); go_simp
        try simp only [Act.put, List.getElem_toArray, List.getElem_cons_succ, List.getElem_cons_zero, List.setIfInBounds_toArray, List.set_cons_zero, List.set_cons_succ]
        refine wpAnyH_take (i := 19) (oi := _) (v := .string kp.name) rfl (by kernel_rfl) (by kernel_rfl) (by kernel_rfl) (fun _ _ _ h => h) (Or.inl ⟨by kernel_rfl, fun w hSw => ?_⟩) hHeld ?_
        · (try dsimp only at hSw); go_simp
        try simp only [Act.put, List.getElem_toArray, List.getElem_cons_succ, List.getElem_cons_zero, List.setIfInBounds_toArray, List.set_cons_zero, List.set_cons_succ]
        refine wpAnyH_ready (rs := [13]) (by kernel_rfl) (by simp) ?_
        refine AllReadyH.cons (o := _) rfl (fun K hK => ?_) AllReadyH.nil
        go_simp
        go_at_call 29
        refine (OFP.out _ hHeld.1).mono ?_
        rintro e w' ⟨rfl, hb⟩
        refine hK.out _ _ (held_next HH.out hHeld.1 hb) (fun hHeld2 => ?_)
        clear hK K hb hHeld
        have hHeld := hHeld2
        clear hHeld2
        try simp only [Act.put, List.getElem_toArray, List.getElem_cons_succ, List.getElem_cons_zero, List.setIfInBounds_toArray, List.set_cons_zero, List.set_cons_succ]
        refine wpAnyH_ready (rs := [20]) (by kernel_rfl) (by simp) ?_
        refine AllReadyH.cons (o := _) rfl (fun K hK => ?_) AllReadyH.nil
        go_simp
        go_at_call 30
        refine (N2.out _ hHeld.1).mono ?_
        rintro e w' ⟨rfl, hb⟩
        refine hK.out _ _ (held_next HH.out hHeld.1 hb) (fun hHeld2 => ?_)
        clear hK K hb hHeld
        have hHeld := hHeld2
        clear hHeld2
        try simp only [Act.put, List.getElem_toArray, List.getElem_cons_succ, List.getElem_cons_zero, List.setIfInBounds_toArray, List.set_cons_zero, List.set_cons_succ]
        refine wpAnyH_take (i := 21) (oi := _) (v := .bool true) rfl (by kernel_rfl) (by kernel_rfl) (by kernel_rfl) (fun _ _ _ h => h) (Or.inl ⟨by kernel_rfl, fun w hSw => ?_⟩) hHeld ?_
        · (try dsimp only at hSw); go_simp
        try simp only [Act.put, List.getElem_toArray, List.getElem_cons_succ, List.getElem_cons_zero, List.setIfInBounds_toArray, List.set_cons_zero, List.set_cons_succ]
        refine wpAnyH_take (i := 22) (oi := _) (v := .bool true) rfl (by kernel_rfl) (by kernel_rfl) (by kernel_rfl) (fun _ _ _ h => h) (Or.inl ⟨by kernel_rfl, fun w hSw => ?_⟩) hHeld ?_
        · (try dsimp only at hSw); go_simp
        try simp only [Act.put, List.getElem_toArray, List.getElem_cons_succ, List.getElem_cons_zero, List.setIfInBounds_toArray, List.set_cons_zero, List.set_cons_succ]
        refine wpAnyH_take (i := 23) (oi := _) (v := .bool true) rfl (by kernel_rfl) (by kernel_rfl) (by kernel_rfl) (fun _ _ _ h => h) (Or.inl ⟨by kernel_rfl, fun w hSw => ?_⟩) hHeld ?_
        · (try dsimp only at hSw); go_simp
        try simp only [Act.put, List.getElem_toArray, List.getElem_cons_succ, List.getElem_cons_zero, List.setIfInBounds_toArray, List.set_cons_zero, List.set_cons_succ]
        refine wpAnyH_done (by kernel_rfl) ?_ _
        have HJ2 : Hid (judgeU ks p = (10, (i : Int))) := by
          refine HJ.out.trans (Hfs.out.trans ?_)
          have hc : codeU p (ks.getD i KnownD.none) = 10 := by
            rw [Hq.out]
            unfold codeU nameB; rw [if_neg (by simp [Hnm.out]; have := Hs.out; omega), if_neg (by rw [Ha1.out, Ha2.out]; decide), if_pos (by rw [Hwk.out, Hb1.out, Hb2.out]; rfl)]
          rw [firstU_at (by rw [Hm.out]; exact hlt) (by rw [hc]; decide), hc]
        go_wp2_with fail
        (try go_split_ands)
        go_ret
        refine ⟨_, rfl, ?_, ?_⟩
        · rw [HJ2.out]
          exact .at _ 0 _ _ (by simp [go_sem]) (by simp [go_sem]) (by simp)
        · have hN := hup _ (by assumption)
          exact (HB0.out.trans (hN.mono HB0.out.size)).alloc (Nat.le_trans HB0.out.size hN.size) _
      have HC : Hid (firstU p ks 0 = firstU p (ks.drop (i + 1)) ((i + 1 : Nat) : Int)) := by
        refine Hfs.out.trans (firstU_step (by rw [Hm.out]; exact hlt) ?_)
        rw [Hq.out]
        unfold codeU nameB; rw [if_neg (by simp [Hnm.out]; have := Hs.out; omega), if_neg (by rw [Ha1.out, Ha2.out]; decide), if_neg (by rw [Hwk.out, Hb1.out, Hb2.out]; decide)]
      go_wp2_with fail
      refine wp_region_held_drew (S := (fun w' => Below wA.heap.size wA w' ∧ w'.cell? ⟨w5.heap.size, 0, none⟩ = some (.string kp.name) ∧ w'.cell? ⟨w5.heap.size, 1, none⟩ = some (.int .i64 kp.ep) ∧ w'.cell? ⟨w5.heap.size, 2, none⟩ = some (.string kp.up) ∧ w'.cell? ⟨w5.heap.size, 3, none⟩ = some (.string kp.rv) ∧ w'.cell? ⟨w5.heap.size, 4, none⟩ = some (.slice f9 n9 q9) ∧ w'.cell? ⟨w.heap.size, 0, none⟩ = some (.string p.name) ∧ w'.cell? ⟨w.heap.size, 1, none⟩ = some (.int .i64 p.ep) ∧ w'.cell? ⟨w.heap.size, 2, none⟩ = some (.string p.up) ∧ w'.cell? ⟨w.heap.size, 3, none⟩ = some (.string p.rv) ∧ w'.cell? ⟨w.heap.size, 4, none⟩ = some (dv) ∧ w'.cell? ⟨w.heap.size, 5, none⟩ = some (av) ∧ w'.cell? ⟨w.heap.size, 6, none⟩ = some (gv) ∧ w'.cell? ⟨w.heap.size, 7, none⟩ = some (bv) ∧ w'.cell? ⟨w.heap.size, 8, none⟩ = some (rv) ∧ w'.cell? ⟨w.heap.size, 9, none⟩ = some (.slice p9 m9 c9) ∧ w'.cell? ⟨w.heap.size, 10, none⟩ = some (sv) ∧ w'.cell? ⟨w.heap.size, 11, none⟩ = some (lv) ∧ w'.cell? ⟨w.heap.size, 12, none⟩ = some (.slice pa pn pc) ∧ w'.cell? ⟨wr.heap.size, 0, none⟩ = some (.int .i64 s) ∧ w'.cell? ⟨wr.heap.size, 7, none⟩ = some (.string kp.name) ∧ w'.cell? ⟨wr.heap.size, 13, none⟩ = some (.slice f6 n6 q6) ∧ w'.cell? ⟨wr.heap.size, 14, none⟩ = some (.slice f7 n7 q7))) (by kernel_rfl) ?_ (fun hHeld2 => ?_)
      · exact ⟨hHeld.1.drew, HH.out _ hHeld.1.drew⟩
      clear hHeld
      have hHeld := hHeld2
      clear hHeld2
      refine wpAnyH_take (i := 0) (oi := _) (v := .pointer (some ⟨wr.heap.size, 0, none⟩)) rfl (by kernel_rfl) (by kernel_rfl) (by kernel_rfl) (fun _ _ _ h => h) (Or.inl ⟨by kernel_rfl, fun w hSw => ?_⟩) hHeld ?_
      · (try dsimp only at hSw); go_simp
      try simp only [Act.put, List.getElem_toArray, List.getElem_cons_succ, List.getElem_cons_zero, List.setIfInBounds_toArray, List.set_cons_zero, List.set_cons_succ]
      refine wpAnyH_take (i := 1) (oi := _) (v := .pointer (some ⟨wr.heap.size, 0, none⟩)) rfl (by kernel_rfl) (by kernel_rfl) (by kernel_rfl) (fun _ _ _ h => h) (Or.inl ⟨by kernel_rfl, fun w hSw => ?_⟩) hHeld ?_
      · (try dsimp only at hSw); go_simp
      try simp only [Act.put, List.getElem_toArray, List.getElem_cons_succ, List.getElem_cons_zero, List.setIfInBounds_toArray, List.set_cons_zero, List.set_cons_succ]
      refine wpAnyH_take (i := 2) (oi := _) (v := .int .i64 s) rfl (by kernel_rfl) (by kernel_rfl) (by kernel_rfl) (fun _ _ _ h => h) (Or.inl ⟨by kernel_rfl, fun w hSw => ?_⟩) hHeld ?_
      · (try dsimp only at hSw); go_simp
      try simp only [Act.put, List.getElem_toArray, List.getElem_cons_succ, List.getElem_cons_zero, List.setIfInBounds_toArray, List.set_cons_zero, List.set_cons_succ]
      refine wpAnyH_ready (rs := [3]) (by kernel_rfl) (by simp) ?_
      refine AllReadyH.cons (o := _) rfl (fun K hK => ?_) AllReadyH.nil
      go_simp
      go_at_call 26
      refine (WK.out _ hHeld.1).mono ?_
      rintro e w' ⟨rfl, hb⟩
      refine hK.out _ _ (held_next HH.out hHeld.1 hb) (fun hHeld2 => ?_)
      clear hK K hb hHeld
      have hHeld := hHeld2
      clear hHeld2
      try simp only [Act.put, List.getElem_toArray, List.getElem_cons_succ, List.getElem_cons_zero, List.setIfInBounds_toArray, List.set_cons_zero, List.set_cons_succ]
      refine wpAnyH_take (i := 4) (oi := _) (v := .bool true) rfl (by kernel_rfl) (by kernel_rfl) (by kernel_rfl) (fun _ _ _ h => h) (Or.inl ⟨by kernel_rfl, fun w hSw => ?_⟩) hHeld ?_
      · (try dsimp only at hSw); go_simp
      try simp only [Act.put, List.getElem_toArray, List.getElem_cons_succ, List.getElem_cons_zero, List.setIfInBounds_toArray, List.set_cons_zero, List.set_cons_succ]
      refine wpAnyH_take (i := 5) (oi := _) (v := .agg #[.string kp.name, .int .i64 kp.ep, .string kp.up, .string kp.rv, .slice f9 n9 q9]) rfl (by kernel_rfl) (by kernel_rfl) (by kernel_rfl) (fun _ _ _ h => h) (Or.inl ⟨by kernel_rfl, fun w hSw => ?_⟩) hHeld ?_
      · (try dsimp only at hSw); go_simp
      try simp only [Act.put, List.getElem_toArray, List.getElem_cons_succ, List.getElem_cons_zero, List.setIfInBounds_toArray, List.set_cons_zero, List.set_cons_succ]
      refine wpAnyH_take (i := 6) (oi := _) (v := .pointer (some ⟨w.heap.size, 7, none⟩)) rfl (by kernel_rfl) (by kernel_rfl) (by kernel_rfl) (fun _ _ _ h => h) (Or.inl ⟨by kernel_rfl, fun w hSw => ?_⟩) hHeld ?_
      · (try dsimp only at hSw); go_simp
      try simp only [Act.put, List.getElem_toArray, List.getElem_cons_succ, List.getElem_cons_zero, List.setIfInBounds_toArray, List.set_cons_zero, List.set_cons_succ]
      refine wpAnyH_take (i := 7) (oi := _) (v := bv) rfl (by kernel_rfl) (by kernel_rfl) (by kernel_rfl) (fun _ _ _ h => h) (Or.inl ⟨by kernel_rfl, fun w hSw => ?_⟩) hHeld ?_
      · (try dsimp only at hSw); go_simp
      try simp only [Act.put, List.getElem_toArray, List.getElem_cons_succ, List.getElem_cons_zero, List.setIfInBounds_toArray, List.set_cons_zero, List.set_cons_succ]
      refine wpAnyH_take (i := 8) (oi := _) (v := .pointer (some ⟨w.heap.size, 0, none⟩)) rfl (by kernel_rfl) (by kernel_rfl) (by kernel_rfl) (fun _ _ _ h => h) (Or.inl ⟨by kernel_rfl, fun w hSw => ?_⟩) hHeld ?_
      · (try dsimp only at hSw); go_simp
      try simp only [Act.put, List.getElem_toArray, List.getElem_cons_succ, List.getElem_cons_zero, List.setIfInBounds_toArray, List.set_cons_zero, List.set_cons_succ]
      refine wpAnyH_take (i := 9) (oi := _) (v := .string p.name) rfl (by kernel_rfl) (by kernel_rfl) (by kernel_rfl) (fun _ _ _ h => h) (Or.inl ⟨by kernel_rfl, fun w hSw => ?_⟩) hHeld ?_
      · (try dsimp only at hSw); go_simp
      try simp only [Act.put, List.getElem_toArray, List.getElem_cons_succ, List.getElem_cons_zero, List.setIfInBounds_toArray, List.set_cons_zero, List.set_cons_succ]
      refine wpAnyH_ready (rs := [10]) (by kernel_rfl) (by simp) ?_
      refine AllReadyH.cons (o := _) rfl (fun K hK => ?_) AllReadyH.nil
      go_simp
      go_at_call 30
      refine (N1.out _ hHeld.1).mono ?_
      rintro e w' ⟨rfl, hb⟩
      refine hK.out _ _ (held_next HH.out hHeld.1 hb) (fun hHeld2 => ?_)
      clear hK K hb hHeld
      have hHeld := hHeld2
      clear hHeld2
      try simp only [Act.put, List.getElem_toArray, List.getElem_cons_succ, List.getElem_cons_zero, List.setIfInBounds_toArray, List.set_cons_zero, List.set_cons_succ]
      refine wpAnyH_take (i := 11) (oi := _) (v := .bool false) rfl (by kernel_rfl) (by kernel_rfl) (by kernel_rfl) (fun _ _ _ h => h) (Or.inl ⟨by kernel_rfl, fun w hSw => ?_⟩) hHeld ?_
      · (try dsimp only at hSw); go_simp
      try simp only [Act.put, List.getElem_toArray, List.getElem_cons_succ, List.getElem_cons_zero, List.setIfInBounds_toArray, List.set_cons_zero, List.set_cons_succ]
      refine wpAnyH_take (i := 12) (oi := _) (v := .agg #[.string p.name, .int .i64 p.ep, .string p.up, .string p.rv, dv, av, gv, bv, rv, .slice p9 m9 c9, sv, lv, .slice pa pn pc]) rfl (by kernel_rfl) (by kernel_rfl) (by kernel_rfl) (fun _ _ _ h => h) (Or.inl ⟨by kernel_rfl, fun w hSw => ?_⟩) hHeld ?_
      · (try dsimp only at hSw); go_simp
      try simp only [Act.put, List.getElem_toArray, List.getElem_cons_succ, List.getElem_cons_zero, List.setIfInBounds_toArray, List.set_cons_zero, List.set_cons_succ]
      refine wpAnyH_take (i := 14) (oi := _) (v := .pointer (some ⟨wr.heap.size, 7, none⟩)) rfl (by kernel_rfl) (by kernel_rfl) (by kernel_rfl) (fun _ _ _ h => h) (Or.inl ⟨by kernel_rfl, fun w hSw => ?_⟩) hHeld ?_
      · (try dsimp only at hSw); go_simp
      try simp only [Act.put, List.getElem_toArray, List.getElem_cons_succ, List.getElem_cons_zero, List.setIfInBounds_toArray, List.set_cons_zero, List.set_cons_succ]
      refine wpAnyH_take (i := 15) (oi := _) (v := .pointer (some ⟨wr.heap.size, 14, none⟩)) rfl (by kernel_rfl) (by kernel_rfl) (by kernel_rfl) (fun _ _ _ h => h) (Or.inl ⟨by kernel_rfl, fun w hSw => ?_⟩) hHeld ?_
      · (try dsimp only at hSw); go_simp
      try simp only [Act.put, List.getElem_toArray, List.getElem_cons_succ, List.getElem_cons_zero, List.setIfInBounds_toArray, List.set_cons_zero, List.set_cons_succ]
      refine wpAnyH_take (i := 16) (oi := _) (v := .slice f7 n7 q7) rfl (by kernel_rfl) (by kernel_rfl) (by kernel_rfl) (fun _ _ _ h => h) (Or.inl ⟨by kernel_rfl, fun w hSw => ?_⟩) hHeld ?_
      · (try dsimp only at hSw); go_simp
      try simp only [Act.put, List.getElem_toArray, List.getElem_cons_succ, List.getElem_cons_zero, List.setIfInBounds_toArray, List.set_cons_zero, List.set_cons_succ]
      refine wpAnyH_take (i := 17) (oi := _) (v := .pointer (some ⟨wr.heap.size, 7, none⟩)) rfl (by kernel_rfl) (by kernel_rfl) (by kernel_rfl) (fun _ _ _ h => h) (Or.inl ⟨by kernel_rfl, fun w hSw => ?_⟩) hHeld ?_
      · (try dsimp only at hSw); go_simp
      try simp only [Act.put, List.getElem_toArray, List.getElem_cons_succ, List.getElem_cons_zero, List.setIfInBounds_toArray, List.set_cons_zero, List.set_cons_succ]
      refine wpAnyH_take (i := 18) (oi := _) (v := .pointer (some ⟨wr.heap.size, 7, none⟩)) rfl (by kernel_rfl) (by kernel_rfl) (by kernel_rfl) (fun _ _ _ h => h) (Or.inl ⟨by kernel_rfl, fun w hSw => ?_⟩) hHeld ?_
      · (try dsimp only at hSw); go_simp
      try simp only [Act.put, List.getElem_toArray, List.getElem_cons_succ, List.getElem_cons_zero, List.setIfInBounds_toArray, List.set_cons_zero, List.set_cons_succ]
      refine wpAnyH_take (i := 19) (oi := _) (v := .string kp.name) rfl (by kernel_rfl) (by kernel_rfl) (by kernel_rfl) (fun _ _ _ h => h) (Or.inl ⟨by kernel_rfl, fun w hSw => ?_⟩) hHeld ?_
      · (try dsimp only at hSw); go_simp
      try simp only [Act.put, List.getElem_toArray, List.getElem_cons_succ, List.getElem_cons_zero, List.setIfInBounds_toArray, List.set_cons_zero, List.set_cons_succ]
      refine wpAnyH_ready (rs := [13]) (by kernel_rfl) (by simp) ?_
      refine AllReadyH.cons (o := _) rfl (fun K hK => ?_) AllReadyH.nil
      go_simp
      go_at_call 29
      refine (OFP.out _ hHeld.1).mono ?_
      rintro e w' ⟨rfl, hb⟩
      refine hK.out _ _ (held_next HH.out hHeld.1 hb) (fun hHeld2 => ?_)
      clear hK K hb hHeld
      have hHeld := hHeld2
      clear hHeld2
      try simp only [Act.put, List.getElem_toArray, List.getElem_cons_succ, List.getElem_cons_zero, List.setIfInBounds_toArray, List.set_cons_zero, List.set_cons_succ]
      refine wpAnyH_ready (rs := [20]) (by kernel_rfl) (by simp) ?_
      refine AllReadyH.cons (o := _) rfl (fun K hK => ?_) AllReadyH.nil
      go_simp
      go_at_call 30
      refine (N2.out _ hHeld.1).mono ?_
      rintro e w' ⟨rfl, hb⟩
      refine hK.out _ _ (held_next HH.out hHeld.1 hb) (fun hHeld2 => ?_)
      clear hK K hb hHeld
      have hHeld := hHeld2
      clear hHeld2
      try simp only [Act.put, List.getElem_toArray, List.getElem_cons_succ, List.getElem_cons_zero, List.setIfInBounds_toArray, List.set_cons_zero, List.set_cons_succ]
      refine wpAnyH_take (i := 21) (oi := _) (v := .bool false) rfl (by kernel_rfl) (by kernel_rfl) (by kernel_rfl) (fun _ _ _ h => h) (Or.inl ⟨by kernel_rfl, fun w hSw => ?_⟩) hHeld ?_
      · (try dsimp only at hSw); go_simp
      try simp only [Act.put, List.getElem_toArray, List.getElem_cons_succ, List.getElem_cons_zero, List.setIfInBounds_toArray, List.set_cons_zero, List.set_cons_succ]
      refine wpAnyH_take (i := 22) (oi := _) (v := .bool false) rfl (by kernel_rfl) (by kernel_rfl) (by kernel_rfl) (fun _ _ _ h => h) (Or.inl ⟨by kernel_rfl, fun w hSw => ?_⟩) hHeld ?_
      · (try dsimp only at hSw); go_simp
      try simp only [Act.put, List.getElem_toArray, List.getElem_cons_succ, List.getElem_cons_zero, List.setIfInBounds_toArray, List.set_cons_zero, List.set_cons_succ]
      refine wpAnyH_take (i := 23) (oi := _) (v := .bool false) rfl (by kernel_rfl) (by kernel_rfl) (by kernel_rfl) (fun _ _ _ h => h) (Or.inl ⟨by kernel_rfl, fun w hSw => ?_⟩) hHeld ?_
      · (try dsimp only at hSw); go_simp
      try simp only [Act.put, List.getElem_toArray, List.getElem_cons_succ, List.getElem_cons_zero, List.setIfInBounds_toArray, List.set_cons_zero, List.set_cons_succ]
      refine wpAnyH_done (by kernel_rfl) ?_ _
      go_wp2_with fail
      (try go_split_ands)
      go_roundg (m - (i + 1))
      case rel => exact ⟨i + 1, by go_num, by omega, rfl, HC.out, (hup _ (by assumption))⟩
      case measure => have := Hk.out; omega
    · obtain rfl : m = i := by omega
      have HJ2 : Hid (judgeU ks p = (0, -1)) := HJ.out.trans (Hfs.out.trans (firstU_end (by rw [Hm.out]; exact Nat.le_refl _)))
      go_wp2_with fail
      go_ret
      exact ⟨_, rfl, by rw [HJ2.out]; exact .nil, HB0.out.trans (hB.mono HB0.out.size)⟩
end Go.Proofs.YtnfnebfioibndaaGreatDoor
