/- stevedoreref.CheckConfigure: what it says is judgeC. -/
import Derived.Test.YtnfnebfioibndaaGreatDoorFit
namespace Go.Proofs.YtnfnebfioibndaaGreatDoor
open Go.RowKit
set_option maxRecDepth 100000
set_option maxHeartbeats 4000000

theorem checkConfigureRef_calls (kv bv : Value) (ks : List KnownD) (which : Int) (ws : List Int) (w : World) (hK : Knowns w kv ks) (hI : Ints w bv ws) (hF : FitK ks) (hN : FineR w) (hT : TabR w) :
    Calls Tryz.prog 11 #[kv, .int .i64 which, bv] w fun e w' => e = .returned (.agg #[.int .i64 (judgeC ks which ws).1, .int .i64 (judgeC ks which ws).2]) ∧ Below w.heap.size w w' := by
  obtain ⟨w0, hw0⟩ : ∃ w0 : World, w0 = w.alloc (.cells #[.int .i64 0, .int .i64 0] 42) := ⟨_, rfl⟩
  have hB0 : Below w.heap.size w w0 := by rw [hw0]; go_grown
  have hz0 : w0.heap.size = w.heap.size + 1 := by rw [hw0]; simp
  have hRC : ResC w0 w.heap.size := by rw [hw0]; exact ResC.new _
  have HK0 := Lib.hid (hK.below hB0 (Nat.le_refl _))
  have hK0 := HK0.out
  have HI := Lib.hid (hI.below hB0 (Nat.le_refl _))
  have HN := Lib.hid (hN.below hB0 (Nat.le_refl _))
  have HT := Lib.hid (hT.below hB0)
  obtain ⟨R, ⟨a, cap, rfl, hcap, hmax, hcell⟩, hO⟩ := hK0
  unfold maxLen at hmax
  obtain ⟨i0, hi0, hz0', hz1, hz2⟩ := info_parts info_pack
  have Hcell := Lib.hid hcell
  have HO := Lib.hid hO
  obtain ⟨m, hm⟩ : ∃ m, ks.length = m := ⟨_, rfl⟩
  have hm20 := hF.len
  rw [hm] at hcap Hcell HO hm20 ⊢
  have HK : Hid (Knowns w0 (.slice a m cap) ks) := by have := HK0; rwa [hm] at this
  have HRC := Lib.hid hRC
  have HF := Lib.hid hF
  have Hm := Lib.hid hm
  have Hw := Lib.hid hw0
  have Hz := Lib.hid hz0
  have HB0 := Lib.hid hB0
  have Hi0 := Lib.hid (And.intro hi0 (And.intro hz0' (And.intro hz1 hz2)))
  clear hcell hO hm hi0 hz0' hz1 hz2 hRC HK0 hF hw0 hz0 hB0 hK hI hN hT
  have hBr0 : Below w0.heap.size w0 w0 := Below.refl _ _
  by_cases hr : which < 0 ∨ (m : Int) ≤ which
  case' pos =>
    have HJ : Hid (judgeC ks which ws = (2, -1)) := by
      show _ = _
      unfold judgeC
      rw [Hm.out, if_pos hr]
    have IN : Hid (Calls Tryz.prog 37 #[.int .i64 which, .int .i64 0, .int .i64 ((m : Int) - 1)] w0 fun ev w' => ev = .returned (.bool false) ∧ w0 = w') := by
      have := in_calls which 0 ((m : Int) - 1) w0
      have e : (decide (0 ≤ which) && decide (which ≤ (m : Int) - 1)) = false := by simp; omega
      rw [e] at this
      exact this
    clear hr
    go_enter Tryz.func11, Tryz.ntmps11
    go_wp2_with fail
    rw [← Hw.out]
    go_wp2_with fail
    refine IN.out.mono ?_
    rintro e0 w00 ⟨rfl, rfl⟩
    go_wp2_with fail
    refine (refBare_calls 2 _).mono ?_
    rintro e1 w1 ⟨rfl, hc1⟩
    have hb1 := hBr0.trans (hc1.mono hBr0.size)
    clear hc1
    have hrc := HRC.out.below hb1 (by rw [Hz.out]; omega)
    have c0 := hrc.c0
    have c1 := hrc.c1
    have z0 := hrc.z0
    have z1 := hrc.z1
    have hrl := hrc.lt
    have d0 := hrc.d0 (.int .i64 2)
    have d1 := hrc.d1 (.int .i64 2) (.int .i64 (-1))
    clear hrc
    go_wp2_with fail
    try simp only [Exit.inBlock, Exit.then]
    refine bodyPost_ret (by simp [results, Tryz.results11, go_sem, d0, d1]; try rfl) rfl ?_
    exact ⟨by rw [HJ.out], HB0.out.trans (((hb1.mono HB0.out.size).setCell (Nat.le_refl _) _).setCell (Nat.le_refl _) _)⟩
  obtain ⟨jw, rfl⟩ : ∃ jw : Nat, which = (jw : Int) := ⟨which.toNat, by omega⟩
  have hjw : jw < m := by omega
  have IN : Hid (Calls Tryz.prog 37 #[.int .i64 (jw : Int), .int .i64 0, .int .i64 ((m : Int) - 1)] w0 fun ev w' => ev = .returned (.bool true) ∧ w0 = w') := by
    have := in_calls (jw : Int) 0 ((m : Int) - 1) w0
    have e : (decide ((0 : Int) ≤ (jw : Int)) && decide ((jw : Int) ≤ (m : Int) - 1)) = true := by simp; omega
    rw [e] at this
    exact this
  obtain ⟨bw, ow, rfl, hbw, hcw⟩ := Hcell.out.resolve_left (by omega)
  obtain ⟨kw, hkw⟩ : ∃ kw, ks.getD jw KnownD.none = kw := ⟨_, rfl⟩
  have hko := HO.out jw hjw
  have hkm : ks.getD jw KnownD.none ∈ ks := mem_getD _ (by rw [Hm.out]; exact hjw)
  rw [hkw] at hko hkm
  have cs : w0.cell? ⟨bw, ow + jw * 20, none⟩ = some (.int .i64 kw.state) := by have := hcw jw 0 hjw (by decide); rw [hko.state] at this; exact this
  obtain ⟨dw, hdw⟩ : ∃ dw, R jw 11 = dw := ⟨_, rfl⟩
  have cd : w0.cell? ⟨bw, ow + jw * 20 + 11, none⟩ = some dw := by have := hcw jw 11 hjw (by decide); rw [hdw] at this; exact this
  have HD : Hid (Lists w0 dw kw.pack.depends) := by have := hko.pack.depends; rw [← hdw]; exact this
  have Hcd := Lib.hid cd
  have Hkm := Lib.hid hkm
  have HJ0 : Hid (judgeC ks (jw : Int) ws = if mayK kw then (if (metC ks kw ws).2 then (0, -1) else (7, (metC ks kw ws).1)) else (6, -1)) := by
    show _ = _
    unfold judgeC
    rw [Hm.out, if_neg hr, Int.toNat_natCast, hkw]
  have MAY := Lib.hid (refMay_calls kw.state 3 w0 HT.out)
  clear hkw hko hkm hcw hdw cd hr
  cases hmay : mayK kw
  case' false =>
    have HJ : Hid (judgeC ks (jw : Int) ws = (6, -1)) := by show _ = _; rw [HJ0.out, hmay]; rfl
    have hmay' : (nextE kw.state 3 == 0) = false := hmay
    rw [hmay'] at MAY
    clear hmay hmay'
    go_enter Tryz.func11, Tryz.ntmps11
    go_wp2_with fail
    rw [← Hw.out]
    go_wp2_with fail
    refine IN.out.mono ?_
    rintro e0 w00 ⟨rfl, rfl⟩
    go_wp2_with fail
    refine MAY.out.mono ?_
    rintro e0 w00 ⟨rfl, rfl⟩
    go_wp2_with fail
    refine (refBare_calls 6 _).mono ?_
    rintro e1 w1 ⟨rfl, hc1⟩
    have hb1 := hBr0.trans (hc1.mono hBr0.size)
    clear hc1
    have hrc := HRC.out.below hb1 (by rw [Hz.out]; omega)
    have c0 := hrc.c0
    have c1 := hrc.c1
    have z0 := hrc.z0
    have z1 := hrc.z1
    have hrl := hrc.lt
    have d0 := hrc.d0 (.int .i64 6)
    have d1 := hrc.d1 (.int .i64 6) (.int .i64 (-1))
    clear hrc
    go_wp2_with fail
    try simp only [Exit.inBlock, Exit.then]
    refine bodyPost_ret (by simp [results, Tryz.results11, go_sem, d0, d1]; try rfl) rfl ?_
    exact ⟨by rw [HJ.out], HB0.out.trans (((hb1.mono HB0.out.size).setCell (Nat.le_refl _) _).setCell (Nat.le_refl _) _)⟩
  have HJ1 : Hid (judgeC ks (jw : Int) ws = if (metC ks kw ws).2 then (0, -1) else (7, (metC ks kw ws).1)) := by show _ = _; rw [HJ0.out, hmay]; rfl
  have hmay' : (nextE kw.state 3 == 0) = true := hmay
  rw [hmay'] at MAY
  clear hmay hmay'
  have CW : Hid (Calls Tryz.prog 33 #[.slice (some ⟨bw, ow, none⟩) m cap, .slice none 0 0] w0 (WorkingR w0 ks [])) := working_calls _ _ _ _ _ HK.out ⟨Sl.nil _ _ _, trivial⟩ (by rw [Hm.out]; exact hm20)
  go_enter Tryz.func11, Tryz.ntmps11
  go_wp2_with fail
  rw [← Hw.out]
  go_wp2_with fail
  refine IN.out.mono ?_
  rintro e0 w00 ⟨rfl, rfl⟩
  go_wp2_with fail
  refine MAY.out.mono ?_
  rintro e0 w00 ⟨rfl, rfl⟩
  go_wp2_with fail
  refine CW.out.mono ?_
  rintro e0 w1 ⟨ov0, os0, rfl, hown0, hps0, hok0, hln0, hb0⟩
  have HP0 : Hid (os0.map PackC.pack = allP ks ws 0) := by
    show _ = _
    rw [hps0]
    unfold allP
    simp
  rw [Hm.out] at hln0
  clear hps0 IN MAY CW cs
  go_wp2_with fail
  go_loopg [7, 32] m (fun k v7 v32 wr => ∃ (i : Nat) (ov : Value) (os : List PackC), ov = v7 ∧ v32 = .int .i64 i ∧ i ≤ m ∧ k = m - i ∧ wr.ownsRow w0.heap.size 30 13 ov os.length (packsRows os) ∧ os.map PackC.pack = allP ks ws i ∧ (∀ o ∈ os, PackCOk w0 o) ∧ os.length ≤ m + i ∧ Below w0.heap.size w0 wr)
  case atStart => exact ⟨0, ov0, os0, rfl, rfl, Nat.zero_le _, rfl, hown0, HP0.out, hok0, by omega, hb0⟩
  case round =>
    clear hown0 hok0 hln0 hb0 HP0
    obtain ⟨i, ov, os, rfl, rfl, hi, hk, hown, hps, hok, hos, hB⟩ := hrel
    have Hk := Lib.hid hk
    have Hown := Lib.hid hown
    have Hps := Lib.hid hps
    have Hok := Lib.hid hok
    have Hos := Lib.hid hos
    clear hk hown hps hok hos
    by_cases hlt : i < m
    · obtain ⟨bp, op, hap, hbp, hcp⟩ := Hcell.out.resolve_left (by omega)
      obtain ⟨rfl, rfl⟩ : bp = bw ∧ op = ow := by simpa using hap.symm
      obtain ⟨q, hq⟩ : ∃ q, ks.getD i KnownD.none = q := ⟨_, rfl⟩
      have hkn := HO.out i hlt
      have hmem : ks.getD i KnownD.none ∈ ks := mem_getD _ (by rw [Hm.out]; exact hlt)
      rw [hq] at hkn hmem
      have HR0 : wr.rangeAt bp (op + i * 20) (row20 (R i)) := rangeAt_row20 fun j hj => (hB.cell (p := ⟨bp, op + i * 20 + j, none⟩) hbp).trans (hcp i j hlt hj)
      obtain ⟨s, e, u, r, hd, wl, tl, kp⟩ := q
      obtain ⟨fw, nw, qw, ft, nt, qt, f4, n4, q4, f5, n5, q5, f6, n6, q6, f7, n7, q7, f8, n8, q8, f9, n9, q9, f10, n10, q10, f11, n11, q11, fa, fn, fc, eR, hV, -, -⟩ := hkn.cells
      dsimp only at eR hV
      rw [eR] at HR0
      have HR := Lib.hid HR0
      have HV := Lib.hid hV
      have Hq := Lib.hid hq
      have Hmem := Lib.hid hmem
      have hsz := hB.size
      clear HR0 eR hV hkn hcp hq hmem
      obtain ⟨wt, hwt⟩ : ∃ wt : World, wt = wr.alloc (.cells #[.int .i64 s, .int .i64 e, .string u, .string r, .bool hd, .slice fw nw qw, .slice ft nt qt, .string kp.name, .int .i64 kp.ep, .string kp.up, .string kp.rv, .slice f4 n4 q4, .slice f5 n5 q5, .slice f6 n6 q6, .slice f7 n7 q7, .slice f8 n8 q8, .slice f9 n9 q9, .slice f10 n10 q10, .slice f11 n11 q11, .slice fa fn fc] 56) := ⟨_, rfl⟩
      have hBr : Below wr.heap.size wr wt := by rw [hwt]; exact (Below.refl _ _).alloc (Nat.le_refl _) _
      have hBt : Below w0.heap.size w0 wt := by rw [hwt]; exact hB.alloc hB.size _
      have hzt : wt.heap.size = wr.heap.size + 1 := by rw [hwt]; simp
      have hRn : wt.rangeAt wr.heap.size 0 [.int .i64 s, .int .i64 e, .string u, .string r, .bool hd, .slice fw nw qw, .slice ft nt qt, .string kp.name, .int .i64 kp.ep, .string kp.up, .string kp.rv, .slice f4 n4 q4, .slice f5 n5 q5, .slice f6 n6 q6, .slice f7 n7 q7, .slice f8 n8 q8, .slice f9 n9 q9, .slice f10 n10 q10, .slice f11 n11 q11, .slice fa fn fc] := by rw [hwt]; exact rangeAt_new _ _ _
      have HRn := Lib.hid hRn
      have hlt2 : wr.heap.size < wt.heap.size := by omega
      have Hwt := Lib.hid hwt
      have Hzt := Lib.hid hzt
      have hsz2 : w0.heap.size ≤ wt.heap.size := hBt.size
      clear hzt hwt hRn hBr
      have g0 : wt.cell? ⟨wr.heap.size, 0, none⟩ = some (.int .i64 s) := HRn.out 0 _ rfl
      have Hownt : Hid (wt.ownsRow w0.heap.size 30 13 ov os.length (packsRows os)) := by
        show World.ownsRow _ _ _ _ _ _ _
        rw [Hwt.out]
        exact Hown.out.alloc _
      have HOL := Lib.hid (holds_calls bv ws i wt (HI.out.below hBt (Nat.le_refl _)))
      have MAYK := Lib.hid (refMay_calls s 3 wt (HT.out.below hBt))
      have HRk := Lib.hid (rangeAt_drop7 HRn.out)
      cases hbt : ws.any (· == (i : Int))
      · have HPS : Hid (os.map PackC.pack = allP ks ws (i + 1)) := by
          show _ = _
          rw [Hps.out, allP_no (by rw [Hq.out]; rw [hbt]; rfl)]
        rw [hbt] at HOL
        clear hbt MAYK
        go_wp2_with (first
          | (refine wpList_load_mid (by rfl) 56 _ (by rfl) bp (op + i * 20) (by rfl) _ _ HR.out Tryz.underlying56 (by rfl) (by kernel_rfl) ?_)
          | (refine wpList_store_mid (by rfl) 56 _ _ (by rfl) wr.heap.size 0 #[.int .i64 s, .int .i64 e, .string u, .string r, .bool hd, .slice fw nw qw, .slice ft nt qt, .string kp.name, .int .i64 kp.ep, .string kp.up, .string kp.rv, .slice f4 n4 q4, .slice f5 n5 q5, .slice f6 n6 q6, .slice f7 n7 q7, .slice f8 n8 q8, .slice f9 n9 q9, .slice f10 n10 q10, .slice f11 n11 q11, .slice fa fn fc] (by rfl) (by rfl) (there_new _ _ _ _ (by rfl)) (by kernel_rfl) (by simp [Value.oneCell']) ?_; rw [setCells_new _ _ _ _ (by rfl)]; rw [show wr.alloc (.cells _ _) = wt from Hwt.out.symm]))
        refine HOL.out.mono ?_
        rintro e1 w1 ⟨rfl, rfl⟩
        go_wp2_with fail
        go_roundg (m - (i + 1))
        case rel => exact ⟨i + 1, _, os, rfl, by go_num, by omega, rfl, Hownt.out, HPS.out, Hok.out, by have := Hos.out; omega, hBt⟩
        case measure => have := Hk.out; omega
      · cases hmk : mayK ⟨s, e, u, r, hd, wl, tl, kp⟩
        · have HPS : Hid (os.map PackC.pack = allP ks ws (i + 1)) := by
            show _ = _
            rw [Hps.out, allP_no (by rw [Hq.out]; rw [hmk]; simp)]
          rw [hbt] at HOL
          have hmk' : (nextE s 3 == 0) = false := hmk
          rw [hmk'] at MAYK
          clear hbt hmk hmk'
          go_wp2_with (first
            | (refine wpList_load_mid (by rfl) 56 _ (by rfl) bp (op + i * 20) (by rfl) _ _ HR.out Tryz.underlying56 (by rfl) (by kernel_rfl) ?_)
            | (refine wpList_store_mid (by rfl) 56 _ _ (by rfl) wr.heap.size 0 #[.int .i64 s, .int .i64 e, .string u, .string r, .bool hd, .slice fw nw qw, .slice ft nt qt, .string kp.name, .int .i64 kp.ep, .string kp.up, .string kp.rv, .slice f4 n4 q4, .slice f5 n5 q5, .slice f6 n6 q6, .slice f7 n7 q7, .slice f8 n8 q8, .slice f9 n9 q9, .slice f10 n10 q10, .slice f11 n11 q11, .slice fa fn fc] (by rfl) (by rfl) (there_new _ _ _ _ (by rfl)) (by kernel_rfl) (by simp [Value.oneCell']) ?_; rw [setCells_new _ _ _ _ (by rfl)]; rw [show wr.alloc (.cells _ _) = wt from Hwt.out.symm]))
          refine HOL.out.mono ?_
          rintro e1 w1 ⟨rfl, rfl⟩
          go_wp2_with fail
          refine MAYK.out.mono ?_
          rintro e1 w1 ⟨rfl, rfl⟩
          go_wp2_with fail
          go_roundg (m - (i + 1))
          case rel => exact ⟨i + 1, _, os, rfl, by go_num, by omega, rfl, Hownt.out, HPS.out, Hok.out, by have := Hos.out; omega, hBt⟩
          case measure => have := Hk.out; omega
        · have HPS : Hid ((os ++ [(⟨kp, packCells kp (.slice f4 n4 q4) (.slice f5 n5 q5) (.slice f6 n6 q6) (.slice f7 n7 q7) (.slice f8 n8 q8) (.slice f9 n9 q9) (.slice f10 n10 q10) (.slice f11 n11 q11) fa fn fc⟩ : PackC)]).map PackC.pack = allP ks ws (i + 1)) := by
            show _ = _
            rw [allP_yes (by rw [Hq.out, hbt, hmk]; rfl), Hq.out, List.map_append, Hps.out]
            rfl
          have HOK : Hid (∀ o ∈ os ++ [(⟨kp, packCells kp (.slice f4 n4 q4) (.slice f5 n5 q5) (.slice f6 n6 q6) (.slice f7 n7 q7) (.slice f8 n8 q8) (.slice f9 n9 q9) (.slice f10 n10 q10) (.slice f11 n11 q11) fa fn fc⟩ : PackC)], PackCOk w0 o) := by
            intro o ho
            rcases List.mem_append.1 ho with h | h
            · exact Hok.out o h
            · rw [List.mem_singleton.1 h]
              exact HV.out.ok
          have hos2 : os.length ≤ m + i := Hos.out
          rw [hbt] at HOL
          have hmk' : (nextE s 3 == 0) = true := hmk
          rw [hmk'] at MAYK
          clear hbt hmk hmk'
          go_wp2_with (first
            | (refine wpList_load_mid (by rfl) 56 _ (by rfl) bp (op + i * 20) (by rfl) _ _ HR.out Tryz.underlying56 (by rfl) (by kernel_rfl) ?_)
            | (refine wpList_store_mid (by rfl) 56 _ _ (by rfl) wr.heap.size 0 #[.int .i64 s, .int .i64 e, .string u, .string r, .bool hd, .slice fw nw qw, .slice ft nt qt, .string kp.name, .int .i64 kp.ep, .string kp.up, .string kp.rv, .slice f4 n4 q4, .slice f5 n5 q5, .slice f6 n6 q6, .slice f7 n7 q7, .slice f8 n8 q8, .slice f9 n9 q9, .slice f10 n10 q10, .slice f11 n11 q11, .slice fa fn fc] (by rfl) (by rfl) (there_new _ _ _ _ (by rfl)) (by kernel_rfl) (by simp [Value.oneCell']) ?_; rw [setCells_new _ _ _ _ (by rfl)]; rw [show wr.alloc (.cells _ _) = wt from Hwt.out.symm]))
          refine HOL.out.mono ?_
          rintro e1 w1 ⟨rfl, rfl⟩
          go_wp2_with fail
          refine MAYK.out.mono ?_
          rintro e1 w1 ⟨rfl, rfl⟩
          go_wp2_with (first
            | (refine wpList_load_mid (by rfl) 30 _ (by rfl) wr.heap.size 7 (by rfl) _ _ HRk.out Tryz.underlying30 (by rfl) (by kernel_rfl) ?_)
            | (refine wpList_store_mid (by rfl) 30 _ _ (by rfl) wt.heap.size 0 #[.string kp.name, .int .i64 kp.ep, .string kp.up, .string kp.rv, .slice f4 n4 q4, .slice f5 n5 q5, .slice f6 n6 q6, .slice f7 n7 q7, .slice f8 n8 q8, .slice f9 n9 q9, .slice f10 n10 q10, .slice f11 n11 q11, .slice fa fn fc] (by rfl) (by rfl) (there_new _ _ _ _ (by rfl)) (by kernel_rfl) (by simp [Value.oneCell']) ?_; rw [setCells_new _ _ _ _ (by rfl)])
            | (at_builtin; refine wpList_append_own _ rfl _ _ 85 rfl w0.heap.size 30 i0 _ 13 272 Tryz.underlying85 Hi0.out.1 Hi0.out.2.1 Hi0.out.2.2.1 Hi0.out.2.2.2 rfl (by decide) ov os.length (packsRows os) rfl (Hownt.out.alloc _) ⟨wt.heap.size, 0, none⟩ 1 1 [.string kp.name, .int .i64 kp.ep, .string kp.up, .string kp.rv, .slice f4 n4 q4, .slice f5 n5 q5, .slice f6 n6 q6, .slice f7 n7 q7, .slice f8 n8 q8, .slice f9 n9 q9, .slice f10 n10 q10, .slice f11 n11 q11, .slice fa fn fc] rfl rfl (World.news_of_block (cs := #[.string kp.name, .int .i64 kp.ep, .string kp.up, .string kp.rv, .slice f4 n4 q4, .slice f5 n5 q5, .slice f6 n6 q6, .slice f7 n7 q7, .slice f8 n8 q8, .slice f9 n9 q9, .slice f10 n10 q10, .slice f11 n11 q11, .slice fa fn fc]) (t := 30) (fr := (0, 0)) (heap_alloc_new wt _)) (by simp [Value.oneCell']) (by unfold maxLen; omega) (by omega) (by simp; omega) ?_))
          intro v' w' hown1 hgrow _
          have hB1 : Below w0.heap.size w0 w' := (hBt.alloc hBt.size _).grown hgrow (by simp; have := hBt.size; omega) (fun k e => (Hownt.out.lt _ e).1)
          have Hown1 : Hid (w'.ownsRow w0.heap.size 30 13 v' (os ++ [(⟨kp, packCells kp (.slice f4 n4 q4) (.slice f5 n5 q5) (.slice f6 n6 q6) (.slice f7 n7 q7) (.slice f8 n8 q8) (.slice f9 n9 q9) (.slice f10 n10 q10) (.slice f11 n11 q11) fa fn fc⟩ : PackC)]).length (packsRows (os ++ [(⟨kp, packCells kp (.slice f4 n4 q4) (.slice f5 n5 q5) (.slice f6 n6 q6) (.slice f7 n7 q7) (.slice f8 n8 q8) (.slice f9 n9 q9) (.slice f10 n10 q10) (.slice f11 n11 q11) fa fn fc⟩ : PackC)]))) := by
            show World.ownsRow _ _ _ _ _ _ _
            rw [packsRows_snoc, List.length_append]
            exact hown1
          clear hown1 hgrow g0
          go_wp2_with fail
          go_roundg (m - (i + 1))
          case rel => exact ⟨i + 1, _, _, rfl, by go_num, by omega, rfl, Hown1.out, HPS.out, HOK.out, by simp; omega, hB1⟩
          case measure => have := Hk.out; omega
    · obtain rfl : m = i := by omega
      have HPk : Hid (Packs wr ov (allP ks ws m)) := by
        have := packs_owned Hown.out (fun o ho => (Hok.out o ho).below hB (Nat.le_refl _))
        rw [Hps.out] at this
        exact this
      have HMEM : ∀ q ∈ allP ks ws m, ∃ k ∈ ks, k.pack = q := by
        intro q hq
        unfold allP at hq
        rcases List.mem_append.1 hq with h | h
        · exact picks_mem (Nat.le_refl _) h
        · obtain ⟨i, hi, rfl⟩ := List.mem_map.1 h
          have := List.mem_range.1 (List.mem_filter.1 hi).1
          exact ⟨_, mem_getD _ (by rw [Hm.out]; exact this), rfl⟩
      have HV1 : Hid (∀ q ∈ allP ks ws m, q.up.size ≤ 1000 ∧ q.rv.size ≤ 1000) := by
        intro q hq
        obtain ⟨k, hk, rfl⟩ := HMEM q hq
        exact (HF.out.small k hk).sm
      have HV2 : Hid (∀ q ∈ allP ks ws m, ∀ t ∈ q.provides, SmallT t) := by
        intro q hq
        obtain ⟨k, hk, rfl⟩ := HMEM q hq
        exact (HF.out.small k hk).provides
      have HM : Hid (metR (oneP (allP ks ws m)) kw.pack.depends = metC ks kw ws) := by
        show _ = _
        unfold metC
        rw [← all_eq, Hm.out]
      have cd : wr.cell? ⟨bw, ow + jw * 20 + 11, none⟩ = some dw := (hB.cell (p := ⟨bw, ow + jw * 20 + 11, none⟩) hbw).trans Hcd.out
      clear HMEM Hown Hps Hok Hos Hk
      go_wp2_with fail
      refine (refMet_calls _ _ kw.pack.depends _ _ (HD.out.below hB (Nat.le_refl _)) HPk.out HV1.out HV2.out (HF.out.small _ Hkm.out).depends).mono ?_
      rintro e2 w2 ⟨rfl, hb2⟩
      have hB2 := hB.trans (hb2.mono hB.size)
      rw [HM.out]
      clear hb2 cd hB
      cases hok : (metC ks kw ws).2
      · have HJ : Hid (judgeC ks (jw : Int) ws = (7, (metC ks kw ws).1)) := by show _ = _; rw [HJ1.out, hok]; rfl
        have hrc := HRC.out.below hB2 (by rw [Hz.out]; omega)
        have c0 := hrc.c0
        have c1 := hrc.c1
        have z0 := hrc.z0
        have z1 := hrc.z1
        have hrl := hrc.lt
        have d0 := hrc.d0 (.int .i64 7)
        have d1 := hrc.d1 (.int .i64 7) (.int .i64 (metC ks kw ws).1)
        clear hrc
        go_wp2_with fail
        try simp only [Exit.inBlock, Exit.then]
        refine bodyPost_ret (by simp [results, Tryz.results11, go_sem, d0, d1]; try rfl) rfl ?_
        exact ⟨by rw [HJ.out], HB0.out.trans (((hB2.mono HB0.out.size).setCell (Nat.le_refl _) _).setCell (Nat.le_refl _) _)⟩
      · have HJ : Hid (judgeC ks (jw : Int) ws = (0, -1)) := by show _ = _; rw [HJ1.out, hok]; rfl
        have hfn := HN.out.below hB2 (Nat.le_refl _)
        have f0 := hfn.c0
        have f1 := hfn.c1
        have fl := hfn.lt
        clear hfn
        have hrc := HRC.out.below hB2 (by rw [Hz.out]; omega)
        have c0 := hrc.c0
        have c1 := hrc.c1
        have z0 := hrc.z0
        have z1 := hrc.z1
        have hrl := hrc.lt
        have d0 := hrc.d0 (.int .i64 0)
        have d1 := hrc.d1 (.int .i64 0) (.int .i64 (-1))
        clear hrc
        go_wp2_with fail
        try simp only [Exit.inBlock, Exit.then]
        refine bodyPost_ret (by simp [results, Tryz.results11, go_sem, d0, d1]; try rfl) rfl ?_
        exact ⟨by rw [HJ.out], HB0.out.trans (((hB2.mono HB0.out.size).setCell (Nat.le_refl _) _).setCell (Nat.le_refl _) _)⟩
end Go.Proofs.YtnfnebfioibndaaGreatDoor
