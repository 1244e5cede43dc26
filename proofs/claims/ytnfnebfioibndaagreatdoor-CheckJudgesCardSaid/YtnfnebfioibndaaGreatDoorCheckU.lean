/- stevedoreref.CheckUnpack: what it says is judgeU. -/
import Derived.Test.YtnfnebfioibndaaGreatDoorFit
namespace Go.Proofs.YtnfnebfioibndaaGreatDoor
open Go.RowKit
set_option maxRecDepth 100000
set_option maxHeartbeats 4000000

theorem checkUnpackRef_calls (kv : Value) (ks : List KnownD) (p : PackD) (dv av gv bv rv pv sv lv : Value) (pa : Option Addr) (pn pc : Nat) (w : World) (hK : Knowns w kv ks) (hP : PackV w p dv av gv bv rv pv sv lv pa pn pc) (hF : FitK ks) (hS : SmallP p) (hN : FineR w) :
    Calls Tryz.prog 9 #[kv, .agg #[.string p.name, .int .i64 p.ep, .string p.up, .string p.rv, dv, av, gv, bv, rv, pv, sv, lv, .slice pa pn pc]] w fun e w' => e = .returned (.agg #[.int .i64 (judgeU ks p).1, .int .i64 (judgeU ks p).2]) ∧ Below w.heap.size w w' := by
  obtain ⟨w0, hw0⟩ : ∃ w0 : World, w0 = (w.alloc (.cells #[.string p.name, .int .i64 p.ep, .string p.up, .string p.rv, dv, av, gv, bv, rv, pv, sv, lv, .slice pa pn pc] 30)).alloc (.cells #[.int .i64 0, .int .i64 0] 42) := ⟨_, rfl⟩
  have hB0 : Below w.heap.size w w0 := by rw [hw0]; go_grown
  have hz0 : w0.heap.size = w.heap.size + 2 := by rw [hw0]; simp
  have hPB : w0.rangeAt w.heap.size 0 [.string p.name, .int .i64 p.ep, .string p.up, .string p.rv, dv, av, gv, bv, rv, pv, sv, lv, .slice pa pn pc] := by rw [hw0]; exact rangeAt_below (rangeAt_new w [.string p.name, .int .i64 p.ep, .string p.up, .string p.rv, dv, av, gv, bv, rv, pv, sv, lv, .slice pa pn pc] _) ((Below.refl (w.heap.size + 1) _).alloc (by simp) _) (Nat.lt_succ_self _)
  have hRC : ResC w0 (w.heap.size + 1) := by
    have e : (w.alloc (.cells #[.string p.name, .int .i64 p.ep, .string p.up, .string p.rv, dv, av, gv, bv, rv, pv, sv, lv, .slice pa pn pc] 30)).heap.size = w.heap.size + 1 := by simp
    rw [hw0, ← e]
    exact ResC.new _
  have HK0 := Lib.hid (hK.below hB0 (Nat.le_refl _))
  have hK0 := HK0.out
  have hV0 := hP.below hB0 (Nat.le_refl _)
  have hN0 := hN.below hB0 (Nat.le_refl _)
  obtain ⟨R, ⟨a, cap, rfl, hcap, hmax, hcell⟩, hO⟩ := hK0
  unfold maxLen at hmax
  obtain ⟨i0, hi0, hz0', hz1, hz2⟩ := info_parts info_int
  have Hcell := Lib.hid hcell
  have HO := Lib.hid hO
  obtain ⟨m, hm⟩ : ∃ m, ks.length = m := ⟨_, rfl⟩
  have hm20 := hF.len
  rw [hm] at hcap Hcell HO hm20 ⊢
  have HPB := Lib.hid hPB
  have HRC := Lib.hid hRC
  have HP := Lib.hid hV0
  have HK : Hid (Knowns w0 (.slice a m cap) ks) := by have := HK0; rwa [hm] at this
  have HN := Lib.hid hN0
  have HF := Lib.hid hF
  have HS := Lib.hid hS
  have Hm := Lib.hid hm
  have Hw := Lib.hid hw0
  have Hz := Lib.hid hz0
  have HB0 := Lib.hid hB0
  have Hi0 := Lib.hid (And.intro hi0 (And.intro hz0' (And.intro hz1 hz2)))
  clear hcell hO hm hi0 hz0' hz1 hz2 hPB hRC hV0 HK0 hN0 hF hS hw0 hz0 hB0 hP hN
  go_enter Tryz.func9, Tryz.ntmps9
  go_wp2_with fail
  rw [← Hw.out]
  go_wp2_with fail
  go_loopg [16] m (fun k v16 wr => ∃ i : Nat, v16 = .int .i64 i ∧ i ≤ m ∧ k = m - i ∧ (ks.take i).any (fun k => nameB k p.name && k.held) = false ∧ Below w0.heap.size w0 wr)
  case atStart => exact ⟨0, rfl, Nat.zero_le _, rfl, rfl, Below.refl _ _⟩
  case round =>
    obtain ⟨i, rfl, hi, hk, hall, hB⟩ := hrel
    have Hk := Lib.hid hk
    have Hall := Lib.hid hall
    clear hk hall
    by_cases hlt : i < m
    · obtain ⟨bp, op, rfl, hbp, hcp⟩ := Hcell.out.resolve_left (by omega)
      obtain ⟨q, hq⟩ : ∃ q, ks.getD i KnownD.none = q := ⟨_, rfl⟩
      have hkn := HO.out i hlt
      have hmem : ks.getD i KnownD.none ∈ ks := mem_getD _ (by rw [Hm.out]; exact hlt)
      rw [hq] at hkn hmem
      have HR0 : wr.rangeAt bp (op + i * 20) (row20 (R i)) := rangeAt_row20 fun j hj => (hB.cell (p := ⟨bp, op + i * 20 + j, none⟩) hbp).trans (hcp i j hlt hj)
      obtain ⟨s, e, u, r, hd, wl, tl, kp⟩ := q
      cases hnm : (kp.name.toList == p.name.toList)
      · obtain ⟨fw, nw, qw, ft, nt, qt, f4, n4, q4, f5, n5, q5, f6, n6, q6, f7, n7, q7, f8, n8, q8, f9, n9, q9, f10, n10, q10, f11, n11, q11, fa, fn, fc, eR, hV, -, -⟩ := hkn.cells
        dsimp only at eR hV
        rw [eR] at HR0
        have HR := Lib.hid HR0
        have HV := Lib.hid hV
        have Hq := Lib.hid hq
        have Hmem := Lib.hid hmem
        have hsz := hB.size
        clear HR0 eR hV hkn hcp hq hmem
        obtain ⟨wt, hwt⟩ : ∃ wt : World, wt = wr.alloc (.cells #[.int .i64 s, .int .i64 e, .string u, .string r, .bool hd, .slice fw nw qw, .slice ft nt qt, .string kp.name, .int .i64 kp.ep, .string kp.up, .string kp.rv, .slice f4 n4 q4, .slice f5 n5 q5, .slice f6 n6 q6, .slice f7 n7 q7, .slice f8 n8 q8, .slice f9 n9 q9, .slice f10 n10 q10, .slice f11 n11 q11, .slice fa fn fc] 56) := ⟨_, rfl⟩
        have hBr : Below wr.heap.size wr wt := by rw [hwt]; exact (Below.refl _ _).alloc (Nat.le_refl _) _
        have hBt : Below w0.heap.size w0 wt := by rw [hwt]; exact hB.alloc hB.size _
        have hzt : wt.heap.size = wr.heap.size + 1 := by rw [hwt]; simp
        have hRn : wt.rangeAt wr.heap.size 0 [.int .i64 s, .int .i64 e, .string u, .string r, .bool hd, .slice fw nw qw, .slice ft nt qt, .string kp.name, .int .i64 kp.ep, .string kp.up, .string kp.rv, .slice f4 n4 q4, .slice f5 n5 q5, .slice f6 n6 q6, .slice f7 n7 q7, .slice f8 n8 q8, .slice f9 n9 q9, .slice f10 n10 q10, .slice f11 n11 q11, .slice fa fn fc] := by rw [hwt]; exact rangeAt_new _ _ _
        have HRn := Lib.hid hRn
        have hlt2 : wr.heap.size < wt.heap.size := by omega
        have Hwt := Lib.hid hwt
        have Hzt := Lib.hid hzt
        have hsz2 : w0.heap.size ≤ wt.heap.size := hBt.size
        clear hzt hwt hRn hBr
        have g4 : wt.cell? ⟨wr.heap.size, 4, none⟩ = some (.bool hd) := HRn.out 4 _ rfl
        have g7 : wt.cell? ⟨wr.heap.size, 7, none⟩ = some (.string kp.name) := HRn.out 7 _ rfl
        have hbt1 : w.heap.size < w0.heap.size := by rw [Hz.out]; omega
        have p0 : wt.cell? ⟨w.heap.size, 0, none⟩ = some (.string p.name) := rangeAt_below HPB.out hBt hbt1 0 _ rfl
        have HA : Hid ((ks.take (i + 1)).any (fun k => nameB k p.name && k.held) = false) := by
          show _ = _
          rw [take_snoc KnownD.none (by rw [Hm.out]; exact hlt), List.any_append, Hall.out, Hq.out]
          simp [nameB, hnm]
        go_wp2_with (first
          | (refine wpList_load_mid (by rfl) 56 _ (by rfl) bp (op + i * 20) (by rfl) _ _ HR.out Tryz.underlying56 (by rfl) (by kernel_rfl) ?_)
          | (refine wpList_store_mid (by rfl) 56 _ _ (by rfl) wr.heap.size 0 #[.int .i64 s, .int .i64 e, .string u, .string r, .bool hd, .slice fw nw qw, .slice ft nt qt, .string kp.name, .int .i64 kp.ep, .string kp.up, .string kp.rv, .slice f4 n4 q4, .slice f5 n5 q5, .slice f6 n6 q6, .slice f7 n7 q7, .slice f8 n8 q8, .slice f9 n9 q9, .slice f10 n10 q10, .slice f11 n11 q11, .slice fa fn fc] (by rfl) (by rfl) (there_new _ _ _ _ (by rfl)) (by kernel_rfl) (by simp [Value.oneCell']) ?_; rw [setCells_new _ _ _ _ (by rfl)]; rw [show wr.alloc (.cells _ _) = wt from Hwt.out.symm]))
        go_roundg (m - (i + 1))
        case rel => exact ⟨i + 1, by go_num, by omega, rfl, HA.out, hBt⟩
        case measure => have := Hk.out; omega
      · cases hd
        · obtain ⟨fw, nw, qw, ft, nt, qt, f4, n4, q4, f5, n5, q5, f6, n6, q6, f7, n7, q7, f8, n8, q8, f9, n9, q9, f10, n10, q10, f11, n11, q11, fa, fn, fc, eR, hV, -, -⟩ := hkn.cells
          dsimp only at eR hV
          rw [eR] at HR0
          have HR := Lib.hid HR0
          have HV := Lib.hid hV
          have Hq := Lib.hid hq
          have Hmem := Lib.hid hmem
          have hsz := hB.size
          clear HR0 eR hV hkn hcp hq hmem
          obtain ⟨wt, hwt⟩ : ∃ wt : World, wt = wr.alloc (.cells #[.int .i64 s, .int .i64 e, .string u, .string r, .bool false, .slice fw nw qw, .slice ft nt qt, .string kp.name, .int .i64 kp.ep, .string kp.up, .string kp.rv, .slice f4 n4 q4, .slice f5 n5 q5, .slice f6 n6 q6, .slice f7 n7 q7, .slice f8 n8 q8, .slice f9 n9 q9, .slice f10 n10 q10, .slice f11 n11 q11, .slice fa fn fc] 56) := ⟨_, rfl⟩
          have hBr : Below wr.heap.size wr wt := by rw [hwt]; exact (Below.refl _ _).alloc (Nat.le_refl _) _
          have hBt : Below w0.heap.size w0 wt := by rw [hwt]; exact hB.alloc hB.size _
          have hzt : wt.heap.size = wr.heap.size + 1 := by rw [hwt]; simp
          have hRn : wt.rangeAt wr.heap.size 0 [.int .i64 s, .int .i64 e, .string u, .string r, .bool false, .slice fw nw qw, .slice ft nt qt, .string kp.name, .int .i64 kp.ep, .string kp.up, .string kp.rv, .slice f4 n4 q4, .slice f5 n5 q5, .slice f6 n6 q6, .slice f7 n7 q7, .slice f8 n8 q8, .slice f9 n9 q9, .slice f10 n10 q10, .slice f11 n11 q11, .slice fa fn fc] := by rw [hwt]; exact rangeAt_new _ _ _
          have HRn := Lib.hid hRn
          have hlt2 : wr.heap.size < wt.heap.size := by omega
          have Hwt := Lib.hid hwt
          have Hzt := Lib.hid hzt
          have hsz2 : w0.heap.size ≤ wt.heap.size := hBt.size
          clear hzt hwt hRn hBr
          have g4 : wt.cell? ⟨wr.heap.size, 4, none⟩ = some (.bool false) := HRn.out 4 _ rfl
          have g7 : wt.cell? ⟨wr.heap.size, 7, none⟩ = some (.string kp.name) := HRn.out 7 _ rfl
          have hbt1 : w.heap.size < w0.heap.size := by rw [Hz.out]; omega
          have p0 : wt.cell? ⟨w.heap.size, 0, none⟩ = some (.string p.name) := rangeAt_below HPB.out hBt hbt1 0 _ rfl
          have HA : Hid ((ks.take (i + 1)).any (fun k => nameB k p.name && k.held) = false) := by
            show _ = _
            rw [take_snoc KnownD.none (by rw [Hm.out]; exact hlt), List.any_append, Hall.out, Hq.out]
            simp [nameB, hnm]
          go_wp2_with (first
            | (refine wpList_load_mid (by rfl) 56 _ (by rfl) bp (op + i * 20) (by rfl) _ _ HR.out Tryz.underlying56 (by rfl) (by kernel_rfl) ?_)
            | (refine wpList_store_mid (by rfl) 56 _ _ (by rfl) wr.heap.size 0 #[.int .i64 s, .int .i64 e, .string u, .string r, .bool false, .slice fw nw qw, .slice ft nt qt, .string kp.name, .int .i64 kp.ep, .string kp.up, .string kp.rv, .slice f4 n4 q4, .slice f5 n5 q5, .slice f6 n6 q6, .slice f7 n7 q7, .slice f8 n8 q8, .slice f9 n9 q9, .slice f10 n10 q10, .slice f11 n11 q11, .slice fa fn fc] (by rfl) (by rfl) (there_new _ _ _ _ (by rfl)) (by kernel_rfl) (by simp [Value.oneCell']) ?_; rw [setCells_new _ _ _ _ (by rfl)]; rw [show wr.alloc (.cells _ _) = wt from Hwt.out.symm]))
          go_roundg (m - (i + 1))
          case rel => exact ⟨i + 1, by go_num, by omega, rfl, HA.out, hBt⟩
          case measure => have := Hk.out; omega
        · obtain ⟨fw, nw, qw, ft, nt, qt, f4, n4, q4, f5, n5, q5, f6, n6, q6, f7, n7, q7, f8, n8, q8, f9, n9, q9, f10, n10, q10, f11, n11, q11, fa, fn, fc, eR, hV, -, -⟩ := hkn.cells
          dsimp only at eR hV
          rw [eR] at HR0
          have HR := Lib.hid HR0
          have HV := Lib.hid hV
          have Hq := Lib.hid hq
          have Hmem := Lib.hid hmem
          have hsz := hB.size
          clear HR0 eR hV hkn hcp hq hmem
          obtain ⟨wt, hwt⟩ : ∃ wt : World, wt = wr.alloc (.cells #[.int .i64 s, .int .i64 e, .string u, .string r, .bool true, .slice fw nw qw, .slice ft nt qt, .string kp.name, .int .i64 kp.ep, .string kp.up, .string kp.rv, .slice f4 n4 q4, .slice f5 n5 q5, .slice f6 n6 q6, .slice f7 n7 q7, .slice f8 n8 q8, .slice f9 n9 q9, .slice f10 n10 q10, .slice f11 n11 q11, .slice fa fn fc] 56) := ⟨_, rfl⟩
          have hBr : Below wr.heap.size wr wt := by rw [hwt]; exact (Below.refl _ _).alloc (Nat.le_refl _) _
          have hBt : Below w0.heap.size w0 wt := by rw [hwt]; exact hB.alloc hB.size _
          have hzt : wt.heap.size = wr.heap.size + 1 := by rw [hwt]; simp
          have hRn : wt.rangeAt wr.heap.size 0 [.int .i64 s, .int .i64 e, .string u, .string r, .bool true, .slice fw nw qw, .slice ft nt qt, .string kp.name, .int .i64 kp.ep, .string kp.up, .string kp.rv, .slice f4 n4 q4, .slice f5 n5 q5, .slice f6 n6 q6, .slice f7 n7 q7, .slice f8 n8 q8, .slice f9 n9 q9, .slice f10 n10 q10, .slice f11 n11 q11, .slice fa fn fc] := by rw [hwt]; exact rangeAt_new _ _ _
          have HRn := Lib.hid hRn
          have hlt2 : wr.heap.size < wt.heap.size := by omega
          have Hwt := Lib.hid hwt
          have Hzt := Lib.hid hzt
          have hsz2 : w0.heap.size ≤ wt.heap.size := hBt.size
          clear hzt hwt hRn hBr
          have g4 : wt.cell? ⟨wr.heap.size, 4, none⟩ = some (.bool true) := HRn.out 4 _ rfl
          have g7 : wt.cell? ⟨wr.heap.size, 7, none⟩ = some (.string kp.name) := HRn.out 7 _ rfl
          have hbt1 : w.heap.size < w0.heap.size := by rw [Hz.out]; omega
          have p0 : wt.cell? ⟨w.heap.size, 0, none⟩ = some (.string p.name) := rangeAt_below HPB.out hBt hbt1 0 _ rfl
          have HJ : Hid (judgeU ks p = (6, -1)) := by
            show _ = _
            have : ks.any (fun k => nameB k p.name && k.held) = true := by
              rw [List.any_eq_true]
              exact ⟨_, Hmem.out, by unfold nameB; rw [hnm]; rfl⟩
            unfold judgeU
            rw [if_pos this]
          have HRt := Lib.hid (HRC.out.below hBt (by rw [Hz.out]; omega))
          go_wp2_with (first
            | (refine wpList_load_mid (by rfl) 56 _ (by rfl) bp (op + i * 20) (by rfl) _ _ HR.out Tryz.underlying56 (by rfl) (by kernel_rfl) ?_)
            | (refine wpList_store_mid (by rfl) 56 _ _ (by rfl) wr.heap.size 0 #[.int .i64 s, .int .i64 e, .string u, .string r, .bool true, .slice fw nw qw, .slice ft nt qt, .string kp.name, .int .i64 kp.ep, .string kp.up, .string kp.rv, .slice f4 n4 q4, .slice f5 n5 q5, .slice f6 n6 q6, .slice f7 n7 q7, .slice f8 n8 q8, .slice f9 n9 q9, .slice f10 n10 q10, .slice f11 n11 q11, .slice fa fn fc] (by rfl) (by rfl) (there_new _ _ _ _ (by rfl)) (by kernel_rfl) (by simp [Value.oneCell']) ?_; rw [setCells_new _ _ _ _ (by rfl)]; rw [show wr.alloc (.cells _ _) = wt from Hwt.out.symm]))
          refine (refBare_calls 6 _).mono ?_
          rintro e1 w1 ⟨rfl, hb1⟩
          have hB1 := hBt.trans (hb1.mono hsz2)
          have hrc := HRt.out.below hb1 HRt.out.lt
          have c0 := hrc.c0
          have c1 := hrc.c1
          have z0 := hrc.z0
          have z1 := hrc.z1
          have hrl := hrc.lt
          have d0 := hrc.d0 (.int .i64 6)
          have d1 := hrc.d1 (.int .i64 6) (.int .i64 (-1))
          clear hb1 hrc g4 g7 p0
          go_wp2_with fail
          try simp only [Exit.inBlock, Exit.then]
          refine bodyPost_ret (by simp [results, Tryz.results9, go_sem, d0, d1]; try rfl) rfl ?_
          exact ⟨by rw [HJ.out], HB0.out.trans (((hB1.mono HB0.out.size).setCell (Nat.le_succ _) _).setCell (Nat.le_succ _) _)⟩
    · have HA0 : Hid (ks.any (fun k => nameB k p.name && k.held) = false) := by
        have := Hall.out
        rwa [List.take_of_length_le (by rw [Hm.out]; omega)] at this
      clear Hall Hk hi
      obtain ⟨wm, rfl⟩ : ∃ wm : World, wm = wr := ⟨_, rfl⟩
      have HBm := Lib.hid hB
      go_wp2_with fail
      go_loopg [7, 35] m (fun k v7 v35 wr => ∃ (i : Nat) (ov : Value), ov = v7 ∧ v35 = .int .i64 i ∧ i ≤ m ∧ k = m - i ∧ wr.ownsRow w0.heap.size 3 1 ov (sameL ks p.name i).length ((sameL ks p.name i).map (Value.int .i64)) ∧ Below w0.heap.size w0 wr)
      case atStart => exact ⟨0, _, rfl, rfl, Nat.zero_le _, rfl, World.ownsRow_nil _ _ _ _, hB⟩
      case round =>
        clear hB
        clear hlt
        clear HBm
        obtain ⟨i, ov, rfl, rfl, hi, hk, hown, hB⟩ := hrel
        have Hk := Lib.hid hk
        have Hown := Lib.hid hown
        clear hk hown
        by_cases hlt : i < m
        · obtain ⟨bp, op, rfl, hbp, hcp⟩ := Hcell.out.resolve_left (by omega)
          obtain ⟨q, hq⟩ : ∃ q, ks.getD i KnownD.none = q := ⟨_, rfl⟩
          have hkn := HO.out i hlt
          have hmem : ks.getD i KnownD.none ∈ ks := mem_getD _ (by rw [Hm.out]; exact hlt)
          rw [hq] at hkn hmem
          have HR0 : wr.rangeAt bp (op + i * 20) (row20 (R i)) := rangeAt_row20 fun j hj => (hB.cell (p := ⟨bp, op + i * 20 + j, none⟩) hbp).trans (hcp i j hlt hj)
          obtain ⟨s, e, u, r, hd, wl, tl, kp⟩ := q
          obtain ⟨fw, nw, qw, ft, nt, qt, f4, n4, q4, f5, n5, q5, f6, n6, q6, f7, n7, q7, f8, n8, q8, f9, n9, q9, f10, n10, q10, f11, n11, q11, fa, fn, fc, eR, hV, -, -⟩ := hkn.cells
          dsimp only at eR hV
          rw [eR] at HR0
          have HR := Lib.hid HR0
          have HV := Lib.hid hV
          have Hq := Lib.hid hq
          have Hmem := Lib.hid hmem
          have hsz := hB.size
          clear HR0 eR hV hkn hcp hq hmem
          obtain ⟨wt, hwt⟩ : ∃ wt : World, wt = wr.alloc (.cells #[.int .i64 s, .int .i64 e, .string u, .string r, .bool hd, .slice fw nw qw, .slice ft nt qt, .string kp.name, .int .i64 kp.ep, .string kp.up, .string kp.rv, .slice f4 n4 q4, .slice f5 n5 q5, .slice f6 n6 q6, .slice f7 n7 q7, .slice f8 n8 q8, .slice f9 n9 q9, .slice f10 n10 q10, .slice f11 n11 q11, .slice fa fn fc] 56) := ⟨_, rfl⟩
          have hBr : Below wr.heap.size wr wt := by rw [hwt]; exact (Below.refl _ _).alloc (Nat.le_refl _) _
          have hBt : Below w0.heap.size w0 wt := by rw [hwt]; exact hB.alloc hB.size _
          have hzt : wt.heap.size = wr.heap.size + 1 := by rw [hwt]; simp
          have hRn : wt.rangeAt wr.heap.size 0 [.int .i64 s, .int .i64 e, .string u, .string r, .bool hd, .slice fw nw qw, .slice ft nt qt, .string kp.name, .int .i64 kp.ep, .string kp.up, .string kp.rv, .slice f4 n4 q4, .slice f5 n5 q5, .slice f6 n6 q6, .slice f7 n7 q7, .slice f8 n8 q8, .slice f9 n9 q9, .slice f10 n10 q10, .slice f11 n11 q11, .slice fa fn fc] := by rw [hwt]; exact rangeAt_new _ _ _
          have HRn := Lib.hid hRn
          have hlt2 : wr.heap.size < wt.heap.size := by omega
          have Hwt := Lib.hid hwt
          have Hzt := Lib.hid hzt
          have hsz2 : w0.heap.size ≤ wt.heap.size := hBt.size
          clear hzt hwt hRn hBr
          have g7 : wt.cell? ⟨wr.heap.size, 7, none⟩ = some (.string kp.name) := HRn.out 7 _ rfl
          have hbt1 : w.heap.size < w0.heap.size := by rw [Hz.out]; omega
          have p0 : wt.cell? ⟨w.heap.size, 0, none⟩ = some (.string p.name) := rangeAt_below HPB.out hBt hbt1 0 _ rfl
          have Hownt : Hid (wt.ownsRow w0.heap.size 3 1 ov (sameL ks p.name i).length ((sameL ks p.name i).map (Value.int .i64))) := by
            show World.ownsRow _ _ _ _ _ _ _
            rw [Hwt.out]
            exact Hown.out.alloc _
          cases hnm : (kp.name.toList == p.name.toList)
          · have hsl : sameL ks p.name (i + 1) = sameL ks p.name i := sameL_no (by rw [Hq.out]; exact hnm)
            have HSL : Hid (wt.ownsRow w0.heap.size 3 1 ov (sameL ks p.name (i + 1)).length ((sameL ks p.name (i + 1)).map (Value.int .i64))) := by
              show World.ownsRow _ _ _ _ _ _ _
              rw [hsl]
              exact Hownt.out
            clear hsl
            go_wp2_with (first
              | (refine wpList_load_mid (by rfl) 56 _ (by rfl) bp (op + i * 20) (by rfl) _ _ HR.out Tryz.underlying56 (by rfl) (by kernel_rfl) ?_)
              | (refine wpList_store_mid (by rfl) 56 _ _ (by rfl) wr.heap.size 0 #[.int .i64 s, .int .i64 e, .string u, .string r, .bool hd, .slice fw nw qw, .slice ft nt qt, .string kp.name, .int .i64 kp.ep, .string kp.up, .string kp.rv, .slice f4 n4 q4, .slice f5 n5 q5, .slice f6 n6 q6, .slice f7 n7 q7, .slice f8 n8 q8, .slice f9 n9 q9, .slice f10 n10 q10, .slice f11 n11 q11, .slice fa fn fc] (by rfl) (by rfl) (there_new _ _ _ _ (by rfl)) (by kernel_rfl) (by simp [Value.oneCell']) ?_; rw [setCells_new _ _ _ _ (by rfl)]; rw [show wr.alloc (.cells _ _) = wt from Hwt.out.symm]))
            go_roundg (m - (i + 1))
            case rel => exact ⟨i + 1, _, rfl, by go_num, by omega, rfl, HSL.out, hBt⟩
            case measure => have := Hk.out; omega
          · have HSL : Hid (sameL ks p.name (i + 1) = sameL ks p.name i ++ [(i : Int)]) := sameL_yes (by rw [Hq.out]; exact hnm)
            have HSz : Hid ((sameL ks p.name i).length ≤ i) := by
              show _ ≤ _
              unfold sameL
              rw [List.length_map]
              exact Nat.le_trans (List.length_filter_le _ _) (by simp)
            have hsl := HSz.out
            go_wp2_with (first
              | (refine wpList_load_mid (by rfl) 56 _ (by rfl) bp (op + i * 20) (by rfl) _ _ HR.out Tryz.underlying56 (by rfl) (by kernel_rfl) ?_)
              | (refine wpList_store_mid (by rfl) 56 _ _ (by rfl) wr.heap.size 0 #[.int .i64 s, .int .i64 e, .string u, .string r, .bool hd, .slice fw nw qw, .slice ft nt qt, .string kp.name, .int .i64 kp.ep, .string kp.up, .string kp.rv, .slice f4 n4 q4, .slice f5 n5 q5, .slice f6 n6 q6, .slice f7 n7 q7, .slice f8 n8 q8, .slice f9 n9 q9, .slice f10 n10 q10, .slice f11 n11 q11, .slice fa fn fc] (by rfl) (by rfl) (there_new _ _ _ _ (by rfl)) (by kernel_rfl) (by simp [Value.oneCell']) ?_; rw [setCells_new _ _ _ _ (by rfl)]; rw [show wr.alloc (.cells _ _) = wt from Hwt.out.symm])
              | (at_builtin; refine wpList_append_own _ rfl _ _ 31 rfl w0.heap.size 3 i0 _ 1 8 Tryz.underlying31 Hi0.out.1 Hi0.out.2.1 Hi0.out.2.2.1 Hi0.out.2.2.2 rfl (by decide) ov (sameL ks p.name i).length ((sameL ks p.name i).map (Value.int .i64)) rfl (Hownt.out.alloc _) ⟨wt.heap.size, 0, none⟩ 1 1 [.int .i64 i] rfl rfl (World.news_of_block (cs := #[.int .i64 i]) (t := 3) (fr := (0, 0)) (heap_alloc_new wt _)) (by simp [Value.oneCell']) (by unfold maxLen; omega) (by omega) (by simp; omega) ?_))
            intro v' w' hown1 hgrow _
            have hB1 : Below w0.heap.size w0 w' := (hBt.alloc hBt.size _).grown hgrow (by simp; have := hBt.size; omega) (fun k e => (Hownt.out.lt _ e).1)
            have Hown1 : Hid (w'.ownsRow w0.heap.size 3 1 v' (sameL ks p.name (i + 1)).length ((sameL ks p.name (i + 1)).map (Value.int .i64))) := by
              show World.ownsRow _ _ _ _ _ _ _
              rw [HSL.out, List.length_append, List.map_append]
              exact hown1
            clear hown1 hgrow g7 p0
            go_wp2_with fail
            go_roundg (m - (i + 1))
            case rel => exact ⟨i + 1, _, rfl, by go_num, by omega, rfl, Hown1.out, hB1⟩
            case measure => have := Hk.out; omega
        · obtain rfl : m = i := by omega
          clear Hk hi hlt
          have HI : Hid (Ints wr ov (sameL ks p.name m)) := ints_owned Hown.out
          clear Hown
          obtain ⟨wm2, rfl⟩ : ∃ wm2 : World, wm2 = wr := ⟨_, rfl⟩
          have CW : Hid (Calls Tryz.prog 33 #[.slice a m cap, ov] wm2 (WorkingR wm2 ks (sameL ks p.name m))) := working_calls _ _ _ _ _ (HK.out.below hB (Nat.le_refl _)) HI.out (by rw [Hm.out]; exact hm20)
          have CW2 : Hid (Calls Tryz.prog 33 #[.slice a m cap, ov] wm2.drew (WorkingR wm2.drew ks (sameL ks p.name m))) := working_calls _ _ _ _ _ (HK.out.below hB.drew (Nat.le_refl _)) (HI.out.below (Below.refl _ _).drew (Nat.le_refl _)) (by rw [Hm.out]; exact hm20)
          have hbt1 : w.heap.size < w0.heap.size := by rw [Hz.out]; omega
          have p5 : wm2.cell? ⟨w.heap.size, 5, none⟩ = some av := rangeAt_below HPB.out hB hbt1 5 _ rfl
          go_upto_region 14 with fail
          go_cut [10, 11] (fun v10 v11 wx => v10 = .int .i64 (metU ks p).1 ∧ v11 = .bool (metU ks p).2 ∧ Below w0.heap.size w0 wx)
          case first =>
            have HV1 : Hid (∀ q ∈ picksW ks (sameL ks p.name m) ks.length, q.up.size ≤ 1000 ∧ q.rv.size ≤ 1000) := by
              intro q hq
              obtain ⟨k, hk, rfl⟩ := picks_mem (Nat.le_refl _) hq
              exact (HF.out.small k hk).sm
            have HV2 : Hid (∀ q ∈ picksW ks (sameL ks p.name m) ks.length, ∀ t ∈ q.provides, SmallT t) := by
              intro q hq
              obtain ⟨k, hk, rfl⟩ := picks_mem (Nat.le_refl _) hq
              exact (HF.out.small k hk).provides
            have HM : Hid (metR (oneP (picksW ks (sameL ks p.name m) ks.length)) p.ahead = metU ks p) := by
              show _ = _
              unfold metU
              rw [← others_eq, Hm.out]
            have p5d : wm2.drew.cell? ⟨w.heap.size, 5, none⟩ = some av := p5
            have hBd := hB.drew
            have hzd : w0.heap.size ≤ wm2.drew.heap.size := hBd.size
            go_region_with (first
              | (go_at_call 33; refine CW2.out.mono ?_; rintro e w1 ⟨ov2, os, rfl, hown, hps, hok, hln, hb⟩; have p5b : w1.cell? ⟨w.heap.size, 5, none⟩ = some av := (hb.cell (p := ⟨w.heap.size, 5, none⟩) (Nat.lt_of_lt_of_le hbt1 hzd)).trans p5d; have hPk := Lib.hid (working_packs hown hps hok hb); have hB1 := hBd.trans (hb.mono hzd); clear hown hps hok hln hb)
              | (go_at_call 32; refine (refMet_calls _ _ p.ahead _ _ (HP.out.ahead.below hB1 (Nat.le_refl _)) hPk.out HV1.out HV2.out HS.out.ahead).mono ?_; rintro e w2 ⟨rfl, hb2⟩; have hB2 := hB1.trans (hb2.mono hB1.size); rw [HM.out]))
            all_goals (go_wp2_with fail)
            all_goals go_meet
            all_goals exact ⟨rfl, rfl, hB2⟩
          case rest =>
            clear CW CW2 p5 HI hB
            obtain ⟨rfl, rfl, hB⟩ := hcut
            obtain ⟨wm3, rfl⟩ : ∃ wm3 : World, wm3 = wc := ⟨_, rfl⟩
            cases hok : (metU ks p).2
            · have HJ : Hid (judgeU ks p = (7, (metU ks p).1)) := by
                show _ = _
                unfold judgeU
                rw [if_neg (by rw [HA0.out]; exact Bool.false_ne_true), hok, if_neg Bool.false_ne_true]
              have hrc := HRC.out.below hB (by rw [Hz.out]; omega)
              have c0 := hrc.c0
              have c1 := hrc.c1
              have z0 := hrc.z0
              have z1 := hrc.z1
              have hrl := hrc.lt
              have d0 := hrc.d0 (.int .i64 7)
              have d1 := hrc.d1 (.int .i64 7) (.int .i64 (metU ks p).1)
              clear hrc
              go_wp2_with fail
              try simp only [Exit.inBlock, Exit.then]
              refine bodyPost_ret (by simp [results, Tryz.results9, go_sem, d0, d1]; try rfl) rfl ?_
              exact ⟨by rw [HJ.out], HB0.out.trans (((hB.mono HB0.out.size).setCell (Nat.le_succ _) _).setCell (Nat.le_succ _) _)⟩
            · have HJ : Hid (judgeU ks p = firstU p ks 0) := by
                show _ = _
                unfold judgeU
                rw [if_neg (by rw [HA0.out]; exact Bool.false_ne_true), hok, if_pos rfl]
              have Hok := Lib.hid hok
              clear hok
              have HBm := Lib.hid hB
              go_wp2_with fail
              go_loopg [66] m (fun k v66 wr => ∃ i : Nat, v66 = .int .i64 i ∧ i ≤ m ∧ k = m - i ∧ firstU p ks 0 = firstU p (ks.drop i) i ∧ Below w0.heap.size w0 wr)
              case atStart => exact ⟨0, rfl, Nat.zero_le _, rfl, rfl, hB⟩
              case round =>
                clear hB
                obtain ⟨i, rfl, hi, hk, hfs, hB⟩ := hrel
                have Hk := Lib.hid hk
                have Hfs := Lib.hid hfs
                clear hk hfs
                by_cases hlt : i < m
                · obtain ⟨bp, op, rfl, hbp, hcp⟩ := Hcell.out.resolve_left (by omega)
                  obtain ⟨q, hq⟩ : ∃ q, ks.getD i KnownD.none = q := ⟨_, rfl⟩
                  have hkn := HO.out i hlt
                  have hmem : ks.getD i KnownD.none ∈ ks := mem_getD _ (by rw [Hm.out]; exact hlt)
                  rw [hq] at hkn hmem
                  have HR0 : wr.rangeAt bp (op + i * 20) (row20 (R i)) := rangeAt_row20 fun j hj => (hB.cell (p := ⟨bp, op + i * 20 + j, none⟩) hbp).trans (hcp i j hlt hj)
                  obtain ⟨s, e, u, r, hd, wl, tl, kp⟩ := q
                  obtain ⟨fw, nw, qw, ft, nt, qt, f4, n4, q4, f5, n5, q5, f6, n6, q6, f7, n7, q7, f8, n8, q8, f9, n9, q9, f10, n10, q10, f11, n11, q11, fa, fn, fc, eR, hV, -, -⟩ := hkn.cells
                  dsimp only at eR hV
                  rw [eR] at HR0
                  have HR := Lib.hid HR0
                  have HV := Lib.hid hV
                  have Hq := Lib.hid hq
                  have Hmem := Lib.hid hmem
                  have hsz := hB.size
                  clear HR0 eR hV hkn hcp hq hmem
                  obtain ⟨wt, hwt⟩ : ∃ wt : World, wt = wr.alloc (.cells #[.int .i64 s, .int .i64 e, .string u, .string r, .bool hd, .slice fw nw qw, .slice ft nt qt, .string kp.name, .int .i64 kp.ep, .string kp.up, .string kp.rv, .slice f4 n4 q4, .slice f5 n5 q5, .slice f6 n6 q6, .slice f7 n7 q7, .slice f8 n8 q8, .slice f9 n9 q9, .slice f10 n10 q10, .slice f11 n11 q11, .slice fa fn fc] 56) := ⟨_, rfl⟩
                  have hBr : Below wr.heap.size wr wt := by rw [hwt]; exact (Below.refl _ _).alloc (Nat.le_refl _) _
                  have hBt : Below w0.heap.size w0 wt := by rw [hwt]; exact hB.alloc hB.size _
                  have hzt : wt.heap.size = wr.heap.size + 1 := by rw [hwt]; simp
                  have hRn : wt.rangeAt wr.heap.size 0 [.int .i64 s, .int .i64 e, .string u, .string r, .bool hd, .slice fw nw qw, .slice ft nt qt, .string kp.name, .int .i64 kp.ep, .string kp.up, .string kp.rv, .slice f4 n4 q4, .slice f5 n5 q5, .slice f6 n6 q6, .slice f7 n7 q7, .slice f8 n8 q8, .slice f9 n9 q9, .slice f10 n10 q10, .slice f11 n11 q11, .slice fa fn fc] := by rw [hwt]; exact rangeAt_new _ _ _
                  have HRn := Lib.hid hRn
                  have hlt2 : wr.heap.size < wt.heap.size := by omega
                  have Hwt := Lib.hid hwt
                  have Hzt := Lib.hid hzt
                  have hsz2 : w0.heap.size ≤ wt.heap.size := hBt.size
                  clear hzt hwt hRn hBr
                  have HSk : Hid (SmallP kp) := HF.out.small _ Hmem.out
                  have HPos : Hid (0 ≤ s) := HF.out.pos _ Hmem.out
                  have hbt1 : w.heap.size < w0.heap.size := by rw [Hz.out]; omega
                  have HB0t : Hid (Below w0.heap.size w0 wt) := hBt
                  have HR0 : Hid (wt.rangeAt wr.heap.size 0 [.int .i64 s, .int .i64 e, .string u, .string r, .bool hd, .slice fw nw qw, .slice ft nt qt, .string kp.name, .int .i64 kp.ep, .string kp.up, .string kp.rv, .slice f4 n4 q4, .slice f5 n5 q5, .slice f6 n6 q6, .slice f7 n7 q7, .slice f8 n8 q8, .slice f9 n9 q9, .slice f10 n10 q10, .slice f11 n11 q11, .slice fa fn fc]) := HRn
                  have HP0 : Hid (wt.rangeAt w.heap.size 0 [.string p.name, .int .i64 p.ep, .string p.up, .string p.rv, dv, av, gv, bv, rv, pv, sv, lv, .slice pa pn pc]) := rangeAt_below HPB.out hBt hbt1
                  have g0 : wt.cell? ⟨wr.heap.size, 0, none⟩ = some _ := HR0.out 0 _ rfl
                  have g7 : wt.cell? ⟨wr.heap.size, 7, none⟩ = some _ := HR0.out 7 _ rfl
                  have p0 : wt.cell? ⟨w.heap.size, 0, none⟩ = some _ := HP0.out 0 _ rfl
                  have p6 : wt.cell? ⟨w.heap.size, 6, none⟩ = some _ := HP0.out 6 _ rfl
                  cases hnm : (kp.name.toList == p.name.toList)
                  · by_cases hs : s ≤ 1
                    · have HC : Hid (firstU p ks 0 = firstU p (ks.drop (i + 1)) ((i + 1 : Nat) : Int)) := by
                        refine Hfs.out.trans (firstU_step (by rw [Hm.out]; exact hlt) ?_)
                        rw [Hq.out]
                        unfold codeU nameB; rw [if_pos (by simp [hnm, hs])]
                      rcases (show s = 0 ∨ s = 1 by have := HPos.out; omega) with h0 | h0
                      · have e0 : (s == 0) = true := by simp [h0]
                        clear h0 hs
                        go_wp2_with (first
                          | (refine wpList_load_mid (by rfl) 56 _ (by rfl) bp (op + i * 20) (by rfl) _ _ HR.out Tryz.underlying56 (by rfl) (by kernel_rfl) ?_)
                          | (refine wpList_store_mid (by rfl) 56 _ _ (by rfl) wr.heap.size 0 #[.int .i64 s, .int .i64 e, .string u, .string r, .bool hd, .slice fw nw qw, .slice ft nt qt, .string kp.name, .int .i64 kp.ep, .string kp.up, .string kp.rv, .slice f4 n4 q4, .slice f5 n5 q5, .slice f6 n6 q6, .slice f7 n7 q7, .slice f8 n8 q8, .slice f9 n9 q9, .slice f10 n10 q10, .slice f11 n11 q11, .slice fa fn fc] (by rfl) (by rfl) (there_new _ _ _ _ (by rfl)) (by kernel_rfl) (by simp [Value.oneCell']) ?_; rw [setCells_new _ _ _ _ (by rfl)]; rw [show wr.alloc (.cells _ _) = wt from Hwt.out.symm]))
                        go_roundg (m - (i + 1))
                        case rel => exact ⟨i + 1, by go_num, by omega, rfl, HC.out, hBt⟩
                        case measure => have := Hk.out; omega
                      · have e0 : (s == 0) = false := by simp [h0]
                        have e1 : (s == 1) = true := by simp [h0]
                        clear h0 hs
                        go_wp2_with (first
                          | (refine wpList_load_mid (by rfl) 56 _ (by rfl) bp (op + i * 20) (by rfl) _ _ HR.out Tryz.underlying56 (by rfl) (by kernel_rfl) ?_)
                          | (refine wpList_store_mid (by rfl) 56 _ _ (by rfl) wr.heap.size 0 #[.int .i64 s, .int .i64 e, .string u, .string r, .bool hd, .slice fw nw qw, .slice ft nt qt, .string kp.name, .int .i64 kp.ep, .string kp.up, .string kp.rv, .slice f4 n4 q4, .slice f5 n5 q5, .slice f6 n6 q6, .slice f7 n7 q7, .slice f8 n8 q8, .slice f9 n9 q9, .slice f10 n10 q10, .slice f11 n11 q11, .slice fa fn fc] (by rfl) (by rfl) (there_new _ _ _ _ (by rfl)) (by kernel_rfl) (by simp [Value.oneCell']) ?_; rw [setCells_new _ _ _ _ (by rfl)]; rw [show wr.alloc (.cells _ _) = wt from Hwt.out.symm]))
                        go_roundg (m - (i + 1))
                        case rel => exact ⟨i + 1, by go_num, by omega, rfl, HC.out, hBt⟩
                        case measure => have := Hk.out; omega
                    · have e0 : (s == 0) = false := by simp; omega
                      have e1 : (s == 1) = false := by simp; omega
                      have Hs := Lib.hid hs
                      clear hs
                      go_wp2_with (first
                        | (refine wpList_load_mid (by rfl) 56 _ (by rfl) bp (op + i * 20) (by rfl) _ _ HR.out Tryz.underlying56 (by rfl) (by kernel_rfl) ?_)
                        | (refine wpList_store_mid (by rfl) 56 _ _ (by rfl) wr.heap.size 0 #[.int .i64 s, .int .i64 e, .string u, .string r, .bool hd, .slice fw nw qw, .slice ft nt qt, .string kp.name, .int .i64 kp.ep, .string kp.up, .string kp.rv, .slice f4 n4 q4, .slice f5 n5 q5, .slice f6 n6 q6, .slice f7 n7 q7, .slice f8 n8 q8, .slice f9 n9 q9, .slice f10 n10 q10, .slice f11 n11 q11, .slice fa fn fc] (by rfl) (by rfl) (there_new _ _ _ _ (by rfl)) (by kernel_rfl) (by simp [Value.oneCell']) ?_; rw [setCells_new _ _ _ _ (by rfl)]; rw [show wr.alloc (.cells _ _) = wt from Hwt.out.symm])
                        | (refine wpList_load_mid (by rfl) 30 _ (by rfl) wr.heap.size 7 (by rfl) _ _ (rangeAt_drop7 HRn.out) Tryz.underlying30 (by rfl) (by kernel_rfl) ?_))
                      refine (one_calls kp (.slice f4 n4 q4) (.slice f5 n5 q5) (.slice f6 n6 q6) (.slice f7 n7 q7) (.slice f8 n8 q8) (.slice f9 n9 q9) (.slice f10 n10 q10) (.slice f11 n11 q11) fa fn fc gv p.against _ (HV.out.provides.below HB0t.out (Nat.le_refl _)) (HP.out.against.below HB0t.out (Nat.le_refl _)) HS.out.against HSk.out.sm HSk.out.provides).mono ?_
                      rintro e1 w1 ⟨rfl, hc1⟩
                      have hb1 := hc1
                      have HR1 : Hid (w1.rangeAt wr.heap.size 0 [.int .i64 s, .int .i64 e, .string u, .string r, .bool hd, .slice fw nw qw, .slice ft nt qt, .string kp.name, .int .i64 kp.ep, .string kp.up, .string kp.rv, .slice f4 n4 q4, .slice f5 n5 q5, .slice f6 n6 q6, .slice f7 n7 q7, .slice f8 n8 q8, .slice f9 n9 q9, .slice f10 n10 q10, .slice f11 n11 q11, .slice fa fn fc]) := rangeAt_below HRn.out hb1 hlt2
                      have HB1 : Hid (Below w0.heap.size w0 w1) := hBt.trans (hb1.mono hsz2)
                      have HP1 : Hid (w1.rangeAt w.heap.size 0 [.string p.name, .int .i64 p.ep, .string p.up, .string p.rv, dv, av, gv, bv, rv, pv, sv, lv, .slice pa pn pc]) := rangeAt_below HPB.out HB1.out hbt1
                      clear hc1 g0 g7 p0 p6
                      have g0 : w1.cell? ⟨wr.heap.size, 0, none⟩ = some _ := HR1.out 0 _ rfl
                      have g13 : w1.cell? ⟨wr.heap.size, 13, none⟩ = some _ := HR1.out 13 _ rfl
                      have p0 : w1.cell? ⟨w.heap.size, 0, none⟩ = some _ := HP1.out 0 _ rfl
                      have p1 : w1.cell? ⟨w.heap.size, 1, none⟩ = some _ := HP1.out 1 _ rfl
                      have p2 : w1.cell? ⟨w.heap.size, 2, none⟩ = some _ := HP1.out 2 _ rfl
                      have p3 : w1.cell? ⟨w.heap.size, 3, none⟩ = some _ := HP1.out 3 _ rfl
                      have p4 : w1.cell? ⟨w.heap.size, 4, none⟩ = some _ := HP1.out 4 _ rfl
                      have p5 : w1.cell? ⟨w.heap.size, 5, none⟩ = some _ := HP1.out 5 _ rfl
                      have p6 : w1.cell? ⟨w.heap.size, 6, none⟩ = some _ := HP1.out 6 _ rfl
                      have p7 : w1.cell? ⟨w.heap.size, 7, none⟩ = some _ := HP1.out 7 _ rfl
                      have p8 : w1.cell? ⟨w.heap.size, 8, none⟩ = some _ := HP1.out 8 _ rfl
                      have p9 : w1.cell? ⟨w.heap.size, 9, none⟩ = some _ := HP1.out 9 _ rfl
                      have p10 : w1.cell? ⟨w.heap.size, 10, none⟩ = some _ := HP1.out 10 _ rfl
                      have p11 : w1.cell? ⟨w.heap.size, 11, none⟩ = some _ := HP1.out 11 _ rfl
                      have p12 : w1.cell? ⟨w.heap.size, 12, none⟩ = some _ := HP1.out 12 _ rfl
                      cases ha1 : p.against.any (fun t => packB t kp)
                      · go_wp2_with fail
                        refine (one_calls p dv av gv bv rv pv sv lv pa pn pc _ kp.against _ (HP.out.provides.below HB1.out (Nat.le_refl _)) (HV.out.against.below HB1.out (Nat.le_refl _)) HSk.out.against HS.out.sm HS.out.provides).mono ?_
                        rintro e2 w2 ⟨rfl, hc2⟩
                        have hb2 := hb1.trans (hc2.mono hb1.size)
                        have HR2 : Hid (w2.rangeAt wr.heap.size 0 [.int .i64 s, .int .i64 e, .string u, .string r, .bool hd, .slice fw nw qw, .slice ft nt qt, .string kp.name, .int .i64 kp.ep, .string kp.up, .string kp.rv, .slice f4 n4 q4, .slice f5 n5 q5, .slice f6 n6 q6, .slice f7 n7 q7, .slice f8 n8 q8, .slice f9 n9 q9, .slice f10 n10 q10, .slice f11 n11 q11, .slice fa fn fc]) := rangeAt_below HRn.out hb2 hlt2
                        have HB2 : Hid (Below w0.heap.size w0 w2) := hBt.trans (hb2.mono hsz2)
                        have HP2 : Hid (w2.rangeAt w.heap.size 0 [.string p.name, .int .i64 p.ep, .string p.up, .string p.rv, dv, av, gv, bv, rv, pv, sv, lv, .slice pa pn pc]) := rangeAt_below HPB.out HB2.out hbt1
                        clear hc2 g0 g13 p0 p1 p2 p3 p4 p5 p6 p7 p8 p9 p10 p11 p12
                        have g0 : w2.cell? ⟨wr.heap.size, 0, none⟩ = some _ := HR2.out 0 _ rfl
                        have g13 : w2.cell? ⟨wr.heap.size, 13, none⟩ = some _ := HR2.out 13 _ rfl
                        have p7 : w2.cell? ⟨w.heap.size, 7, none⟩ = some _ := HP2.out 7 _ rfl
                        have g14 : w2.cell? ⟨wr.heap.size, 14, none⟩ = some _ := HR2.out 14 _ rfl
                        cases ha2 : kp.against.any (fun t => packB t p)
                        · go_wp2_with (refine wpList_load_mid (by rfl) 56 _ (by rfl) wr.heap.size 0 (by rfl) _ _ HR2.out Tryz.underlying56 (by rfl) (by kernel_rfl) ?_)
                          refine (refWorks_calls s e u r hd _ _ kp _ _ _ _ _ _ _ _ _ _ _ _).mono ?_
                          rintro e3 w3 ⟨rfl, hc3⟩
                          have hb3 := hb2.trans (hc3.mono hb2.size)
                          have HR3 : Hid (w3.rangeAt wr.heap.size 0 [.int .i64 s, .int .i64 e, .string u, .string r, .bool hd, .slice fw nw qw, .slice ft nt qt, .string kp.name, .int .i64 kp.ep, .string kp.up, .string kp.rv, .slice f4 n4 q4, .slice f5 n5 q5, .slice f6 n6 q6, .slice f7 n7 q7, .slice f8 n8 q8, .slice f9 n9 q9, .slice f10 n10 q10, .slice f11 n11 q11, .slice fa fn fc]) := rangeAt_below HRn.out hb3 hlt2
                          have HB3 : Hid (Below w0.heap.size w0 w3) := hBt.trans (hb3.mono hsz2)
                          have HP3 : Hid (w3.rangeAt w.heap.size 0 [.string p.name, .int .i64 p.ep, .string p.up, .string p.rv, dv, av, gv, bv, rv, pv, sv, lv, .slice pa pn pc]) := rangeAt_below HPB.out HB3.out hbt1
                          clear hc3 g0 g13 p7 g14
                          have p7 : w3.cell? ⟨w.heap.size, 7, none⟩ = some _ := HP3.out 7 _ rfl
                          have g7 : w3.cell? ⟨wr.heap.size, 7, none⟩ = some _ := HR3.out 7 _ rfl
                          have g8 : w3.cell? ⟨wr.heap.size, 8, none⟩ = some _ := HR3.out 8 _ rfl
                          have g9 : w3.cell? ⟨wr.heap.size, 9, none⟩ = some _ := HR3.out 9 _ rfl
                          have g10 : w3.cell? ⟨wr.heap.size, 10, none⟩ = some _ := HR3.out 10 _ rfl
                          have g11 : w3.cell? ⟨wr.heap.size, 11, none⟩ = some _ := HR3.out 11 _ rfl
                          have g12 : w3.cell? ⟨wr.heap.size, 12, none⟩ = some _ := HR3.out 12 _ rfl
                          have g13 : w3.cell? ⟨wr.heap.size, 13, none⟩ = some _ := HR3.out 13 _ rfl
                          have g14 : w3.cell? ⟨wr.heap.size, 14, none⟩ = some _ := HR3.out 14 _ rfl
                          have g15 : w3.cell? ⟨wr.heap.size, 15, none⟩ = some _ := HR3.out 15 _ rfl
                          have g16 : w3.cell? ⟨wr.heap.size, 16, none⟩ = some _ := HR3.out 16 _ rfl
                          have g17 : w3.cell? ⟨wr.heap.size, 17, none⟩ = some _ := HR3.out 17 _ rfl
                          have g18 : w3.cell? ⟨wr.heap.size, 18, none⟩ = some _ := HR3.out 18 _ rfl
                          have g19 : w3.cell? ⟨wr.heap.size, 19, none⟩ = some _ := HR3.out 19 _ rfl
                          cases hwk : worksV s
                          · have HC : Hid (firstU p ks 0 = firstU p (ks.drop (i + 1)) ((i + 1 : Nat) : Int)) := by
                              refine Hfs.out.trans (firstU_step (by rw [Hm.out]; exact hlt) ?_)
                              rw [Hq.out]
                              unfold codeU nameB; rw [if_neg (by simp [hnm]; have := Hs.out; omega), if_neg (by rw [ha1, ha2]; decide), if_neg (by simp [hwk])]
                            go_wp2_with fail
                            go_roundg (m - (i + 1))
                            case rel => exact ⟨i + 1, by go_num, by omega, rfl, HC.out, HB3.out⟩
                            case measure => have := Hk.out; omega
                          · go_wp2_with fail
                            refine (one_calls kp (.slice f4 n4 q4) (.slice f5 n5 q5) (.slice f6 n6 q6) (.slice f7 n7 q7) (.slice f8 n8 q8) (.slice f9 n9 q9) (.slice f10 n10 q10) (.slice f11 n11 q11) fa fn fc bv p.breaks _ (HV.out.provides.below HB3.out (Nat.le_refl _)) (HP.out.breaks.below HB3.out (Nat.le_refl _)) HS.out.breaks HSk.out.sm HSk.out.provides).mono ?_
                            rintro e4 w4 ⟨rfl, hc4⟩
                            have hb4 := hb3.trans (hc4.mono hb3.size)
                            have HR4 : Hid (w4.rangeAt wr.heap.size 0 [.int .i64 s, .int .i64 e, .string u, .string r, .bool hd, .slice fw nw qw, .slice ft nt qt, .string kp.name, .int .i64 kp.ep, .string kp.up, .string kp.rv, .slice f4 n4 q4, .slice f5 n5 q5, .slice f6 n6 q6, .slice f7 n7 q7, .slice f8 n8 q8, .slice f9 n9 q9, .slice f10 n10 q10, .slice f11 n11 q11, .slice fa fn fc]) := rangeAt_below HRn.out hb4 hlt2
                            have HB4 : Hid (Below w0.heap.size w0 w4) := hBt.trans (hb4.mono hsz2)
                            have HP4 : Hid (w4.rangeAt w.heap.size 0 [.string p.name, .int .i64 p.ep, .string p.up, .string p.rv, dv, av, gv, bv, rv, pv, sv, lv, .slice pa pn pc]) := rangeAt_below HPB.out HB4.out hbt1
                            clear hc4 p7 g7 g8 g9 g10 g11 g12 g13 g14 g15 g16 g17 g18 g19
                            have g14 : w4.cell? ⟨wr.heap.size, 14, none⟩ = some _ := HR4.out 14 _ rfl
                            have p0 : w4.cell? ⟨w.heap.size, 0, none⟩ = some _ := HP4.out 0 _ rfl
                            have p1 : w4.cell? ⟨w.heap.size, 1, none⟩ = some _ := HP4.out 1 _ rfl
                            have p2 : w4.cell? ⟨w.heap.size, 2, none⟩ = some _ := HP4.out 2 _ rfl
                            have p3 : w4.cell? ⟨w.heap.size, 3, none⟩ = some _ := HP4.out 3 _ rfl
                            have p4 : w4.cell? ⟨w.heap.size, 4, none⟩ = some _ := HP4.out 4 _ rfl
                            have p5 : w4.cell? ⟨w.heap.size, 5, none⟩ = some _ := HP4.out 5 _ rfl
                            have p6 : w4.cell? ⟨w.heap.size, 6, none⟩ = some _ := HP4.out 6 _ rfl
                            have p7 : w4.cell? ⟨w.heap.size, 7, none⟩ = some _ := HP4.out 7 _ rfl
                            have p8 : w4.cell? ⟨w.heap.size, 8, none⟩ = some _ := HP4.out 8 _ rfl
                            have p9 : w4.cell? ⟨w.heap.size, 9, none⟩ = some _ := HP4.out 9 _ rfl
                            have p10 : w4.cell? ⟨w.heap.size, 10, none⟩ = some _ := HP4.out 10 _ rfl
                            have p11 : w4.cell? ⟨w.heap.size, 11, none⟩ = some _ := HP4.out 11 _ rfl
                            have p12 : w4.cell? ⟨w.heap.size, 12, none⟩ = some _ := HP4.out 12 _ rfl
                            cases hb1' : p.breaks.any (fun t => packB t kp)
                            · go_wp2_with fail
                              refine (one_calls p dv av gv bv rv pv sv lv pa pn pc _ kp.breaks _ (HP.out.provides.below HB4.out (Nat.le_refl _)) (HV.out.breaks.below HB4.out (Nat.le_refl _)) HSk.out.breaks HS.out.sm HS.out.provides).mono ?_
                              rintro e5 w5 ⟨rfl, hc5⟩
                              have hb5 := hb4.trans (hc5.mono hb4.size)
                              have HR5 : Hid (w5.rangeAt wr.heap.size 0 [.int .i64 s, .int .i64 e, .string u, .string r, .bool hd, .slice fw nw qw, .slice ft nt qt, .string kp.name, .int .i64 kp.ep, .string kp.up, .string kp.rv, .slice f4 n4 q4, .slice f5 n5 q5, .slice f6 n6 q6, .slice f7 n7 q7, .slice f8 n8 q8, .slice f9 n9 q9, .slice f10 n10 q10, .slice f11 n11 q11, .slice fa fn fc]) := rangeAt_below HRn.out hb5 hlt2
                              have HB5 : Hid (Below w0.heap.size w0 w5) := hBt.trans (hb5.mono hsz2)
                              have HP5 : Hid (w5.rangeAt w.heap.size 0 [.string p.name, .int .i64 p.ep, .string p.up, .string p.rv, dv, av, gv, bv, rv, pv, sv, lv, .slice pa pn pc]) := rangeAt_below HPB.out HB5.out hbt1
                              clear hc5 g14 p0 p1 p2 p3 p4 p5 p6 p7 p8 p9 p10 p11 p12
                              cases hb2' : kp.breaks.any (fun t => packB t p)
                              · have HC : Hid (firstU p ks 0 = firstU p (ks.drop (i + 1)) ((i + 1 : Nat) : Int)) := by
                                  refine Hfs.out.trans (firstU_step (by rw [Hm.out]; exact hlt) ?_)
                                  rw [Hq.out]
                                  unfold codeU nameB; rw [if_neg (by simp [hnm]; have := Hs.out; omega), if_neg (by rw [ha1, ha2]; decide), if_neg (by simp [hb1', hb2'])]
                                go_wp2_with fail
                                go_roundg (m - (i + 1))
                                case rel => exact ⟨i + 1, by go_num, by omega, rfl, HC.out, HB5.out⟩
                                case measure => have := Hk.out; omega
                              · have HJ2 : Hid (judgeU ks p = (10, (i : Int))) := by
                                  refine HJ.out.trans (Hfs.out.trans ?_)
                                  have hc : codeU p (ks.getD i KnownD.none) = 10 := by
                                    rw [Hq.out]
                                    unfold codeU nameB; rw [if_neg (by simp [hnm]; have := Hs.out; omega), if_neg (by rw [ha1, ha2]; decide), if_pos (by simp [hwk, hb2'])]
                                  rw [firstU_at (by rw [Hm.out]; exact hlt) (by rw [hc]; decide), hc]
                                have hrc := HRC.out.below HB5.out (by rw [Hz.out]; omega)
                                have c0 := hrc.c0
                                have c1 := hrc.c1
                                have z0 := hrc.z0
                                have z1 := hrc.z1
                                have hrl := hrc.lt
                                have d0 := hrc.d0 (.int .i64 10)
                                have d1 := hrc.d1 (.int .i64 10) (.int .i64 (i : Int))
                                clear hrc
                                go_wp2_with fail
                                try simp only [Exit.inBlock, Exit.then]
                                refine bodyPost_ret (by simp [results, Tryz.results9, go_sem, d0, d1]; try rfl) rfl ?_
                                exact ⟨by rw [HJ2.out], HB0.out.trans (((HB5.out.mono HB0.out.size).setCell (Nat.le_succ _) _).setCell (Nat.le_succ _) _)⟩
                            · have HJ2 : Hid (judgeU ks p = (10, (i : Int))) := by
                                refine HJ.out.trans (Hfs.out.trans ?_)
                                have hc : codeU p (ks.getD i KnownD.none) = 10 := by
                                  rw [Hq.out]
                                  unfold codeU nameB; rw [if_neg (by simp [hnm]; have := Hs.out; omega), if_neg (by rw [ha1, ha2]; decide), if_pos (by simp [hwk, hb1'])]
                                rw [firstU_at (by rw [Hm.out]; exact hlt) (by rw [hc]; decide), hc]
                              have hrc := HRC.out.below HB4.out (by rw [Hz.out]; omega)
                              have c0 := hrc.c0
                              have c1 := hrc.c1
                              have z0 := hrc.z0
                              have z1 := hrc.z1
                              have hrl := hrc.lt
                              have d0 := hrc.d0 (.int .i64 10)
                              have d1 := hrc.d1 (.int .i64 10) (.int .i64 (i : Int))
                              clear hrc
                              go_wp2_with fail
                              try simp only [Exit.inBlock, Exit.then]
                              refine bodyPost_ret (by simp [results, Tryz.results9, go_sem, d0, d1]; try rfl) rfl ?_
                              exact ⟨by rw [HJ2.out], HB0.out.trans (((HB4.out.mono HB0.out.size).setCell (Nat.le_succ _) _).setCell (Nat.le_succ _) _)⟩
                        · have HJ2 : Hid (judgeU ks p = (13, (i : Int))) := by
                            refine HJ.out.trans (Hfs.out.trans ?_)
                            have hc : codeU p (ks.getD i KnownD.none) = 13 := by
                              rw [Hq.out]
                              unfold codeU nameB; rw [if_neg (by simp [hnm]; have := Hs.out; omega), if_pos (by rw [ha1, ha2]; rfl)]
                            rw [firstU_at (by rw [Hm.out]; exact hlt) (by rw [hc]; decide), hc]
                          have hrc := HRC.out.below HB2.out (by rw [Hz.out]; omega)
                          have c0 := hrc.c0
                          have c1 := hrc.c1
                          have z0 := hrc.z0
                          have z1 := hrc.z1
                          have hrl := hrc.lt
                          have d0 := hrc.d0 (.int .i64 13)
                          have d1 := hrc.d1 (.int .i64 13) (.int .i64 (i : Int))
                          clear hrc
                          go_wp2_with fail
                          try simp only [Exit.inBlock, Exit.then]
                          refine bodyPost_ret (by simp [results, Tryz.results9, go_sem, d0, d1]; try rfl) rfl ?_
                          exact ⟨by rw [HJ2.out], HB0.out.trans (((HB2.out.mono HB0.out.size).setCell (Nat.le_succ _) _).setCell (Nat.le_succ _) _)⟩
                      · have HJ2 : Hid (judgeU ks p = (13, (i : Int))) := by
                          refine HJ.out.trans (Hfs.out.trans ?_)
                          have hc : codeU p (ks.getD i KnownD.none) = 13 := by
                            rw [Hq.out]
                            unfold codeU nameB; rw [if_neg (by simp [hnm]; have := Hs.out; omega), if_pos (by rw [ha1]; rfl)]
                          rw [firstU_at (by rw [Hm.out]; exact hlt) (by rw [hc]; decide), hc]
                        have hrc := HRC.out.below HB1.out (by rw [Hz.out]; omega)
                        have c0 := hrc.c0
                        have c1 := hrc.c1
                        have z0 := hrc.z0
                        have z1 := hrc.z1
                        have hrl := hrc.lt
                        have d0 := hrc.d0 (.int .i64 13)
                        have d1 := hrc.d1 (.int .i64 13) (.int .i64 (i : Int))
                        clear hrc
                        go_wp2_with fail
                        try simp only [Exit.inBlock, Exit.then]
                        refine bodyPost_ret (by simp [results, Tryz.results9, go_sem, d0, d1]; try rfl) rfl ?_
                        exact ⟨by rw [HJ2.out], HB0.out.trans (((HB1.out.mono HB0.out.size).setCell (Nat.le_succ _) _).setCell (Nat.le_succ _) _)⟩
                  · have HC : Hid (firstU p ks 0 = firstU p (ks.drop (i + 1)) ((i + 1 : Nat) : Int)) := by
                      refine Hfs.out.trans (firstU_step (by rw [Hm.out]; exact hlt) ?_)
                      rw [Hq.out]
                      unfold codeU nameB; rw [if_pos (by simp [hnm])]
                    go_wp2_with (first
                      | (refine wpList_load_mid (by rfl) 56 _ (by rfl) bp (op + i * 20) (by rfl) _ _ HR.out Tryz.underlying56 (by rfl) (by kernel_rfl) ?_)
                      | (refine wpList_store_mid (by rfl) 56 _ _ (by rfl) wr.heap.size 0 #[.int .i64 s, .int .i64 e, .string u, .string r, .bool hd, .slice fw nw qw, .slice ft nt qt, .string kp.name, .int .i64 kp.ep, .string kp.up, .string kp.rv, .slice f4 n4 q4, .slice f5 n5 q5, .slice f6 n6 q6, .slice f7 n7 q7, .slice f8 n8 q8, .slice f9 n9 q9, .slice f10 n10 q10, .slice f11 n11 q11, .slice fa fn fc] (by rfl) (by rfl) (there_new _ _ _ _ (by rfl)) (by kernel_rfl) (by simp [Value.oneCell']) ?_; rw [setCells_new _ _ _ _ (by rfl)]; rw [show wr.alloc (.cells _ _) = wt from Hwt.out.symm]))
                    go_roundg (m - (i + 1))
                    case rel => exact ⟨i + 1, by go_num, by omega, rfl, HC.out, hBt⟩
                    case measure => have := Hk.out; omega
                · obtain rfl : m = i := by omega
                  have HJ2 : Hid (judgeU ks p = (0, -1)) := HJ.out.trans (Hfs.out.trans (firstU_end (by rw [Hm.out]; exact Nat.le_refl _)))
                  have hfn := HN.out.below hB (Nat.le_refl _)
                  have f0 := hfn.c0
                  have f1 := hfn.c1
                  have fl := hfn.lt
                  clear hfn
                  have hrc := HRC.out.below hB (by rw [Hz.out]; omega)
                  have c0 := hrc.c0
                  have c1 := hrc.c1
                  have z0 := hrc.z0
                  have z1 := hrc.z1
                  have hrl := hrc.lt
                  have d0 := hrc.d0 (.int .i64 0)
                  have d1 := hrc.d1 (.int .i64 0) (.int .i64 (-1))
                  clear hrc
                  go_wp2_with fail
                  try simp only [Exit.inBlock, Exit.then]
                  refine bodyPost_ret (by simp [results, Tryz.results9, go_sem, d0, d1]; try rfl) rfl ?_
                  exact ⟨by rw [HJ2.out], HB0.out.trans (((hB.mono HB0.out.size).setCell (Nat.le_succ _) _).setCell (Nat.le_succ _) _)⟩

end Go.Proofs.YtnfnebfioibndaaGreatDoor
