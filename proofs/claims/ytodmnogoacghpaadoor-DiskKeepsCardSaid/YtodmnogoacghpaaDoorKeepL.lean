/- DiskKeeps. (Written by gen_keepl.py.) -/
import Derived.Test.YtodmnogoacghpaaDoorKeepC
namespace Go.Proofs.YtodmnogoacghpaaDoor
open Go.RowKit
set_option maxRecDepth 100000
set_option maxHeartbeats 4000000

theorem diskKeeps_calls (lv mv : Value) (l m : List ActK) (keeps M0 : Int) (w : World) (hm0 : w.cell? ⟨0, 0, none⟩ = some (.int .i64 M0)) (hL : ActsK w lv l) (hM : ActsK w mv m) (hk : InI keeps) :
    Calls Tryd.prog 4 #[lv, mv, .int .i64 keeps] w fun e w' => e = .returned (.bool true) ∧ Below w.heap.size w w' := by
  have HL := Lib.hid hL
  have HM := Lib.hid hM
  have Hm0 := Lib.hid hm0
  have hB0 := World.block_lt_of_cell? w _ hm0
  obtain ⟨⟨la, lc, rfl, hlc, hlm, -⟩, -⟩ := hL
  obtain ⟨⟨ma, mc, rfl, hmc, hmm, hmcell⟩, hmok⟩ := hM
  unfold maxLen at hlm hmm
  obtain ⟨nl, hnl⟩ : ∃ n, l.length = n := ⟨_, rfl⟩
  obtain ⟨nm, hnm⟩ : ∃ n, m.length = n := ⟨_, rfl⟩
  rw [hnl] at hlc HL ⊢
  rw [hnm] at hmc HM hmcell ⊢
  have Hnl := Lib.hid hnl
  have Hnm := Lib.hid hnm
  have Hmc := Lib.hid hmcell
  have Hmok := Lib.hid (ActsK.get hmok)
  have Hmokk := Lib.hid hmok
  clear hnl hnm hm0 hmcell hmok
  by_cases h40 : 40 < nl
  · have e1 : decide ((40 : Int) < (nl : Int)) = true := decide_eq_true (by omega)
    go_enter Tryd.func4, Tryd.ntmps4
    go_wp2_with fail
    go_ret
    exact ⟨rfl, Below.refl _ _⟩
  by_cases h41 : 40 < nm
  · have e1 : decide ((40 : Int) < (nl : Int)) = false := decide_eq_false (by omega)
    have e2 : decide ((40 : Int) < (nm : Int)) = true := decide_eq_true (by omega)
    go_enter Tryd.func4, Tryd.ntmps4
    go_wp2_with fail
    go_ret
    exact ⟨rfl, Below.refl _ _⟩
  have e1 : decide ((40 : Int) < (nl : Int)) = false := decide_eq_false (by omega)
  have e2 : decide ((40 : Int) < (nm : Int)) = false := decide_eq_false (by omega)
  have SF := Lib.hid (safe_calls w)
  go_enter Tryd.func4, Tryd.ntmps4
  go_wp2_with fail
  refine SF.out.mono ?_
  rintro e0 w1 ⟨rfl, hb1⟩
  have HB1 := Lib.hid hb1
  obtain ⟨w2, hw2⟩ : ∃ w2 : World, w2 = w1.alloc (.cells #[.map none, .map none, .int .i64 0, .bool false, .int .i64 0, .bool false] 25) := ⟨_, rfl⟩
  obtain ⟨a, ha⟩ : ∃ a, w1.heap.size = a := ⟨_, rfl⟩
  have hBa : w.heap.size ≤ a := by rw [← ha]; exact hb1.size
  have HO2 : Hid (One w2 w.heap.size [] a zeroD) := One.start (by rw [hw2, ← ha]; exact heap_alloc_new w1 _) hBa
  have HB2 : Hid (Below w.heap.size w w2) := by rw [hw2]; exact hb1.alloc hb1.size _
  have Hw2 := Lib.hid hw2
  have Ha := Lib.hid ha
  clear hb1 hw2 ha SF
  go_wp2_with fail
  rw [← Hw2.out, Ha.out]
  have AC := Lib.hid (acts_calls w _ l w2 [] a zeroD 0 HL.out HB2.out HO2.out (fun p hp => by cases hp) (GoodD.zero _ _) (by rw [Hnl.out]; omega))
  clear Hw2 Ha
  go_wp2_with fail
  refine AC.out.mono ?_
  rintro e3 w3 ⟨rfl, d1, hSt, hO3, hK3⟩
  have HO3 := Lib.hid hO3
  have HB3 := Lib.hid (HB2.out.trans hK3.1)
  have HG1 : Hid (GoodD 40 200 d1) := ((hSt.good (GoodD.zero 0 200)).mono (by rw [List.length_map, Hnl.out]; omega) (Nat.le_refl _))
  have HP1 : Hid (PlainD d1) := hSt.plain (fun p hp => by cases hp)
  have HF1 : Hid (FreeD d1) := hSt.free ⟨rfl, rfl⟩
  clear hSt hO3 hK3 AC HO2 HB2 HB1
  have LI := Lib.hid (one_list2 HO3.out HG1.out (by decide))
  go_wp2_with fail
  refine LI.out.mono ?_
  rintro e4 w4 ⟨v4, rfl, hS4, hF4, hb4⟩
  obtain ⟨X1, hO4, -, hS4'⟩ := HO3.out.names hb4 hS4 hF4
  obtain ⟨ks, hks⟩ : ∃ ks, sortB (d1.fs.map (·.1)) = ks := ⟨_, rfl⟩
  rw [hks] at hS4 hS4'
  obtain ⟨X4, hX4⟩ : ∃ X, X1 ++ [] = X := ⟨_, rfl⟩
  rw [hX4] at hO4
  have HS4 : Hid (∀ W, KeptX w.heap.size X4 w4 W → Strs W v4 ks) := fun W hK => hS4' W hK.1.size (fun k hk => hK.2 k (by rw [← hX4]; simp [hk]))
  have HO4 := Lib.hid hO4
  have HB4 := Lib.hid (HB3.out.trans (hb4.mono HB3.out.size))
  have hB4 := HB4.out.size
  have Hks := Lib.hid hks
  obtain ⟨an, cn, rfl, hcn, hmn, -⟩ := hS4.1
  obtain ⟨n4, hn4⟩ : ∃ n, ks.length = n := ⟨_, rfl⟩
  rw [hn4] at hcn HS4 ⊢
  have Hn4 := Lib.hid hn4
  unfold maxLen at hmn
  clear hS4 hF4 hb4 hO4 hS4' hks hX4 hn4 LI HO3 HB3
  go_wp2_with fail
  try go_frame
  go_loopg [43] n4 (fun k v43 wr => ∃ (j : Nat) (d : DiskD), v43 = .int .i64 ((j : Nat) : Int) ∧ j ≤ n4 ∧ k = n4 - j ∧ One wr w.heap.size X4 a d ∧ KeptX w.heap.size X4 w4 wr ∧ SyncR d1 ks j 40 d)
  case atStart => exact ⟨0, d1, rfl, Nat.zero_le _, rfl, HO4.out, KeptX.of_below (Below.refl _ _) hB4 HO4.out.xlt, SyncR.start HF1.out HG1.out HP1.out⟩
  case round =>
    obtain ⟨j, d2, rfl, hj, hk1, hO5, hK5, hR5⟩ := hrel
    have Hk := Lib.hid hk1
    have HO5 := Lib.hid hO5
    have HK5 := Lib.hid hK5
    have HR5 := Lib.hid hR5
    clear hk1 hO5 hK5 hR5
    by_cases hjl : j < n4
    · obtain ⟨an', cn', e, -, -, h5⟩ := (HS4.out _ HK5.out).1
      injection e with ea eb ec
      rw [Hn4.out] at h5
      obtain ⟨bn, on, h6, hbn, hcn5⟩ := h5.resolve_left (by omega)
      rw [h6] at ea
      obtain rfl := ea
      obtain ⟨z, hz⟩ : ∃ z, ks.getD j ⟨#[]⟩ = z := ⟨_, rfl⟩
      have dz : wr.cell? ⟨bn, on + j, none⟩ = some (.string z) := by
        have h1 : wr.cell? ⟨bn, on + j * 1 + 0, none⟩ = some (.string (ks.getD j ⟨#[]⟩)) := hcn5 j 0 hjl (by decide)
        rw [hz] at h1
        simpa using h1
      have HX : Hid (∃ x, fget d2.fs z = some x) := by
        obtain ⟨x, hx⟩ := names_some1 (fs := d1.fs) (j := j) (z := z) (by rw [Hks.out, Hn4.out]; exact hjl) (by rw [Hks.out]; exact hz)
        have h1 := HR5.out.now z
        unfold nowG at h1
        rw [hx] at h1
        cases e : fget d2.fs z with
        | some y => exact ⟨y, rfl⟩
        | none => rw [e] at h1; cases h1
      obtain ⟨x, hx⟩ := HX.out
      have SY := Lib.hid (one_syncF (Nat.le_trans hB4 HK5.out.1.size) HO5.out (HR5.out.good.mono (by decide) (by decide)) HR5.out.free hx)
      have HR6 := Lib.hid (HR5.out.step (by rw [Hn4.out]; exact hjl) hz hx)
      clear h5 h6 hcn5 eb ec hz hx HX
      go_wp2_with fail
      refine SY.out.mono ?_
      rintro e6 w6 ⟨rfl, hO6, hK6⟩
      have HO6 := Lib.hid hO6
      have HK6 := Lib.hid (HK5.out.trans hK6)
      clear hO6 hK6 SY dz
      go_wp2_with fail
      go_roundg (n4 - (j + 1))
      case rel => exact ⟨j + 1, _, by go_num, by omega, rfl, HO6.out, HK6.out, HR6.out⟩
      case measure => have := Hk.out; omega
    · obtain rfl : j = n4 := by omega
      have HG2 := Lib.hid HR5.out.good
      have HF2 := Lib.hid HR5.out.free
      have HP2 := Lib.hid HR5.out.plain
      have HA2 : Hid (AllSafe d2.fs) := by
        have h := HR5.out
        rw [← Hn4.out, ← Hks.out] at h
        exact h.all
      have HB5 := Lib.hid (HB4.out.trans HK5.out.1)
      obtain ⟨S, hS⟩ : ∃ S, allS d2.fs = S := ⟨_, rfl⟩
      have HAL : Hid (∀ W X d C, C ≤ 1000 → One W w.heap.size X a d → GoodD C 200 d → (∀ f, nowG d.fs f = nowG d2.fs f) → Calls Tryd.prog 24 #[.pointer (some ⟨a, 0, none⟩)] W fun e w' => e = .returned (.string S) ∧ Below W.heap.size W w') := fun W X d C hC h hg hn => by
        have := all_calls W _ X a d h (good10 hC hg)
        rw [allS_congr hg.nodup HG2.out.nodup hn, hS] at this
        exact this
      have HS := Lib.hid hS
      clear hS HS4 HR5 HK5 HO4 HB4 HG1 HP1 HF1
      go_wp2_with fail
      refine (HAL.out _ _ _ _ (by decide) HO5.out HG2.out (fun _ => rfl)).mono ?_
      rintro e7 w7 ⟨rfl, hb7⟩
      have HO7 := Lib.hid (HO5.out.other hb7)
      have HB7 := Lib.hid (HB5.out.trans (hb7.mono HB5.out.size))
      have hB7 := HB7.out.size
      clear hb7 HO5 HB5
      have CU := Lib.hid (one_cut w7 w.heap.size X4 a d2 0 hB7 HO7.out (good10 (by decide) HG2.out) (by decide))
      go_wp2_with fail
      refine CU.out.mono ?_
      rintro e8 w8 ⟨rfl, hO8, hK8⟩
      obtain ⟨dc, hdc⟩ : ∃ dc, cutD d2 0 = dc := ⟨_, rfl⟩
      rw [hdc] at hO8
      have hcl : dc.left = 0 := by rw [← hdc]; rfl
      have hcf : dc.fs = d2.fs := by rw [← hdc]; rfl
      have hcb : dc.bytes = -1 := by rw [← hdc]; exact HF2.out.2
      have HGc : Hid (GoodD 40 200 dc) := by rw [← hdc]; exact HG2.out.cut (by decide)
      have HPc : Hid (PlainD dc) := by show PlainD dc; unfold PlainD; rw [hcf]; exact HP2.out
      have HO8 := Lib.hid hO8
      have HB8 := Lib.hid (HB7.out.trans hK8.1)
      have Hcl := Lib.hid hcl
      have Hcf := Lib.hid hcf
      have Hcb := Lib.hid hcb
      clear hO8 hK8 hdc hcl hcf hcb CU HO7 HB7
      have AC := Lib.hid (acts_calls w _ m w8 X4 a dc 40 HM.out HB8.out HO8.out HPc.out HGc.out (by rw [Hnm.out]; omega))
      go_wp2_with fail
      refine AC.out.mono ?_
      rintro e9 w9 ⟨rfl, d9, hSt, hO9, hK9⟩
      obtain rfl := hSt.off Hcl.out
      have HO9 := Lib.hid hO9
      have HB9 := Lib.hid (HB8.out.trans hK9.1)
      clear hSt hO9 hK9 AC HO8 HB8
      have ON := Lib.hid (one_on HO9.out)
      have HOn : Hid (onB d9 = false) := by show _ = _; unfold onB; rw [Hcl.out]; rfl
      go_wp2_with fail
      refine ON.out.mono ?_
      rintro e10 w10 ⟨rfl, rfl⟩
      rw [HOn.out]
      go_wp2_with fail
      refine (HAL.out _ _ _ _ (by decide) HO9.out HGc.out (fun f => by rw [Hcf.out])).mono ?_
      rintro e10 w10 ⟨rfl, hb10⟩
      have HO10 := Lib.hid (HO9.out.other hb10)
      have HB10 := Lib.hid (HB9.out.trans (hb10.mono HB9.out.size))
      have hB10 := HB10.out.size
      clear hb10 HO9 HB9 ON HOn
      have ST := Lib.hid (one_start w10 w.heap.size X4 a d9 keeps hB10 HO10.out (good10 (by decide) HGc.out))
      go_wp2_with fail
      refine ST.out.mono ?_
      rintro e11 w11 ⟨rfl, hO11, hK11⟩
      obtain ⟨d3, hd3⟩ : ∃ d3, startD d9 keeps = d3 := ⟨_, rfl⟩
      rw [hd3] at hO11
      have HG3 : Hid (GoodD 40 200 d3) := by rw [← hd3]; exact HGc.out.start keeps
      have hf3 : d3.fs = startFs keeps d2.fs := by rw [← hd3, ← Hcf.out]; rfl
      have HN3 : Hid (∀ f, nowG d3.fs f = nowG d2.fs f) := fun f => by rw [hf3]; exact start_all HG2.out.nodup HA2.out f
      have HA3 : Hid (AllSafe d3.fs) := by rw [hf3]; exact start_safe HG2.out.nodup
      have HF3 : Hid (FreeD d3) := ⟨by rw [← hd3]; rfl, by rw [← hd3]; exact Hcb.out⟩
      have HP3 : Hid (PlainD d3) := plain_of_now HG3.out.nodup HN3.out HP2.out
      have HO11 := Lib.hid hO11
      have HB11 := Lib.hid (HB10.out.trans hK11.1)
      clear hO11 hK11 hd3 hf3 ST HO10 HB10 HGc HPc Hcl Hcf Hcb
      have ON := Lib.hid (one_on HO11.out)
      have HOn : Hid (onB d3 = true) := by show _ = _; unfold onB; rw [HF3.out.1]; rfl
      go_wp2_with fail
      refine ON.out.mono ?_
      rintro e12 w12 ⟨rfl, rfl⟩
      rw [HOn.out]
      go_wp2_with fail
      refine (HAL.out _ _ _ _ (by decide) HO11.out HG3.out HN3.out).mono ?_
      rintro e12 w12 ⟨rfl, hb12⟩
      have HO12 := Lib.hid (HO11.out.other hb12)
      have HB12 := Lib.hid (HB11.out.trans (hb12.mono HB11.out.size))
      have hB12 := HB12.out.size
      clear hb12 HO11 HB11 ON HOn
      have hmm := @run_makeMap Tryd.prog
      obtain ⟨w13, hw13⟩ : ∃ w13 : World, w13 = w12.alloc (.map #[] 0) := ⟨_, rfl⟩
      obtain ⟨bm, hbm⟩ : ∃ bm, w12.heap.size = bm := ⟨_, rfl⟩
      have hBmm : w.heap.size ≤ bm := by rw [← hbm]; exact hB12
      have HO13 : Hid (One w13 w.heap.size (bm :: X4) a d3) := by rw [hw13, ← hbm]; exact HO12.out.push _
      have HB13 : Hid (Below w.heap.size w w13) := by rw [hw13]; exact HB12.out.alloc hB12 _
      have HM13 : Hid (MapV Tryd.prog 9 w13 bm 0 (fun _ => none)) := by rw [hw13, ← hbm]; exact MapV.made w12 Tryd.prog 9
      have Hw13 := Lib.hid hw13
      have Hbm := Lib.hid hbm
      clear hw13 hbm
      go_wp2_with fail
      clear hmm
      rw [← Hw13.out, Hbm.out]
      clear Hw13 Hbm HO12 HB12
      have hBm : w.heap.size ≤ w13.heap.size := HB13.out.size
      try go_frame
      go_loopg [12] nm (fun k v12 wr => ∃ (i : Nat) (d : DiskD), v12 = .int .i64 ((i : Nat) : Int) ∧ i ≤ nm ∧ k = nm - i ∧ One wr w.heap.size (bm :: X4) a d ∧ KeptX w.heap.size (bm :: X4) w13 wr ∧ Wrote d3 d ∧ FreeD d ∧ PlainD d ∧ GoodD (40 + i) 200 d)
      case atStart => exact ⟨0, d3, rfl, Nat.zero_le _, rfl, HO13.out, KeptX.of_below (Below.refl _ _) hBm HO13.out.xlt, Wrote.refl _, HF3.out, HP3.out, HG3.out⟩
      case round =>
        obtain ⟨i, d4, rfl, hi, hk1, hO, hK, hW, hF, hP, hG⟩ := hrel
        have Hk := Lib.hid hk1
        have HO := Lib.hid hO
        have HK := Lib.hid hK
        have HW := Lib.hid hW
        have HF4 := Lib.hid hF
        have HP4 := Lib.hid hP
        have HG4 := Lib.hid hG
        clear hk1 hO hK hW hF hP hG
        by_cases hil : i < nm
        · obtain ⟨b, o, rfl, hb, hc⟩ := Hmc.out.resolve_left (by omega)
          obtain ⟨x, hx⟩ : ∃ x : ActK, m.getD i noK = x := ⟨_, rfl⟩
          have hox := Hmok.out i
          rw [hx] at hox
          have HBr : Hid (Below w.heap.size w wr) := HB13.out.trans HK.out.1
          have dc : ∀ j, j < 4 → w.cell? ⟨b, o + i * 4 + j, none⟩ = some (actK x j) := fun j hj => by rw [hc i j hil hj, hx]
          have d0 : wr.cell? ⟨b, o + i * 4, none⟩ = some (.int .i64 x.1.1) := (HBr.out.cell (p := ⟨b, o + i * 4, none⟩) hb).trans (dc 0 (by decide))
          have HAK : Hid (ActsK w (.slice (some ⟨b, o + i * 4, none⟩) 1 (mc - i)) [x]) := ⟨⟨_, _, rfl, by simp; omega, by unfold maxLen; omega, Or.inr ⟨b, o + i * 4, rfl, hb, fun i' j' hi' hj' => by
            have h0 : i' = 0 := by simpa using hi'
            subst h0
            rw [Nat.zero_mul, Nat.add_zero, dc j' hj']
            rfl⟩⟩, fun y hy => by rw [List.mem_singleton.1 hy]; exact hox⟩
          obtain ⟨wh, hwh⟩ : ∃ wh, x.1.1 = wh := ⟨_, rfl⟩
          rw [hwh] at d0
          have Hwh := Lib.hid hwh
          clear hc hx hox dc hwh
          by_cases h0 : wh = 0
          · subst h0
            have AC := Lib.hid (acts_calls w _ [x] wr (bm :: X4) a d4 (40 + i) HAK.out HBr.out HO.out HP4.out HG4.out (by simp; omega))
            go_wp2_with fail
            refine AC.out.mono ?_
            rintro e14 w14 ⟨rfl, d5, hSt, hO14, hK14⟩
            have HW5 : Hid (Wrote d3 d5) := hSt.wrote (C := 40 + i) (fun k hk => by
              rw [List.map_cons, List.map_nil, List.mem_singleton] at hk
              rw [hk]; exact Hwh.out) HF4.out HG4.out (by simp; omega) HW.out
            have HF5 := Lib.hid (hSt.free HF4.out)
            have HP5 := Lib.hid (hSt.plain HP4.out)
            have HG5 : Hid (GoodD (40 + (i + 1)) 200 d5) := hSt.good HG4.out
            have HO14 := Lib.hid hO14
            have HK14 := Lib.hid (HK.out.trans hK14)
            clear hSt hO14 hK14 AC
            go_wp2_with fail
            go_roundg (nm - (i + 1))
            case rel => exact ⟨i + 1, d5, by go_num, by omega, rfl, HO14.out, HK14.out, HW5.out, HF5.out, HP5.out, HG5.out⟩
            case measure => have := Hk.out; omega
          · have t0 : (wh == 0) = false := beq_eq_false_iff_ne.2 h0
            clear h0
            go_wp2_with fail
            go_roundg (nm - (i + 1))
            case rel => exact ⟨i + 1, d4, by go_num, by omega, rfl, HO.out, HK.out, HW.out, HF4.out, HP4.out, HG4.out.mono (Nat.le_succ _) (Nat.le_refl _)⟩
            case measure => have := Hk.out; omega
        · obtain rfl : i = nm := by omega
          have HM14 : Hid (MapV Tryd.prog 9 wr bm 0 (fun _ => none)) := HM13.out.keep (HK.out.2 bm (by simp))
          have HB14 := Lib.hid (HB13.out.trans HK.out.1)
          have hB14 := HB14.out.size
          have hmm := @run_makeMap Tryd.prog
          obtain ⟨w15, hw15⟩ : ∃ w15 : World, w15 = wr.alloc (.map #[] 0) := ⟨_, rfl⟩
          obtain ⟨bo, hbo⟩ : ∃ bo, wr.heap.size = bo := ⟨_, rfl⟩
          have hbb : bm < bo := by rw [← hbo]; exact HM14.out.lt
          have hBo : w.heap.size ≤ bo := by rw [← hbo]; exact hB14
          have HO15 : Hid (One w15 w.heap.size (bo :: bm :: X4) a d4) := by rw [hw15, ← hbo]; exact HO.out.push _
          have HB15 : Hid (Below w.heap.size w w15) := by rw [hw15]; exact HB14.out.alloc hB14 _
          have HMo : Hid (MapV Tryd.prog 9 w15 bo 0 (fun _ => none)) := by rw [hw15, ← hbo]; exact MapV.made wr Tryd.prog 9
          have HMm : Hid (MapV Tryd.prog 9 w15 bm 0 (fun _ => none)) := HM14.out.keep (by rw [hw15]; exact Below.heap_alloc _ _ _ HM14.out.lt)
          have Hw15 := Lib.hid hw15
          have Hbo := Lib.hid hbo
          clear hw15 hbo HM14 HB14 HM13 HO HK HB13 HO13
          go_wp2_with fail
          clear hmm
          rw [← Hw15.out, Hbo.out]
          clear Hw15 Hbo
          have hB15 := HB15.out.size
          obtain ⟨np, hnp⟩ : ∃ np, d2.fs.length + 1 = np := ⟨_, rfl⟩
          have SP := Lib.hid (Tryd.strings_Split S ⟨#[59]⟩ M0 w15 (by rw [← HS.out]; have := allS_size (by decide) HG2.out; omega) ((HB15.out.cell (p := ⟨0, 0, none⟩) hB0).trans Hm0.out) (by decide))
          rw [← HS.out, partsK_eq HP2.out, partsK_len HP2.out, hnp] at SP
          rw [HS.out] at SP
          have Hnp := Lib.hid hnp
          have hnp40 : np ≤ 41 := by have := HG2.out.len; omega
          obtain ⟨w16, hw16⟩ : ∃ w16 : World, w16 = w15.alloc (.cells ((partsK d2).map Value.string).toArray 9) := ⟨_, rfl⟩
          obtain ⟨bs, hbs⟩ : ∃ bs, w15.heap.size = bs := ⟨_, rfl⟩
          rw [← hw16, hbs] at SP
          have HO16 : Hid (One w16 w.heap.size (bs :: bo :: bm :: X4) a d4) := by rw [hw16, ← hbs]; exact HO15.out.push _
          have HB16 : Hid (Below w.heap.size w w16) := by rw [hw16]; exact HB15.out.alloc hB15 _
          have hbsl : bs < w16.heap.size := by rw [hw16, ← hbs]; simp
          have hbos : bo < bs := by rw [← hbs]; exact HMo.out.lt
          have HMo6 : Hid (MapV Tryd.prog 9 w16 bo 0 (fillM d2.fs [])) := (HMo.out.keep (by rw [hw16]; exact Below.heap_alloc _ _ _ HMo.out.lt)).congr fun f => (fillM_nil _ _).symm
          have HMm6 : Hid (MapV Tryd.prog 9 w16 bm 0 (fun _ => none)) := HMm.out.keep (by rw [hw16]; exact Below.heap_alloc _ _ _ HMm.out.lt)
          have HCS : Hid (∀ j, j < np → w16.cell? ⟨bs, j, none⟩ = some (.string ((partsK d2).getD j ⟨#[]⟩))) := fun j hj => by
            have hl : (partsK d2).length = np := by unfold partsK; rw [← Hnp.out]; simp [sortB_len]
            rw [hw16, ← hbs, World.cell?_alloc_at _ _ _ _ (by simp)]
            simp [List.getD_eq_getElem?_getD, List.getElem?_eq_getElem (show j < (partsK d2).length by omega)]
          have hm16 : w16.cell? ⟨0, 0, none⟩ = some (.int .i64 M0) := (HB16.out.cell (p := ⟨0, 0, none⟩) hB0).trans Hm0.out
          have Hm16 := Lib.hid hm16
          have hs0 : 0 < w16.heap.size := Nat.lt_of_lt_of_le hB0 HB16.out.size
          clear hw16 hbs hm16 HMo HMm HO15 HB15
          go_wp2_with fail
          refine SP.out.mono ?_
          rintro e16 w17 ⟨rfl, rfl⟩
          obtain ⟨w16, rfl⟩ : ∃ w16, w16 = w17 := ⟨_, rfl⟩
          clear SP
          go_wp2_with fail
          try go_frame
          obtain ⟨ks2, hks2⟩ : ∃ ks2, sortB (d2.fs.map (·.1)) = ks2 := ⟨_, rfl⟩
          have hl2 : ks2.length + 1 = np := by rw [← hks2, sortB_len, List.length_map]; exact Hnp.out
          have Hks2 := Lib.hid hks2
          clear hks2
          go_loopg [93] np (fun k v93 wr => ∃ j : Nat, v93 = .int .i64 ((j : Nat) : Int) ∧ j ≤ np ∧ k = np - j ∧ Turn [bo] w16 wr ∧ MapV Tryd.prog 9 wr bo j (fillM d2.fs (ks2.take j)))
          case atStart => exact ⟨0, rfl, Nat.zero_le _, rfl, Turn.refl _ _, by rw [List.take_zero]; exact HMo6.out⟩
          case round =>
            obtain ⟨j, rfl, hj, hk1, hT, hMj⟩ := hrel
            have Hkj := Lib.hid hk1
            have HT := Lib.hid hT
            have HMj := Lib.hid hMj
            clear hk1 hT hMj
            by_cases hjl : j < np
            · have hm1 : wr.cell? ⟨0, 0, none⟩ = some (.int .i64 M0) := (World.cell?_of_block (a := ⟨0, 0, none⟩) (HT.out.block 0 hs0 (by simp; omega))).trans Hm16.out
              by_cases hlast : j + 1 = np
              · have dz : wr.cell? ⟨bs, j, none⟩ = some (.string (ofL [])) := by
                  have h1 := HCS.out j hjl
                  rw [show j = ks2.length by omega, ← Hks2.out, parts_last, Hks2.out, show ks2.length = j by omega] at h1
                  exact (World.cell?_of_block (a := ⟨bs, j, none⟩) (HT.out.block bs hbsl (by simp; omega))).trans h1
                have CT := Lib.hid (cut_empty M0 wr hm1)
                have HE : Hid (ks2.take (j + 1) = ks2.take j) := by show _ = _; rw [List.take_of_length_le (by omega), List.take_of_length_le (by omega)]
                clear hm1
                go_wp2_with fail
                refine CT.out.mono ?_
                rintro e18 w18 ⟨rfl, nn, rfl⟩
                clear CT dz
                go_wp2_with fail
                go_roundg (np - (j + 1))
                case rel => exact ⟨j + 1, by go_num, by omega, rfl, HT.out.drewN nn, by rw [HE.out]; exact (HMj.out.keep rfl).mono (Nat.le_succ _)⟩
                case measure => have := Hkj.out; omega
              · obtain ⟨f, hf⟩ : ∃ f, ks2.getD j ⟨#[]⟩ = f := ⟨_, rfl⟩
                obtain ⟨x, hx⟩ := names_some1 (fs := d2.fs) (j := j) (z := f) (by rw [Hks2.out]; omega) (by rw [Hks2.out]; exact hf)
                have hfz : f.size ≤ 80 := (HG2.out.get hx).1
                have dz : wr.cell? ⟨bs, j, none⟩ = some (.string (ofL (pieceL d2.fs f))) := by
                  have h1 := HCS.out j hjl
                  rw [parts_get (f := f) (by rw [Hks2.out]; omega) (by rw [Hks2.out]; exact hf)] at h1
                  exact (World.cell?_of_block (a := ⟨bs, j, none⟩) (HT.out.block bs hbsl (by simp; omega))).trans h1
                have CT := Lib.hid (cut_piece HP2.out (f := f) (by rw [hx]; rfl) (by
                  unfold pieceL
                  rw [List.length_append, List.length_cons, nowOf_get hx]
                  have h1 : f.data.toList.length = f.size := rfl
                  have h2 : x.now.data.toList.length = x.now.size := rfl
                  have h3 := (HG2.out.get hx).2.1
                  omega) M0 wr hm1)
                have HN : Hid (∀ s, putM (fillM d2.fs (ks2.take j)) f (some (.string (nowOf d2.fs f))) s = fillM d2.fs (ks2.take (j + 1)) s) := fun s => by
                  rw [take_snocB ks2 (by omega) hf]
                  exact fillM_snoc _ _ _ _
                have Hfz : Hid (f.size ≤ maxLen) := by show f.size ≤ maxLen; unfold maxLen; omega
                obtain ⟨P, hP⟩ : ∃ P, ofL (pieceL d2.fs f) = P := ⟨_, rfl⟩
                rw [hP] at dz CT
                obtain ⟨nf, hnf⟩ : ∃ nf, nowOf d2.fs f = nf := ⟨_, rfl⟩
                rw [hnf] at CT HN
                clear hm1 hx hf hP hnf
                go_wp2_with fail
                refine CT.out.mono ?_
                rintro e18 w18 ⟨rfl, nn, rfl⟩
                have HMn : Hid (MapV Tryd.prog 9 (wr.drewN nn) bo j (fillM d2.fs (ks2.take j))) := HMj.out.keep rfl
                clear CT dz
                go_wp2_with (at_mapUpdate; refine wpList_storeV _ rfl _ _ _ 23 rfl 9 9 Tryd.underlying9 Tryd.underlying23 bo j _ rfl HMn.out (by unfold maxLen; omega) f rfl Hfz.out (.string nf) rfl ?_)
                intro w19 hm19 hg19
                have HM19 : Hid (MapV Tryd.prog 9 w19 bo (j + 1) (fillM d2.fs (ks2.take (j + 1)))) := hm19.congr HN.out
                have HT19 := Lib.hid ((HT.out.drewN nn).grown hg19 (fun k e => by injection e with e; exact Or.inl (by simp [e])))
                clear hm19 hg19
                go_wp2_with fail
                go_roundg (np - (j + 1))
                case rel => exact ⟨j + 1, by go_num, by omega, rfl, HT19.out, HM19.out⟩
                case measure => have := Hkj.out; omega
            · obtain rfl : j = np := by omega
              have HMo7 : Hid (MapV Tryd.prog 9 wr bo j (fillM d2.fs ks2)) := by
                have h := HMj.out
                rw [List.take_of_length_le (by omega)] at h
                exact h
              have HO17 : Hid (One wr w.heap.size (bs :: bo :: bm :: X4) a d4) := HO16.out.turn (by simp) HT.out
              have HB17 : Hid (Below w.heap.size w wr) := HB16.out.trans (HT.out.below (fun k hk => by rw [List.mem_singleton.1 hk]; exact hBo) HB16.out.size)
              have HMm7 : Hid (MapV Tryd.prog 9 wr bm 0 (fillM d4.fs [])) := (HMm6.out.keep (HT.out.block bm HMm6.out.lt (by simp; omega))).congr fun f => (fillM_nil _ _).symm
              have hB17 := HB17.out.size
              clear HMj HT HMo6 HMm6 HO16 HCS Hm16 HB16
              have LI := Lib.hid (one_list2 HO17.out HG4.out (by omega))
              go_wp2_with fail
              refine LI.out.mono ?_
              rintro e18 w18 ⟨v18, rfl, hS18, hF18, hb18⟩
              obtain ⟨X1, hO18, hX18, hS18'⟩ := HO17.out.names hb18 hS18 hF18
              obtain ⟨ks4, hks4⟩ : ∃ ks, sortB (d4.fs.map (·.1)) = ks := ⟨_, rfl⟩
              rw [hks4] at hS18 hS18'
              obtain ⟨X8, hX8⟩ : ∃ X, X1 ++ bs :: bo :: bm :: X4 = X := ⟨_, rfl⟩
              rw [hX8] at hO18
              have hmX : bm ∈ X8 := by rw [← hX8]; simp
              have hoX : bo ∈ X8 := by rw [← hX8]; simp
              have hbml := HMm7.out.lt
              have HS18 : Hid (∀ W, Turn [bm] w18 W → Strs W v18 ks4) := fun W hT => hS18' W hT.size (fun k hk => hT.block k (hX18 k hk).2 (by have := (hX18 k hk).1; simp; omega))
              have HO18 := Lib.hid hO18
              have HB18 := Lib.hid (HB17.out.trans (hb18.mono HB17.out.size))
              have hB18 := HB18.out.size
              have HMo8 : Hid (MapV Tryd.prog 9 w18 bo j (fillM d2.fs ks2)) := HMo7.out.below hb18 HMo7.out.lt
              have HMm8 : Hid (MapV Tryd.prog 9 w18 bm 0 (fillM d4.fs [])) := HMm7.out.below hb18 HMm7.out.lt
              have Hks4 := Lib.hid hks4
              obtain ⟨an8, cn8, rfl, hcn8, hmn8, -⟩ := hS18.1
              obtain ⟨n8, hn8⟩ : ∃ n, ks4.length = n := ⟨_, rfl⟩
              rw [hn8] at hcn8 HS18 ⊢
              have Hn8 := Lib.hid hn8
              have hn8l : n8 ≤ 200 := by
                rw [← hn8, ← hks4, sortB_len, List.length_map]
                exact Nat.le_trans HG4.out.len (by omega)
              unfold maxLen at hmn8
              clear hS18 hF18 hb18 hO18 hX18 hS18' hks4 hX8 hn8 LI HO17 HB17 HMo7 HMm7
              go_wp2_with fail
              try go_frame
              go_loopg [110] n8 (fun k v110 wr => ∃ q : Nat, v110 = .int .i64 ((q : Nat) : Int) ∧ q ≤ n8 ∧ k = n8 - q ∧ Turn [bm] w18 wr ∧ MapV Tryd.prog 9 wr bm q (fillM d4.fs (ks4.take q)))
              case atStart => exact ⟨0, rfl, Nat.zero_le _, rfl, Turn.refl _ _, by rw [List.take_zero]; exact HMm8.out⟩
              case round =>
                obtain ⟨wx, rfl⟩ : ∃ wx : World, wx = wr := ⟨_, rfl⟩
                obtain ⟨q, rfl, hq, hk1, hT, hMq⟩ := hrel
                have Hkq := Lib.hid hk1
                have HT := Lib.hid hT
                have HMq := Lib.hid hMq
                clear hk1 hT hMq
                by_cases hql : q < n8
                · obtain ⟨an', cn', e, -, -, h5⟩ := (HS18.out _ HT.out).1
                  injection e with ea eb ec
                  rw [Hn8.out] at h5
                  obtain ⟨bn, on, h6, hbn, hcn5⟩ := h5.resolve_left (by omega)
                  rw [h6] at ea
                  obtain rfl := ea
                  obtain ⟨z, hz⟩ : ∃ z, ks4.getD q ⟨#[]⟩ = z := ⟨_, rfl⟩
                  have dz : wx.cell? ⟨bn, on + q, none⟩ = some (.string z) := by
                    have h1 : wx.cell? ⟨bn, on + q * 1 + 0, none⟩ = some (.string (ks4.getD q ⟨#[]⟩)) := hcn5 q 0 hql (by decide)
                    rw [hz] at h1
                    simpa using h1
                  have HX : Hid (∃ x, fget d4.fs z = some x) := names_some1 (fs := d4.fs) (j := q) (z := z) (by rw [Hks4.out, Hn8.out]; exact hql) (by rw [Hks4.out]; exact hz)
                  obtain ⟨x, hx⟩ := HX.out
                  have hzz : z.size ≤ 80 := (HG4.out.get hx).1
                  have Hzz : Hid (z.size ≤ maxLen) := by show z.size ≤ maxLen; unfold maxLen; omega
                  have RD := Lib.hid (one_read (HO18.out.turn hmX HT.out) hx Hzz.out)
                  have HN : Hid (∀ s, putM (fillM d4.fs (ks4.take q)) z (some (.string x.now)) s = fillM d4.fs (ks4.take (q + 1)) s) := fun s => by
                    rw [take_snocB ks4 (by rw [Hn8.out]; exact hql) hz, ← nowOf_get hx]
                    exact fillM_snoc _ _ _ _
                  clear h5 h6 hcn5 eb ec hz hx HX
                  go_wp2_with fail
                  refine RD.out.mono ?_
                  rintro e19 w19 ⟨rfl, rfl⟩
                  clear RD
                  go_wp2_with (at_mapUpdate; refine wpList_storeV _ rfl _ _ _ 23 rfl 9 9 Tryd.underlying9 Tryd.underlying23 bm q _ rfl HMq.out (by unfold maxLen; omega) z rfl Hzz.out (.string x.now) rfl ?_)
                  intro w20 hm20 hg20
                  have HM20 : Hid (MapV Tryd.prog 9 w20 bm (q + 1) (fillM d4.fs (ks4.take (q + 1)))) := hm20.congr HN.out
                  have HT20 := Lib.hid (HT.out.grown hg20 (fun k e => by injection e with e; exact Or.inl (by simp [e])))
                  clear hm20 hg20 dz
                  go_wp2_with fail
                  go_roundg (n8 - (q + 1))
                  case rel => exact ⟨q + 1, by go_num, by omega, rfl, HT20.out, HM20.out⟩
                  case measure => have := Hkq.out; omega
                · obtain rfl : q = n8 := by omega
                  have HMm9 : Hid (MapV Tryd.prog 9 wx bm q (fillM d4.fs ks4)) := by
                    have h := HMq.out
                    rw [List.take_of_length_le (by rw [Hn8.out]; omega)] at h
                    exact h
                  have HO19 : Hid (One wx w.heap.size X8 a d4) := HO18.out.turn hmX HT.out
                  have HB19 : Hid (Below w.heap.size w wx) := HB18.out.trans (HT.out.below (fun k hk => by rw [List.mem_singleton.1 hk]; exact hBmm) hB18)
                  have HMo9 : Hid (MapV Tryd.prog 9 wx bo j (fillM d2.fs ks2)) := HMo8.out.keep (HT.out.block bo HMo8.out.lt (by simp; omega))
                  have hB19 := HB19.out.size
                  clear HMq HT HS18 HO18 HB18 HMo8 HMm8
                  have ST := Lib.hid (one_start wx w.heap.size X8 a d4 0 hB19 HO19.out (good10 (by omega) HG4.out))
                  go_wp2_with fail
                  refine ST.out.mono ?_
                  rintro e21 w21 ⟨rfl, hO21, hK21⟩
                  obtain ⟨d5, hd5⟩ : ∃ d5, startD d4 0 = d5 := ⟨_, rfl⟩
                  rw [hd5] at hO21
                  have hf5 : d5.fs = startFs 0 d4.fs := by rw [← hd5]; rfl
                  have HN5 : Hid (∀ f, nowG d5.fs f = nowG d2.fs f) := fun f => by rw [hf5, start_zero HG4.out.nodup HW.out HA3.out f]; exact HN3.out f
                  have HA5 : Hid (AllSafe d5.fs) := by rw [hf5]; exact start_safe HG4.out.nodup
                  have HG5 : Hid (GoodD (40 + i) 200 d5) := by rw [← hd5]; exact HG4.out.start 0
                  have HF5 : Hid (FreeD d5) := ⟨by rw [← hd5]; rfl, by rw [← hd5]; exact HF4.out.2⟩
                  have HSB : Hid (∀ f, (fget d5.fs f).isSome = true → (nowG d4.fs f).isSome = true) := fun f hf => by
                    rw [← nowG_some, HN5.out f, ← HN3.out f, nowG_some] at hf
                    rw [nowG_some]
                    exact HW.out.more f hf
                  have HO21 := Lib.hid hO21
                  have HB21 := Lib.hid (HB19.out.trans hK21.1)
                  have HMm1 : Hid (MapV Tryd.prog 9 w21 bm q (fillM d4.fs ks4)) := HMm9.out.keep (hK21.2 bm hmX)
                  have HMo1 : Hid (MapV Tryd.prog 9 w21 bo j (fillM d2.fs ks2)) := HMo9.out.keep (hK21.2 bo hoX)
                  clear hO21 hK21 hd5 hf5 ST HO19 HB19 HMm9 HMo9
                  go_wp2_with fail
                  refine (HAL.out _ _ _ (40 + i) (by omega) HO21.out HG5.out HN5.out).mono ?_
                  rintro e22 w22 ⟨rfl, hb22⟩
                  have HO22 := Lib.hid (HO21.out.other hb22)
                  have HB22 := Lib.hid (HB21.out.trans (hb22.mono HB21.out.size))
                  have HMm2 := Lib.hid (HMm1.out.below hb22 HMm1.out.lt)
                  have HMo2 := Lib.hid (HMo1.out.below hb22 HMo1.out.lt)
                  have hB22 := HB22.out.size
                  clear hb22 HO21 HB21 HMm1 HMo1
                  go_wp2_with (at_range; refine wpList_rangeV _ rfl _ 23 rfl 9 9 Tryd.underlying9 Tryd.underlying23 bm q _ rfl HMm2.out ?_; intro w23 cnt23 hrg23 hg23 hs23)
                  obtain ⟨r, hr⟩ : ∃ r, w22.heap.size = r := ⟨_, rfl⟩
                  rw [hr] at hrg23 ⊢
                  have hb23 : Below w22.heap.size w22 w23 := (Below.refl _ _).grown hg23 (Nat.le_refl _) (fun k e => by cases e)
                  have hBr : w.heap.size ≤ r := by omega
                  have Hrg23 := Lib.hid hrg23
                  have HO23 : Hid (One w23 w.heap.size (r :: X8) a d5) := by rw [← hr]; exact HO22.out.pushG hb23 (by omega)
                  have HB23 := Lib.hid (HB22.out.trans (hb23.mono hB22))
                  have HMo3 := Lib.hid (HMo2.out.below hb23 HMo2.out.lt)
                  have hboR : bo ≠ r := by have := HMo2.out.lt; omega
                  have HFS : Hid (∀ s v, fillM d4.fs ks4 s = some v → ∃ c : ByteArray, v = Value.string c) := fun s v h => by
                    rw [← Hks4.out, fillM_all] at h
                    cases e : nowG d4.fs s with
                    | none => rw [e] at h; cases h
                    | some y => rw [e] at h; injection h with h; exact ⟨y, h.symm⟩
                  clear hrg23 hg23 hs23 hb23 hr HO22 HB22 HMm2 HMo2
                  try go_frame
                  go_loopg [21] cnt23 (fun k _ wr => ∃ (left : ByteArray → Bool) (d6 : DiskD), RangeV Tryd.prog 9 wr bm r q (fillM d4.fs ks4) left k ∧ One wr w.heap.size (r :: X8) a d6 ∧ WriteR d4 d5 left d6 ∧ MapV Tryd.prog 9 wr bo j (fillM d2.fs ks2) ∧ Below w.heap.size w wr)
                  case atStart => exact ⟨_, d5, Hrg23.out, HO23.out, ⟨HF5.out, HG5.out.nodup, fun f => by
                    rw [if_neg]
                    rintro ⟨h1, h2⟩
                    rw [← Hks4.out, fillM_all] at h2
                    cases e : nowG d4.fs f with
                    | none => rw [e] at h1; cases h1
                    | some y => rw [e] at h2; cases h2⟩, HMo3.out, HB23.out⟩
                  case round =>
                    obtain ⟨left, d6, hrg, hO6, hWR, hMo, hB6⟩ := hrel
                    have Hrg := Lib.hid hrg
                    have HO6 := Lib.hid hO6
                    have HWR := Lib.hid hWR
                    have HMo := Lib.hid hMo
                    have HB6 := Lib.hid hB6
                    clear hrg hO6 hWR hMo hB6
                    go_wp2_with (at_next; refine wpList_nextV _ Value.string rfl _ rfl 9 Tryd.underlying9 bm r q (fillM d4.fs ks4) HFS.out left gk rfl Hrg.out ?_ ?_)
                    · intro hl0
                      have H6 : Hid (∀ f, fget d6.fs f = (nowG d4.fs f).map fun s => ⟨s, safeG d5.fs f⟩) := HWR.out.all hl0 HSB.out
                      have HG6 : Hid (GoodD (40 + i) 200 d6) := HWR.out.good HSB.out HG4.out HG5.out
                      have HMm4 : Hid (MapV Tryd.prog 9 wr bm q (fillM d4.fs ks4)) := Hrg.out.map
                      clear Hrg
                      have hB6 := HB6.out.size
                      obtain ⟨p, hp⟩ : ∃ p, pickI keeps 25 = p := ⟨_, rfl⟩
                      have hp25 : p < 25 := by rw [← hp]; exact pickI_lt keeps (by decide)
                      have PK := Lib.hid (pick_calls keeps 25 wr hk (by decide))
                      rw [hp] at PK
                      have q1 : IntKind.i64.wrap (1 + ((p : Nat) : Int)) = 1 + ((p : Nat) : Int) := by rw [IntKind.wrap_i64]; omega
                      clear hp hl0
                      go_wp2_with fail
                      refine PK.out.mono ?_
                      rintro e26 w26 ⟨rfl, rfl⟩
                      clear PK
                      have ST := Lib.hid (one_start wr w.heap.size (r :: X8) a d6 (1 + ((p : Nat) : Int)) hB6 HO6.out (good10 (by omega) HG6.out))
                      go_wp2_with fail
                      refine ST.out.mono ?_
                      rintro e27 w27 ⟨rfl, hO27, hK27⟩
                      have HO27 := Lib.hid hO27
                      have HB27 := Lib.hid (HB6.out.trans hK27.1)
                      have HMm5 : Hid (MapV Tryd.prog 9 w27 bm q (fillM d4.fs ks4)) := HMm4.out.keep (hK27.2 bm (by simp [hmX]))
                      have HMo5 : Hid (MapV Tryd.prog 9 w27 bo j (fillM d2.fs ks2)) := HMo.out.keep (hK27.2 bo (by simp [hoX]))
                      have hB27 := HB27.out.size
                      clear hO27 hK27 ST HO6 HB6 HMm4 HMo q1
                      go_wp2_with (at_range; refine wpList_rangeV _ rfl _ 23 rfl 9 9 Tryd.underlying9 Tryd.underlying23 bm q _ rfl HMm5.out ?_; intro w28 cnt28 hrg28 hg28 hs28)
                      obtain ⟨r2, hr2⟩ : ∃ r, w27.heap.size = r := ⟨_, rfl⟩
                      rw [hr2] at hrg28 ⊢
                      have hb28 : Below w27.heap.size w27 w28 := (Below.refl _ _).grown hg28 (Nat.le_refl _) (fun k e => by cases e)
                      have hBr2 : w.heap.size ≤ r2 := by omega
                      have Hrg28 := Lib.hid hrg28
                      have HO28 : Hid (One w28 w.heap.size (r2 :: r :: X8) a (startD d6 (1 + ((p : Nat) : Int)))) := by rw [← hr2]; exact HO27.out.pushG hb28 (by omega)
                      have HB28 := Lib.hid (HB27.out.trans (hb28.mono hB27))
                      have HMo6 := Lib.hid (HMo5.out.below hb28 HMo5.out.lt)
                      have hboR2 : bo ≠ r2 := by have := HMo5.out.lt; omega
                      clear hrg28 hg28 hs28 hb28 hr2 HO27 HB27 HMm5 HMo5
                      try go_frame
                      go_loopg [24] cnt28 (fun k _ wr => ∃ (left : ByteArray → Bool), RangeV Tryd.prog 9 wr bm r2 q (fillM d4.fs ks4) left k ∧ One wr w.heap.size (r2 :: r :: X8) a (startD d6 (1 + ((p : Nat) : Int))) ∧ MapV Tryd.prog 9 wr bo j (fillM d2.fs ks2) ∧ Below w.heap.size w wr)
                      case atStart => exact ⟨_, Hrg28.out, HO28.out, HMo6.out, HB28.out⟩
                      case round =>
                        obtain ⟨wy, rfl⟩ : ∃ wy : World, wy = wr := ⟨_, rfl⟩
                        obtain ⟨left7, hrg, hO7, hMo, hB7⟩ := hrel
                        have Hrg := Lib.hid hrg
                        have HO7 := Lib.hid hO7
                        have HMo := Lib.hid hMo
                        have HB7 := Lib.hid hB7
                        clear hrg hO7 hMo hB7
                        go_wp2_with (at_next; refine wpList_nextV _ Value.string rfl _ rfl 9 Tryd.underlying9 bm r2 q (fillM d4.fs ks4) HFS.out left7 gk rfl Hrg.out ?_ ?_)
                        · intro hl0
                          clear hl0
                          go_wp2_with fail
                          go_ret
                          exact ⟨rfl, HB7.out⟩
                        · intro s c w30 cnt30 hs hls hfs hrg1 hlt1 hg1 hz1 hen
                          have hcs : nowG d4.fs s = some c := fill_some (by rw [Hks4.out]; exact hfs)
                          obtain ⟨y, hy1, hy2, hy3⟩ := end_ok HA5.out HN5.out H6.out HG6.out.nodup (k := 1 + ((p : Nat) : Int)) (by omega) hcs
                          obtain ⟨N, hN⟩ : ∃ N, (min (1 + ((p : Nat) : Int)) ((c.size : Nat) : Int)).toNat = N := ⟨_, rfl⟩
                          have em : min (1 + ((p : Nat) : Int)) ((c.size : Nat) : Int) = ((N : Nat) : Int) := by omega
                          have hNc : N ≤ c.size := by omega
                          rw [hN] at hy2
                          obtain ⟨O, hO⟩ : ∃ O, nowOf d2.fs s = O := ⟨_, rfl⟩
                          rw [hO] at hy2 hy3
                          have HO30 : Hid (One w30 w.heap.size (r2 :: r :: X8) a (startD d6 (1 + ((p : Nat) : Int)))) := HO7.out.grown (k := r2) (by simp) hg1 (fun j e => by injection e with e; exact e.symm)
                          have HB30 := Lib.hid (HB7.out.grown hg1 HB7.out.size (fun k e => by injection e with e; omega))
                          have hbr : some bo ≠ some r2 := fun e => hboR2 (by injection e)
                          have HMo7 := Lib.hid (HMo.out.grown hg1 hbr)
                          have Hss : Hid (s.size ≤ maxLen) := hs
                          have RD := Lib.hid (one_read HO30.out hy1 hs)
                          have HLK : Hid (∀ W, Below w30.heap.size w30 W → (Instr.lookup 23 (.map (some bo)) (.string s) false).run Tryd.prog W = .ok (.string O) W) := fun W hb => by
                            have h := (HMo7.out.below hb HMo7.out.lt).look Tryd.underlying9 Tryd.underlying23 (Tryd.zeroValue9 W) hs
                            rw [← Hks2.out, fill_got, hO] at h
                            exact h
                          have Hrg1 := Lib.hid hrg1
                          have Hy2 := Lib.hid hy2
                          have Hy3 := Lib.hid hy3
                          have Hem := Lib.hid em
                          have hcz : c.size ≤ 200 := by
                            obtain ⟨x4, hx4, hxc⟩ := nowG_get hcs
                            rw [← hxc]; exact (HG4.out.get hx4).2.1
                          have hyz : y.size ≤ 200 := ((HG6.out.start (1 + ((p : Nat) : Int))).get hy1).2.1
                          have hOz : O.size ≤ 30000 := by
                            rw [← hO]
                            unfold nowOf
                            cases e : nowG d2.fs s with
                            | none => exact Nat.zero_le _
                            | some z =>
                              obtain ⟨x4, hx4, hxc⟩ := nowG_get e
                              have := (HG2.out.get hx4).2.1
                              rw [hxc] at this
                              exact Nat.le_trans this (by decide)
                          clear hcs hy1 hy2 hy3 hN hO hls hfs hrg1 hg1 hz1 hbr hs HMo HO7 HB7 Hrg em
                          go_wp2_with fail
                          refine RD.out.mono ?_
                          rintro e31 w31 ⟨rfl, rfl⟩
                          clear RD hen
                          have em := Hem.out
                          go_upto_region 57 with fail
                          have HBx : Hid (Below w30.heap.size w30 w30.drew) := (Below.refl _ _).drew
                          by_cases hne : c = O
                          · have hyc := Hy3.out hne
                            subst hyc
                            subst hne
                            clear Hy2 Hy3
                            refine wp_region_held_drew (S := fun w' => Below w30.heap.size w30 w') (by kernel_rfl) ?_ (fun hHeld => ?_)
                            · exact HBx.out
                            refine wpAnyH_take (i := 0) (oi := _) (v := .string y) rfl (by kernel_rfl) (by kernel_rfl) (by kernel_rfl) (fun _ _ _ h => h) (Or.inl ⟨by kernel_rfl, fun w hSw => ?_⟩) hHeld ?_
                            · (try dsimp only at hSw); go_simp
                            try simp only [Act.put, List.getElem_toArray, List.getElem_cons_zero, List.setIfInBounds_toArray, List.set_cons_zero, List.set_cons_succ]
                            refine wpAnyH_take (i := 1) (oi := _) (v := .map (some bo)) rfl (by kernel_rfl) (by kernel_rfl) (by kernel_rfl) (fun _ _ _ h => h) (Or.inl ⟨by kernel_rfl, fun w hSw => ?_⟩) hHeld ?_
                            · (try dsimp only at hSw); go_simp
                            try simp only [Act.put, List.getElem_toArray, List.getElem_cons_succ, List.getElem_cons_zero, List.setIfInBounds_toArray, List.set_cons_zero, List.set_cons_succ]
                            refine wpAnyH_take (i := 2) (oi := _) (v := .string s) rfl (by kernel_rfl) (by kernel_rfl) (by kernel_rfl) (fun _ _ _ h => h) (Or.inl ⟨by kernel_rfl, fun w hSw => ?_⟩) hHeld ?_
                            · (try dsimp only at hSw); go_simp
                            try simp only [Act.put, List.getElem_toArray, List.getElem_cons_succ, List.getElem_cons_zero, List.setIfInBounds_toArray, List.set_cons_zero, List.set_cons_succ]
                            refine wpAnyH_take (i := 3) (oi := _) (v := .string y) rfl (by kernel_rfl) (by kernel_rfl) (by kernel_rfl) (fun _ _ _ h => h) (Or.inl ⟨by kernel_rfl, fun w hSw => ?_⟩) hHeld ?_
                            · (try dsimp only at hSw); have hh := HLK.out _ hSw; simp only [execOp]; go_simp
                            try simp only [Act.put, List.getElem_toArray, List.getElem_cons_succ, List.getElem_cons_zero, List.setIfInBounds_toArray, List.set_cons_zero, List.set_cons_succ]
                            refine wpAnyH_take (i := 4) (oi := _) (v := .bool false) rfl (by kernel_rfl) (by kernel_rfl) (by kernel_rfl) (fun _ _ _ h => h) (Or.inl ⟨by kernel_rfl, fun w hSw => ?_⟩) hHeld ?_
                            · (try dsimp only at hSw); go_simp
                            try simp only [Act.put, List.getElem_toArray, List.getElem_cons_succ, List.getElem_cons_zero, List.setIfInBounds_toArray, List.set_cons_zero, List.set_cons_succ]
                            refine wpAnyH_take (i := 5) (oi := _) (v := .bool false) rfl (by kernel_rfl) (by kernel_rfl) (by kernel_rfl) (fun _ _ _ h => h) (Or.inl ⟨by kernel_rfl, fun w hSw => ?_⟩) hHeld ?_
                            · (try dsimp only at hSw); go_simp
                            try simp only [Act.put, List.getElem_toArray, List.getElem_cons_succ, List.getElem_cons_zero, List.setIfInBounds_toArray, List.set_cons_zero, List.set_cons_succ]
                            refine wpAnyH_take (i := 6) (oi := _) (v := undef) rfl (by kernel_rfl) (by kernel_rfl) (by kernel_rfl) (fun _ _ _ h => h) (Or.inr ⟨by kernel_rfl, rfl⟩) hHeld ?_
                            try simp only [Act.put, List.getElem_toArray, List.getElem_cons_succ, List.getElem_cons_zero, List.setIfInBounds_toArray, List.set_cons_zero, List.set_cons_succ]
                            refine wpAnyH_take (i := 7) (oi := _) (v := undef) rfl (by kernel_rfl) (by kernel_rfl) (by kernel_rfl) (fun _ _ _ h => h) (Or.inr ⟨by kernel_rfl, rfl⟩) hHeld ?_
                            try simp only [Act.put, List.getElem_toArray, List.getElem_cons_succ, List.getElem_cons_zero, List.setIfInBounds_toArray, List.set_cons_zero, List.set_cons_succ]
                            refine wpAnyH_take (i := 8) (oi := _) (v := undef) rfl (by kernel_rfl) (by kernel_rfl) (by kernel_rfl) (fun _ _ _ h => h) (Or.inr ⟨by kernel_rfl, rfl⟩) hHeld ?_
                            try simp only [Act.put, List.getElem_toArray, List.getElem_cons_succ, List.getElem_cons_zero, List.setIfInBounds_toArray, List.set_cons_zero, List.set_cons_succ]
                            refine wpAnyH_take (i := 9) (oi := _) (v := undef) rfl (by kernel_rfl) (by kernel_rfl) (by kernel_rfl) (fun _ _ _ h => h) (Or.inr ⟨by kernel_rfl, rfl⟩) hHeld ?_
                            try simp only [Act.put, List.getElem_toArray, List.getElem_cons_succ, List.getElem_cons_zero, List.setIfInBounds_toArray, List.set_cons_zero, List.set_cons_succ]
                            refine wpAnyH_take (i := 10) (oi := _) (v := undef) rfl (by kernel_rfl) (by kernel_rfl) (by kernel_rfl) (fun _ _ _ h => h) (Or.inr ⟨by kernel_rfl, rfl⟩) hHeld ?_
                            try simp only [Act.put, List.getElem_toArray, List.getElem_cons_succ, List.getElem_cons_zero, List.setIfInBounds_toArray, List.set_cons_zero, List.set_cons_succ]
                            refine wpAnyH_take (i := 11) (oi := _) (v := undef) rfl (by kernel_rfl) (by kernel_rfl) (by kernel_rfl) (fun _ _ _ h => h) (Or.inr ⟨by kernel_rfl, rfl⟩) hHeld ?_
                            try simp only [Act.put, List.getElem_toArray, List.getElem_cons_succ, List.getElem_cons_zero, List.setIfInBounds_toArray, List.set_cons_zero, List.set_cons_succ]
                            refine wpAnyH_take (i := 12) (oi := _) (v := undef) rfl (by kernel_rfl) (by kernel_rfl) (by kernel_rfl) (fun _ _ _ h => h) (Or.inr ⟨by kernel_rfl, rfl⟩) hHeld ?_
                            try simp only [Act.put, List.getElem_toArray, List.getElem_cons_succ, List.getElem_cons_zero, List.setIfInBounds_toArray, List.set_cons_zero, List.set_cons_succ]
                            refine wpAnyH_take (i := 13) (oi := _) (v := undef) rfl (by kernel_rfl) (by kernel_rfl) (by kernel_rfl) (fun _ _ _ h => h) (Or.inr ⟨by kernel_rfl, rfl⟩) hHeld ?_
                            try simp only [Act.put, List.getElem_toArray, List.getElem_cons_succ, List.getElem_cons_zero, List.setIfInBounds_toArray, List.set_cons_zero, List.set_cons_succ]
                            refine wpAnyH_take (i := 14) (oi := _) (v := undef) rfl (by kernel_rfl) (by kernel_rfl) (by kernel_rfl) (fun _ _ _ h => h) (Or.inr ⟨by kernel_rfl, rfl⟩) hHeld ?_
                            try simp only [Act.put, List.getElem_toArray, List.getElem_cons_succ, List.getElem_cons_zero, List.setIfInBounds_toArray, List.set_cons_zero, List.set_cons_succ]
                            refine wpAnyH_take (i := 15) (oi := _) (v := undef) rfl (by kernel_rfl) (by kernel_rfl) (by kernel_rfl) (fun _ _ _ h => h) (Or.inr ⟨by kernel_rfl, rfl⟩) hHeld ?_
                            try simp only [Act.put, List.getElem_toArray, List.getElem_cons_succ, List.getElem_cons_zero, List.setIfInBounds_toArray, List.set_cons_zero, List.set_cons_succ]
                            refine wpAnyH_take (i := 16) (oi := _) (v := undef) rfl (by kernel_rfl) (by kernel_rfl) (by kernel_rfl) (fun _ _ _ h => h) (Or.inr ⟨by kernel_rfl, rfl⟩) hHeld ?_
                            try simp only [Act.put, List.getElem_toArray, List.getElem_cons_succ, List.getElem_cons_zero, List.setIfInBounds_toArray, List.set_cons_zero, List.set_cons_succ]
                            refine wpAnyH_take (i := 17) (oi := _) (v := undef) rfl (by kernel_rfl) (by kernel_rfl) (by kernel_rfl) (fun _ _ _ h => h) (Or.inr ⟨by kernel_rfl, rfl⟩) hHeld ?_
                            try simp only [Act.put, List.getElem_toArray, List.getElem_cons_succ, List.getElem_cons_zero, List.setIfInBounds_toArray, List.set_cons_zero, List.set_cons_succ]
                            refine wpAnyH_take (i := 18) (oi := _) (v := undef) rfl (by kernel_rfl) (by kernel_rfl) (by kernel_rfl) (fun _ _ _ h => h) (Or.inr ⟨by kernel_rfl, rfl⟩) hHeld ?_
                            try simp only [Act.put, List.getElem_toArray, List.getElem_cons_succ, List.getElem_cons_zero, List.setIfInBounds_toArray, List.set_cons_zero, List.set_cons_succ]
                            refine wpAnyH_take (i := 19) (oi := _) (v := undef) rfl (by kernel_rfl) (by kernel_rfl) (by kernel_rfl) (fun _ _ _ h => h) (Or.inr ⟨by kernel_rfl, rfl⟩) hHeld ?_
                            try simp only [Act.put, List.getElem_toArray, List.getElem_cons_succ, List.getElem_cons_zero, List.setIfInBounds_toArray, List.set_cons_zero, List.set_cons_succ]
                            refine wpAnyH_take (i := 20) (oi := _) (v := undef) rfl (by kernel_rfl) (by kernel_rfl) (by kernel_rfl) (fun _ _ _ h => h) (Or.inr ⟨by kernel_rfl, rfl⟩) hHeld ?_
                            try simp only [Act.put, List.getElem_toArray, List.getElem_cons_succ, List.getElem_cons_zero, List.setIfInBounds_toArray, List.set_cons_zero, List.set_cons_succ]
                            refine wpAnyH_take (i := 21) (oi := _) (v := undef) rfl (by kernel_rfl) (by kernel_rfl) (by kernel_rfl) (fun _ _ _ h => h) (Or.inr ⟨by kernel_rfl, rfl⟩) hHeld ?_
                            try simp only [Act.put, List.getElem_toArray, List.getElem_cons_succ, List.getElem_cons_zero, List.setIfInBounds_toArray, List.set_cons_zero, List.set_cons_succ]
                            refine wpAnyH_take (i := 22) (oi := _) (v := undef) rfl (by kernel_rfl) (by kernel_rfl) (by kernel_rfl) (fun _ _ _ h => h) (Or.inr ⟨by kernel_rfl, rfl⟩) hHeld ?_
                            try simp only [Act.put, List.getElem_toArray, List.getElem_cons_succ, List.getElem_cons_zero, List.setIfInBounds_toArray, List.set_cons_zero, List.set_cons_succ]
                            refine wpAnyH_take (i := 23) (oi := _) (v := undef) rfl (by kernel_rfl) (by kernel_rfl) (by kernel_rfl) (fun _ _ _ h => h) (Or.inr ⟨by kernel_rfl, rfl⟩) hHeld ?_
                            try simp only [Act.put, List.getElem_toArray, List.getElem_cons_succ, List.getElem_cons_zero, List.setIfInBounds_toArray, List.set_cons_zero, List.set_cons_succ]
                            refine wpAnyH_take (i := 24) (oi := _) (v := .bool false) rfl (by kernel_rfl) (by kernel_rfl) (by kernel_rfl) (fun _ _ _ h => h) (Or.inl ⟨by kernel_rfl, fun w hSw => ?_⟩) hHeld ?_
                            · (try dsimp only at hSw); go_simp
                            try simp only [Act.put, List.getElem_toArray, List.getElem_cons_succ, List.getElem_cons_zero, List.setIfInBounds_toArray, List.set_cons_zero, List.set_cons_succ]
                            refine wpAnyH_take (i := 25) (oi := _) (v := .bool false) rfl (by kernel_rfl) (by kernel_rfl) (by kernel_rfl) (fun _ _ _ h => h) (Or.inl ⟨by kernel_rfl, fun w hSw => ?_⟩) hHeld ?_
                            · (try dsimp only at hSw); go_simp
                            try simp only [Act.put, List.getElem_toArray, List.getElem_cons_succ, List.getElem_cons_zero, List.setIfInBounds_toArray, List.set_cons_zero, List.set_cons_succ]
                            refine wpAnyH_take (i := 26) (oi := _) (v := .string y) rfl (by kernel_rfl) (by kernel_rfl) (by kernel_rfl) (fun _ _ _ h => h) (Or.inl ⟨by kernel_rfl, fun w hSw => ?_⟩) hHeld ?_
                            · (try dsimp only at hSw); go_simp
                            try simp only [Act.put, List.getElem_toArray, List.getElem_cons_succ, List.getElem_cons_zero, List.setIfInBounds_toArray, List.set_cons_zero, List.set_cons_succ]
                            refine wpAnyH_take (i := 27) (oi := _) (v := .map (some bo)) rfl (by kernel_rfl) (by kernel_rfl) (by kernel_rfl) (fun _ _ _ h => h) (Or.inl ⟨by kernel_rfl, fun w hSw => ?_⟩) hHeld ?_
                            · (try dsimp only at hSw); go_simp
                            try simp only [Act.put, List.getElem_toArray, List.getElem_cons_succ, List.getElem_cons_zero, List.setIfInBounds_toArray, List.set_cons_zero, List.set_cons_succ]
                            refine wpAnyH_take (i := 28) (oi := _) (v := .string s) rfl (by kernel_rfl) (by kernel_rfl) (by kernel_rfl) (fun _ _ _ h => h) (Or.inl ⟨by kernel_rfl, fun w hSw => ?_⟩) hHeld ?_
                            · (try dsimp only at hSw); go_simp
                            try simp only [Act.put, List.getElem_toArray, List.getElem_cons_succ, List.getElem_cons_zero, List.setIfInBounds_toArray, List.set_cons_zero, List.set_cons_succ]
                            refine wpAnyH_take (i := 29) (oi := _) (v := .string y) rfl (by kernel_rfl) (by kernel_rfl) (by kernel_rfl) (fun _ _ _ h => h) (Or.inl ⟨by kernel_rfl, fun w hSw => ?_⟩) hHeld ?_
                            · (try dsimp only at hSw); have hh := HLK.out _ hSw; simp only [execOp]; go_simp
                            try simp only [Act.put, List.getElem_toArray, List.getElem_cons_succ, List.getElem_cons_zero, List.setIfInBounds_toArray, List.set_cons_zero, List.set_cons_succ]
                            refine wpAnyH_take (i := 30) (oi := _) (v := .bool true) rfl (by kernel_rfl) (by kernel_rfl) (by kernel_rfl) (fun _ _ _ h => h) (Or.inl ⟨by kernel_rfl, fun w hSw => ?_⟩) hHeld ?_
                            · (try dsimp only at hSw); go_simp
                            try simp only [Act.put, List.getElem_toArray, List.getElem_cons_succ, List.getElem_cons_zero, List.setIfInBounds_toArray, List.set_cons_zero, List.set_cons_succ]
                            refine wpAnyH_take (i := 31) (oi := _) (v := .bool true) rfl (by kernel_rfl) (by kernel_rfl) (by kernel_rfl) (fun _ _ _ h => h) (Or.inl ⟨by kernel_rfl, fun w hSw => ?_⟩) hHeld ?_
                            · (try dsimp only at hSw); go_simp
                            try simp only [Act.put, List.getElem_toArray, List.getElem_cons_succ, List.getElem_cons_zero, List.setIfInBounds_toArray, List.set_cons_zero, List.set_cons_succ]
                            refine wpAnyH_take (i := 32) (oi := _) (v := .string y) rfl (by kernel_rfl) (by kernel_rfl) (by kernel_rfl) (fun _ _ _ h => h) (Or.inl ⟨by kernel_rfl, fun w hSw => ?_⟩) hHeld ?_
                            · (try dsimp only at hSw); go_simp
                            try simp only [Act.put, List.getElem_toArray, List.getElem_cons_succ, List.getElem_cons_zero, List.setIfInBounds_toArray, List.set_cons_zero, List.set_cons_succ]
                            refine wpAnyH_take (i := 33) (oi := _) (v := .string y) rfl (by kernel_rfl) (by kernel_rfl) (by kernel_rfl) (fun _ _ _ h => h) (Or.inl ⟨by kernel_rfl, fun w hSw => ?_⟩) hHeld ?_
                            · (try dsimp only at hSw); go_simp
                            try simp only [Act.put, List.getElem_toArray, List.getElem_cons_succ, List.getElem_cons_zero, List.setIfInBounds_toArray, List.set_cons_zero, List.set_cons_succ]
                            refine wpAnyH_take (i := 34) (oi := _) (v := .bool false) rfl (by kernel_rfl) (by kernel_rfl) (by kernel_rfl) (fun _ _ _ h => h) (Or.inl ⟨by kernel_rfl, fun w hSw => ?_⟩) hHeld ?_
                            · (try dsimp only at hSw); go_simp
                            try simp only [Act.put, List.getElem_toArray, List.getElem_cons_succ, List.getElem_cons_zero, List.setIfInBounds_toArray, List.set_cons_zero, List.set_cons_succ]
                            refine wpAnyH_take (i := 35) (oi := _) (v := .bool false) rfl (by kernel_rfl) (by kernel_rfl) (by kernel_rfl) (fun _ _ _ h => h) (Or.inl ⟨by kernel_rfl, fun w hSw => ?_⟩) hHeld ?_
                            · (try dsimp only at hSw); go_simp
                            try simp only [Act.put, List.getElem_toArray, List.getElem_cons_succ, List.getElem_cons_zero, List.setIfInBounds_toArray, List.set_cons_zero, List.set_cons_succ]
                            refine wpAnyH_take (i := 36) (oi := _) (v := .bool false) rfl (by kernel_rfl) (by kernel_rfl) (by kernel_rfl) (fun _ _ _ h => h) (Or.inl ⟨by kernel_rfl, fun w hSw => ?_⟩) hHeld ?_
                            · (try dsimp only at hSw); go_simp
                            try simp only [Act.put, List.getElem_toArray, List.getElem_cons_succ, List.getElem_cons_zero, List.setIfInBounds_toArray, List.set_cons_zero, List.set_cons_succ]
                            refine wpAnyH_done (by kernel_rfl) ?_ _
                            clear hHeld
                            have HBz := Lib.hid (HB30.out.trans (HBx.out.mono HB30.out.size))
                            go_wp2_with fail
                            go_roundg cnt30
                            case rel => exact ⟨_, (Hrg1.out.keep rfl rfl), HO30.out.other HBx.out, HMo7.out.keep rfl, HBz.out⟩
                            case measure => exact hlt1
                          · have h1 := (Hy2.out hne).1
                            have h2 := (Hy2.out hne).2
                            have hNy : N ≤ y.size := by omega
                            have HX : Hid (y.extract 0 N = c.extract 0 N) := h1
                            have HMX : Hid (((y.size : Nat) : Int) = max ((N : Nat) : Int) ((O.size : Nat) : Int)) := by show _ = _; omega
                            have f1 : decide (c.toList = O.toList) = false := by rw [← toListEq]; exact decide_eq_false hne
                            have f2 : (c.toList == O.toList) = false := by rw [beq_eq_false_iff_ne]; exact of_decide_eq_false f1
                            have f3 : ¬ c.toList = O.toList := of_decide_eq_false f1
                            clear h1 h2 hne Hy2 Hy3
                            refine wp_region_held_drew (S := fun w' => Below w30.heap.size w30 w') (by kernel_rfl) ?_ (fun hHeld => ?_)
                            · exact HBx.out
                            refine wpAnyH_take (i := 0) (oi := _) (v := .string c) rfl (by kernel_rfl) (by kernel_rfl) (by kernel_rfl) (fun _ _ _ h => h) (Or.inl ⟨by kernel_rfl, fun w hSw => ?_⟩) hHeld ?_
                            · (try dsimp only at hSw); go_simp
                            try simp only [Act.put, List.getElem_toArray, List.getElem_cons_zero, List.setIfInBounds_toArray, List.set_cons_zero, List.set_cons_succ]
                            refine wpAnyH_take (i := 1) (oi := _) (v := .map (some bo)) rfl (by kernel_rfl) (by kernel_rfl) (by kernel_rfl) (fun _ _ _ h => h) (Or.inl ⟨by kernel_rfl, fun w hSw => ?_⟩) hHeld ?_
                            · (try dsimp only at hSw); go_simp
                            try simp only [Act.put, List.getElem_toArray, List.getElem_cons_succ, List.getElem_cons_zero, List.setIfInBounds_toArray, List.set_cons_zero, List.set_cons_succ]
                            refine wpAnyH_take (i := 2) (oi := _) (v := .string s) rfl (by kernel_rfl) (by kernel_rfl) (by kernel_rfl) (fun _ _ _ h => h) (Or.inl ⟨by kernel_rfl, fun w hSw => ?_⟩) hHeld ?_
                            · (try dsimp only at hSw); go_simp
                            try simp only [Act.put, List.getElem_toArray, List.getElem_cons_succ, List.getElem_cons_zero, List.setIfInBounds_toArray, List.set_cons_zero, List.set_cons_succ]
                            refine wpAnyH_take (i := 3) (oi := _) (v := .string O) rfl (by kernel_rfl) (by kernel_rfl) (by kernel_rfl) (fun _ _ _ h => h) (Or.inl ⟨by kernel_rfl, fun w hSw => ?_⟩) hHeld ?_
                            · (try dsimp only at hSw); have hh := HLK.out _ hSw; simp only [execOp]; go_simp
                            try simp only [Act.put, List.getElem_toArray, List.getElem_cons_succ, List.getElem_cons_zero, List.setIfInBounds_toArray, List.set_cons_zero, List.set_cons_succ]
                            refine wpAnyH_take (i := 4) (oi := _) (v := .bool true) rfl (by kernel_rfl) (by kernel_rfl) (by kernel_rfl) (fun _ _ _ h => h) (Or.inl ⟨by kernel_rfl, fun w hSw => ?_⟩) hHeld ?_
                            · (try dsimp only at hSw); go_simp
                            try simp only [Act.put, List.getElem_toArray, List.getElem_cons_succ, List.getElem_cons_zero, List.setIfInBounds_toArray, List.set_cons_zero, List.set_cons_succ]
                            refine wpAnyH_take (i := 5) (oi := _) (v := .bool true) rfl (by kernel_rfl) (by kernel_rfl) (by kernel_rfl) (fun _ _ _ h => h) (Or.inl ⟨by kernel_rfl, fun w hSw => ?_⟩) hHeld ?_
                            · (try dsimp only at hSw); go_simp
                            try simp only [Act.put, List.getElem_toArray, List.getElem_cons_succ, List.getElem_cons_zero, List.setIfInBounds_toArray, List.set_cons_zero, List.set_cons_succ]
                            refine wpAnyH_take (i := 6) (oi := _) (v := .string y) rfl (by kernel_rfl) (by kernel_rfl) (by kernel_rfl) (fun _ _ _ h => h) (Or.inl ⟨by kernel_rfl, fun w hSw => ?_⟩) hHeld ?_
                            · (try dsimp only at hSw); go_simp
                            try simp only [Act.put, List.getElem_toArray, List.getElem_cons_succ, List.getElem_cons_zero, List.setIfInBounds_toArray, List.set_cons_zero, List.set_cons_succ]
                            refine wpAnyH_take (i := 7) (oi := _) (v := .int .i64 ((N : Nat) : Int)) rfl (by kernel_rfl) (by kernel_rfl) (by kernel_rfl) (fun _ _ _ h => h) (Or.inl ⟨by kernel_rfl, fun w hSw => ?_⟩) hHeld ?_
                            · (try dsimp only at hSw); go_simp
                            try simp only [Act.put, List.getElem_toArray, List.getElem_cons_succ, List.getElem_cons_zero, List.setIfInBounds_toArray, List.set_cons_zero, List.set_cons_succ]
                            refine wpAnyH_take (i := 8) (oi := _) (v := .string (c.extract 0 N)) rfl (by kernel_rfl) (by kernel_rfl) (by kernel_rfl) (fun _ _ _ h => h) (Or.inl ⟨by kernel_rfl, fun w hSw => ?_⟩) hHeld ?_
                            · (try dsimp only at hSw); have hh := HX.out; go_simp
                            try simp only [Act.put, List.getElem_toArray, List.getElem_cons_succ, List.getElem_cons_zero, List.setIfInBounds_toArray, List.set_cons_zero, List.set_cons_succ]
                            refine wpAnyH_take (i := 9) (oi := _) (v := .string c) rfl (by kernel_rfl) (by kernel_rfl) (by kernel_rfl) (fun _ _ _ h => h) (Or.inl ⟨by kernel_rfl, fun w hSw => ?_⟩) hHeld ?_
                            · (try dsimp only at hSw); go_simp
                            try simp only [Act.put, List.getElem_toArray, List.getElem_cons_succ, List.getElem_cons_zero, List.setIfInBounds_toArray, List.set_cons_zero, List.set_cons_succ]
                            refine wpAnyH_take (i := 10) (oi := _) (v := .int .i64 ((N : Nat) : Int)) rfl (by kernel_rfl) (by kernel_rfl) (by kernel_rfl) (fun _ _ _ h => h) (Or.inl ⟨by kernel_rfl, fun w hSw => ?_⟩) hHeld ?_
                            · (try dsimp only at hSw); go_simp
                            try simp only [Act.put, List.getElem_toArray, List.getElem_cons_succ, List.getElem_cons_zero, List.setIfInBounds_toArray, List.set_cons_zero, List.set_cons_succ]
                            refine wpAnyH_take (i := 11) (oi := _) (v := .string (c.extract 0 N)) rfl (by kernel_rfl) (by kernel_rfl) (by kernel_rfl) (fun _ _ _ h => h) (Or.inl ⟨by kernel_rfl, fun w hSw => ?_⟩) hHeld ?_
                            · (try dsimp only at hSw); go_simp
                            try simp only [Act.put, List.getElem_toArray, List.getElem_cons_succ, List.getElem_cons_zero, List.setIfInBounds_toArray, List.set_cons_zero, List.set_cons_succ]
                            refine wpAnyH_take (i := 12) (oi := _) (v := .bool false) rfl (by kernel_rfl) (by kernel_rfl) (by kernel_rfl) (fun _ _ _ h => h) (Or.inl ⟨by kernel_rfl, fun w hSw => ?_⟩) hHeld ?_
                            · (try dsimp only at hSw); go_simp
                            try simp only [Act.put, List.getElem_toArray, List.getElem_cons_succ, List.getElem_cons_zero, List.setIfInBounds_toArray, List.set_cons_zero, List.set_cons_succ]
                            refine wpAnyH_take (i := 13) (oi := _) (v := .bool false) rfl (by kernel_rfl) (by kernel_rfl) (by kernel_rfl) (fun _ _ _ h => h) (Or.inl ⟨by kernel_rfl, fun w hSw => ?_⟩) hHeld ?_
                            · (try dsimp only at hSw); go_simp
                            try simp only [Act.put, List.getElem_toArray, List.getElem_cons_succ, List.getElem_cons_zero, List.setIfInBounds_toArray, List.set_cons_zero, List.set_cons_succ]
                            refine wpAnyH_take (i := 14) (oi := _) (v := .string y) rfl (by kernel_rfl) (by kernel_rfl) (by kernel_rfl) (fun _ _ _ h => h) (Or.inl ⟨by kernel_rfl, fun w hSw => ?_⟩) hHeld ?_
                            · (try dsimp only at hSw); go_simp
                            try simp only [Act.put, List.getElem_toArray, List.getElem_cons_succ, List.getElem_cons_zero, List.setIfInBounds_toArray, List.set_cons_zero, List.set_cons_succ]
                            refine wpAnyH_take (i := 15) (oi := _) (v := .int .i64 ((y.size : Nat) : Int)) rfl (by kernel_rfl) (by kernel_rfl) (by kernel_rfl) (fun _ _ _ h => h) (Or.inl ⟨by kernel_rfl, fun w hSw => ?_⟩) hHeld ?_
                            · (try dsimp only at hSw); go_simp
                            try simp only [Act.put, List.getElem_toArray, List.getElem_cons_succ, List.getElem_cons_zero, List.setIfInBounds_toArray, List.set_cons_zero, List.set_cons_succ]
                            refine wpAnyH_take (i := 16) (oi := _) (v := .int .i64 ((N : Nat) : Int)) rfl (by kernel_rfl) (by kernel_rfl) (by kernel_rfl) (fun _ _ _ h => h) (Or.inl ⟨by kernel_rfl, fun w hSw => ?_⟩) hHeld ?_
                            · (try dsimp only at hSw); go_simp
                            try simp only [Act.put, List.getElem_toArray, List.getElem_cons_succ, List.getElem_cons_zero, List.setIfInBounds_toArray, List.set_cons_zero, List.set_cons_succ]
                            refine wpAnyH_take (i := 17) (oi := _) (v := .map (some bo)) rfl (by kernel_rfl) (by kernel_rfl) (by kernel_rfl) (fun _ _ _ h => h) (Or.inl ⟨by kernel_rfl, fun w hSw => ?_⟩) hHeld ?_
                            · (try dsimp only at hSw); go_simp
                            try simp only [Act.put, List.getElem_toArray, List.getElem_cons_succ, List.getElem_cons_zero, List.setIfInBounds_toArray, List.set_cons_zero, List.set_cons_succ]
                            refine wpAnyH_take (i := 18) (oi := _) (v := .string s) rfl (by kernel_rfl) (by kernel_rfl) (by kernel_rfl) (fun _ _ _ h => h) (Or.inl ⟨by kernel_rfl, fun w hSw => ?_⟩) hHeld ?_
                            · (try dsimp only at hSw); go_simp
                            try simp only [Act.put, List.getElem_toArray, List.getElem_cons_succ, List.getElem_cons_zero, List.setIfInBounds_toArray, List.set_cons_zero, List.set_cons_succ]
                            refine wpAnyH_take (i := 19) (oi := _) (v := .string O) rfl (by kernel_rfl) (by kernel_rfl) (by kernel_rfl) (fun _ _ _ h => h) (Or.inl ⟨by kernel_rfl, fun w hSw => ?_⟩) hHeld ?_
                            · (try dsimp only at hSw); have hh := HLK.out _ hSw; simp only [execOp]; go_simp
                            try simp only [Act.put, List.getElem_toArray, List.getElem_cons_succ, List.getElem_cons_zero, List.setIfInBounds_toArray, List.set_cons_zero, List.set_cons_succ]
                            refine wpAnyH_take (i := 20) (oi := _) (v := .int .i64 ((O.size : Nat) : Int)) rfl (by kernel_rfl) (by kernel_rfl) (by kernel_rfl) (fun _ _ _ h => h) (Or.inl ⟨by kernel_rfl, fun w hSw => ?_⟩) hHeld ?_
                            · (try dsimp only at hSw); go_simp
                            try simp only [Act.put, List.getElem_toArray, List.getElem_cons_succ, List.getElem_cons_zero, List.setIfInBounds_toArray, List.set_cons_zero, List.set_cons_succ]
                            refine wpAnyH_take (i := 21) (oi := _) (v := .int .i64 (max ((N : Nat) : Int) ((O.size : Nat) : Int))) rfl (by kernel_rfl) (by kernel_rfl) (by kernel_rfl) (fun _ _ _ h => h) (Or.inl ⟨by kernel_rfl, fun w hSw => ?_⟩) hHeld ?_
                            · (try dsimp only at hSw); go_simp
                            try simp only [Act.put, List.getElem_toArray, List.getElem_cons_succ, List.getElem_cons_zero, List.setIfInBounds_toArray, List.set_cons_zero, List.set_cons_succ]
                            refine wpAnyH_take (i := 22) (oi := _) (v := .bool false) rfl (by kernel_rfl) (by kernel_rfl) (by kernel_rfl) (fun _ _ _ h => h) (Or.inl ⟨by kernel_rfl, fun w hSw => ?_⟩) hHeld ?_
                            · (try dsimp only at hSw); have hh := HMX.out; go_simp
                            try simp only [Act.put, List.getElem_toArray, List.getElem_cons_succ, List.getElem_cons_zero, List.setIfInBounds_toArray, List.set_cons_zero, List.set_cons_succ]
                            refine wpAnyH_take (i := 23) (oi := _) (v := .bool false) rfl (by kernel_rfl) (by kernel_rfl) (by kernel_rfl) (fun _ _ _ h => h) (Or.inl ⟨by kernel_rfl, fun w hSw => ?_⟩) hHeld ?_
                            · (try dsimp only at hSw); go_simp
                            try simp only [Act.put, List.getElem_toArray, List.getElem_cons_succ, List.getElem_cons_zero, List.setIfInBounds_toArray, List.set_cons_zero, List.set_cons_succ]
                            refine wpAnyH_take (i := 24) (oi := _) (v := .bool false) rfl (by kernel_rfl) (by kernel_rfl) (by kernel_rfl) (fun _ _ _ h => h) (Or.inl ⟨by kernel_rfl, fun w hSw => ?_⟩) hHeld ?_
                            · (try dsimp only at hSw); go_simp
                            try simp only [Act.put, List.getElem_toArray, List.getElem_cons_succ, List.getElem_cons_zero, List.setIfInBounds_toArray, List.set_cons_zero, List.set_cons_succ]
                            refine wpAnyH_take (i := 25) (oi := _) (v := .bool false) rfl (by kernel_rfl) (by kernel_rfl) (by kernel_rfl) (fun _ _ _ h => h) (Or.inl ⟨by kernel_rfl, fun w hSw => ?_⟩) hHeld ?_
                            · (try dsimp only at hSw); go_simp
                            try simp only [Act.put, List.getElem_toArray, List.getElem_cons_succ, List.getElem_cons_zero, List.setIfInBounds_toArray, List.set_cons_zero, List.set_cons_succ]
                            refine wpAnyH_take (i := 26) (oi := _) (v := .string c) rfl (by kernel_rfl) (by kernel_rfl) (by kernel_rfl) (fun _ _ _ h => h) (Or.inl ⟨by kernel_rfl, fun w hSw => ?_⟩) hHeld ?_
                            · (try dsimp only at hSw); go_simp
                            try simp only [Act.put, List.getElem_toArray, List.getElem_cons_succ, List.getElem_cons_zero, List.setIfInBounds_toArray, List.set_cons_zero, List.set_cons_succ]
                            refine wpAnyH_take (i := 27) (oi := _) (v := .map (some bo)) rfl (by kernel_rfl) (by kernel_rfl) (by kernel_rfl) (fun _ _ _ h => h) (Or.inl ⟨by kernel_rfl, fun w hSw => ?_⟩) hHeld ?_
                            · (try dsimp only at hSw); go_simp
                            try simp only [Act.put, List.getElem_toArray, List.getElem_cons_succ, List.getElem_cons_zero, List.setIfInBounds_toArray, List.set_cons_zero, List.set_cons_succ]
                            refine wpAnyH_take (i := 28) (oi := _) (v := .string s) rfl (by kernel_rfl) (by kernel_rfl) (by kernel_rfl) (fun _ _ _ h => h) (Or.inl ⟨by kernel_rfl, fun w hSw => ?_⟩) hHeld ?_
                            · (try dsimp only at hSw); go_simp
                            try simp only [Act.put, List.getElem_toArray, List.getElem_cons_succ, List.getElem_cons_zero, List.setIfInBounds_toArray, List.set_cons_zero, List.set_cons_succ]
                            refine wpAnyH_take (i := 29) (oi := _) (v := .string O) rfl (by kernel_rfl) (by kernel_rfl) (by kernel_rfl) (fun _ _ _ h => h) (Or.inl ⟨by kernel_rfl, fun w hSw => ?_⟩) hHeld ?_
                            · (try dsimp only at hSw); have hh := HLK.out _ hSw; simp only [execOp]; go_simp
                            try simp only [Act.put, List.getElem_toArray, List.getElem_cons_succ, List.getElem_cons_zero, List.setIfInBounds_toArray, List.set_cons_zero, List.set_cons_succ]
                            refine wpAnyH_take (i := 30) (oi := _) (v := .bool false) rfl (by kernel_rfl) (by kernel_rfl) (by kernel_rfl) (fun _ _ _ h => h) (Or.inl ⟨by kernel_rfl, fun w hSw => ?_⟩) hHeld ?_
                            · (try dsimp only at hSw); go_simp
                            try simp only [Act.put, List.getElem_toArray, List.getElem_cons_succ, List.getElem_cons_zero, List.setIfInBounds_toArray, List.set_cons_zero, List.set_cons_succ]
                            refine wpAnyH_take (i := 31) (oi := _) (v := .bool false) rfl (by kernel_rfl) (by kernel_rfl) (by kernel_rfl) (fun _ _ _ h => h) (Or.inl ⟨by kernel_rfl, fun w hSw => ?_⟩) hHeld ?_
                            · (try dsimp only at hSw); go_simp
                            try simp only [Act.put, List.getElem_toArray, List.getElem_cons_succ, List.getElem_cons_zero, List.setIfInBounds_toArray, List.set_cons_zero, List.set_cons_succ]
                            refine wpAnyH_take (i := 32) (oi := _) (v := undef) rfl (by kernel_rfl) (by kernel_rfl) (by kernel_rfl) (fun _ _ _ h => h) (Or.inr ⟨by kernel_rfl, rfl⟩) hHeld ?_
                            try simp only [Act.put, List.getElem_toArray, List.getElem_cons_succ, List.getElem_cons_zero, List.setIfInBounds_toArray, List.set_cons_zero, List.set_cons_succ]
                            refine wpAnyH_take (i := 33) (oi := _) (v := undef) rfl (by kernel_rfl) (by kernel_rfl) (by kernel_rfl) (fun _ _ _ h => h) (Or.inr ⟨by kernel_rfl, rfl⟩) hHeld ?_
                            try simp only [Act.put, List.getElem_toArray, List.getElem_cons_succ, List.getElem_cons_zero, List.setIfInBounds_toArray, List.set_cons_zero, List.set_cons_succ]
                            refine wpAnyH_take (i := 34) (oi := _) (v := undef) rfl (by kernel_rfl) (by kernel_rfl) (by kernel_rfl) (fun _ _ _ h => h) (Or.inr ⟨by kernel_rfl, rfl⟩) hHeld ?_
                            try simp only [Act.put, List.getElem_toArray, List.getElem_cons_succ, List.getElem_cons_zero, List.setIfInBounds_toArray, List.set_cons_zero, List.set_cons_succ]
                            refine wpAnyH_take (i := 35) (oi := _) (v := .bool false) rfl (by kernel_rfl) (by kernel_rfl) (by kernel_rfl) (fun _ _ _ h => h) (Or.inl ⟨by kernel_rfl, fun w hSw => ?_⟩) hHeld ?_
                            · (try dsimp only at hSw); go_simp
                            try simp only [Act.put, List.getElem_toArray, List.getElem_cons_succ, List.getElem_cons_zero, List.setIfInBounds_toArray, List.set_cons_zero, List.set_cons_succ]
                            refine wpAnyH_take (i := 36) (oi := _) (v := .bool false) rfl (by kernel_rfl) (by kernel_rfl) (by kernel_rfl) (fun _ _ _ h => h) (Or.inl ⟨by kernel_rfl, fun w hSw => ?_⟩) hHeld ?_
                            · (try dsimp only at hSw); go_simp
                            try simp only [Act.put, List.getElem_toArray, List.getElem_cons_succ, List.getElem_cons_zero, List.setIfInBounds_toArray, List.set_cons_zero, List.set_cons_succ]
                            refine wpAnyH_done (by kernel_rfl) ?_ _
                            clear hHeld
                            have HBz := Lib.hid (HB30.out.trans (HBx.out.mono HB30.out.size))
                            go_wp2_with fail
                            go_roundg cnt30
                            case rel => exact ⟨_, (Hrg1.out.keep rfl rfl), HO30.out.other HBx.out, HMo7.out.keep rfl, HBz.out⟩
                            case measure => exact hlt1
                    · intro s c w24 cnt24 hs hls hfs hrg1 hlt1 hg1 hz1 hen
                      have hcs : nowG d4.fs s = some c := fill_some (by rw [Hks4.out]; exact hfs)
                      obtain ⟨x4, hx4, hxc⟩ := nowG_get hcs
                      have hnm : nameB s = true := (HP4.out.get hx4).1.ok
                      have hcz : c.size ≤ 200 := by rw [← hxc]; exact (HG4.out.get hx4).2.1
                      have HO24 : Hid (One w24 w.heap.size (r :: X8) a d6) := HO6.out.grown (k := r) (by simp) hg1 (fun j e => by injection e with e; exact e.symm)
                      have HB24 := Lib.hid (HB6.out.grown hg1 HB6.out.size (fun k e => by injection e with e; omega))
                      have hbr : some bo ≠ some r := fun e => hboR (by injection e)
                      have HMo4 := Lib.hid (HMo.out.grown hg1 hbr)
                      have WF := Lib.hid (one_writeF HB24.out.size HO24.out (good10 (by omega) (HWR.out.good HSB.out HG4.out HG5.out)) HWR.out.free hnm (show c.size ≤ 30000 by omega))
                      have HWR2 : Hid (WriteR d4 d5 (fun x => left x && !decide (x = s)) { d6 with fs := fput d6.fs s ⟨c, safeG d6.fs s⟩ }) := by
                        have h := HWR.out.step hls (by rw [hcs]; rfl)
                        rw [nowOf_some hcs] at h
                        exact h
                      have Hrg1 := Lib.hid hrg1
                      clear hcs hx4 hxc hnm hls hfs hrg1 hg1 hz1 hbr
                      go_wp2_with fail
                      refine WF.out.mono ?_
                      rintro e25 w25 ⟨rfl, hO25, hK25⟩
                      have HO25 := Lib.hid hO25
                      have Hrg2 := Lib.hid (Hrg1.out.keep (hK25.2 bm (by simp [hmX])) (hK25.2 r (by simp)))
                      have HMo5 := Lib.hid (HMo4.out.keep (hK25.2 bo (by simp [hoX])))
                      have HB25 := Lib.hid (HB24.out.trans hK25.1)
                      clear hO25 hK25 WF hen
                      go_wp2_with fail
                      go_roundg cnt24
                      case rel => exact ⟨_, _, Hrg2.out, HO25.out, HWR2.out, HMo5.out, HB25.out⟩
                      case measure => exact hlt1
end Go.Proofs.YtodmnogoacghpaaDoor
