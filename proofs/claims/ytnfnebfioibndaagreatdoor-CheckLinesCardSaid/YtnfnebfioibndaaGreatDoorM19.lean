/- check.Needs: who would miss one that went. -/
import Derived.Test.YtnfnebfioibndaaGreatDoorM18
namespace Go.Proofs.YtnfnebfioibndaaGreatDoor
open Go.RowKit
set_option maxRecDepth 100000
set_option maxHeartbeats 4000000

theorem needs_calls (kv : Value) (ks : List KnownD) (which : Nat) (w : World) (hK : Knowns w kv ks) (hF : FitK ks) (h40 : ∀ k ∈ ks, k.pack.depends.length ≤ 40 ∧ k.pack.ahead.length ≤ 40) (hwh : which < ks.length) :
    Calls Tryz.prog 13 #[kv, .int .i64 ((which : Nat) : Int)] w (NeedsR w ks which) := by
  have HK00 := Lib.hid hK
  obtain ⟨R, ⟨a, cap, rfl, hcap, hmax, hcell⟩, hO⟩ := hK
  unfold maxLen at hmax
  obtain ⟨bp, op, rfl, hbp, hcp⟩ := hcell.resolve_left (by omega)
  obtain ⟨m, hm⟩ : ∃ m, ks.length = m := ⟨_, rfl⟩
  have hm20 := hF.len
  rw [hm] at hcap hcp hO hm20 hwh ⊢
  have HK0 : Hid (Knowns w (.slice (some ⟨bp, op, none⟩) m cap) ks) := by have := HK00; rwa [hm] at this
  obtain ⟨i0, hi0, hz0, hz1, hz2⟩ := info_parts info_offer
  obtain ⟨i1, hi1, hy0, hy1, hy2⟩ := info_parts info_int
  have Hi0 := Lib.hid (And.intro hi0 (And.intro hz0 (And.intro hz1 hz2)))
  have Hi1 := Lib.hid (And.intro hi1 (And.intro hy0 (And.intro hy1 hy2)))
  obtain ⟨w0, hw0⟩ : ∃ w0 : World, w0 = w.alloc (.cells #[.slice (some ⟨bp, op, none⟩) m cap] 32) := ⟨_, rfl⟩
  have hB0 : Below w.heap.size w w0 := by rw [hw0]; go_grown
  have hzw : w0.heap.size = w.heap.size + 1 := by rw [hw0]; simp
  have hl0 : w0.cell? ⟨w.heap.size, 0, none⟩ = some (.slice (some ⟨bp, op, none⟩) m cap) := by rw [hw0]; simp [go_sem]
  have HK := Lib.hid (HK0.out.below hB0 (Nat.le_refl _))
  have Hcp : Hid (∀ i, i < m → w0.rangeAt bp (op + i * 20) (row20 (R i))) := fun i hi => rangeAt_row20 fun j hj => (hB0.cell (p := ⟨bp, op + i * 20 + j, none⟩) hbp).trans (hcp i j hi hj)
  have HO : Hid (∀ i, i < m → KnownOk w0 (ks.getD i KnownD.none) (R i)) := fun i hi => (hO i hi).below hB0 (Nat.le_refl _)
  have hbp0 : bp < w0.heap.size := by omega
  have Hl0 := Lib.hid hl0
  have HB0 := Lib.hid hB0
  have Hw0 := Lib.hid hw0
  have HF := Lib.hid hF
  have H40 := Lib.hid h40
  have Hm := Lib.hid hm
  have Hzw : Hid (w0.heap.size = w.heap.size + 1) := hzw
  have Hwl : Hid (w.heap.size < w0.heap.size) := by show _ < _; omega
  clear h40 hcell hcp hO hm hi0 hz0 hz1 hz2 hi1 hy0 hy1 hy2 hl0 hB0 hw0 hF hzw HK00 HK0
  go_enter Tryz.func13, Tryz.ntmps13
  go_wp2_with fail
  rw [show w.alloc (.cells _ _) = w0 from Hw0.out.symm]
  obtain ⟨wA, hwA⟩ : ∃ wA : World, wA = (w0.alloc (.cells #[.int .i64 ((which : Nat) : Int)] 3)).alloc (.cells #[.slice (some ⟨w.heap.size + 1, 0, none⟩) 1 1] 31) := ⟨_, rfl⟩
  obtain ⟨Bg, hBg⟩ : ∃ Bg, w.heap.size + 1 + 1 = Bg := ⟨_, rfl⟩
  have hzw := Hzw.out
  have hBA : Below w0.heap.size w0 wA := by rw [hwA]; exact ((Below.refl _ _).alloc (Nat.le_refl _) _).alloc (by simp) _
  have hGW : GoneW w0.heap.size wA Bg (.slice (some ⟨w.heap.size + 1, 0, none⟩) 1 1) [((which : Nat) : Int)] := by
    rw [hwA, ← hBg, ← hzw]
    refine ⟨?_, ?_⟩
    · have := heap_alloc_new (w0.alloc (.cells #[.int .i64 ((which : Nat) : Int)] 3)) (.cells #[.slice (some ⟨w0.heap.size, 0, none⟩) 1 1] 31)
      simpa using this
    · exact World.ownsRow.alloc ⟨rfl, Or.inr ⟨w0.heap.size, 1, #[.int .i64 ((which : Nat) : Int)], rfl, Nat.le_refl _, heap_alloc_new w0 _, Nat.le_refl _, by decide, rfl, rfl⟩⟩ _
  have HGW := Lib.hid hGW
  have HBA := Lib.hid hBA
  have HBg : Hid (w0.heap.size < Bg) := by show _ < _; omega
  rw [show (w0.alloc (.cells #[.int .i64 ((which : Nat) : Int)] 3)).alloc (.cells #[.slice (some ⟨w.heap.size + 1, 0, none⟩) 1 1] 31) = wA from hwA.symm]
  rw [hBg]
  clear hwA hBg hzw hBA hGW
  go_loopg [6] ((leftK ks [((which : Nat) : Int)] ks.length).length + 1) (fun k v6 wr => ∃ (b : Bool) (g : List Int) (gv : Value), v6 = .bool b ∧ GoneD ks ((which : Nat) : Int) g ∧ (b = false → nextG ks g = none) ∧ k = (leftK ks g ks.length).length + (if b then 1 else 0) ∧ GoneW w0.heap.size wr Bg gv g ∧ Below w0.heap.size w0 wr)
  case atStart => exact ⟨true, _, _, rfl, GoneD.start ks _, (fun h => by cases h), rfl, HGW.out, HBA.out⟩
  case round =>
    clear HGW HBA
    obtain ⟨b, g, gv, rfl, hG, hN, hk, hW, hB⟩ := hrel
    obtain ⟨wo, rfl⟩ : ∃ wo : World, wo = wr := ⟨_, rfl⟩
    have hgl := hG.lens
    have hgp := hG.pos
    rw [Hm.out] at hgl
    obtain ⟨gb, gc, rfl, hgb, hgw⟩ := hW.row.form hgp
    obtain ⟨n, hn⟩ : ∃ n, g.length = n := ⟨_, rfl⟩
    obtain ⟨hrow, hrow2⟩ : ∃ _ : wo.ownsRow w0.heap.size 3 1 (.slice (some ⟨gb, 0, none⟩) n gc) n (g.map (Value.int .i64)), True := ⟨by have := hW.row; rwa [hn] at this, trivial⟩
    obtain ⟨-, hngc, hgcm, -, -⟩ := tail_ints hrow (by omega)
    rw [hn] at hW hgp hgl
    have hno : n ≤ 21 := by omega
    have HG := Lib.hid hG
    have HN := Lib.hid hN
    have Hk := Lib.hid hk
    have Hn := Lib.hid hn
    have HW := Lib.hid hW
    have Hrow := Lib.hid hrow
    have HBo := Lib.hid hB
    have hlw : w.heap.size < wo.heap.size := Nat.lt_of_lt_of_le Hwl.out hB.size
    have hsw : w0.heap.size ≤ wo.heap.size := hB.size
    have hgwl := hW.lt
    clear hG hN hk hW hrow hrow2 hB hn hgl
    have HHo : Hid (∀ w', Below wo.heap.size wo w' → w'.cell? ⟨Bg, 0, none⟩ = some (.slice (some ⟨gb, 0, none⟩) n gc) ∧ w'.cell? ⟨w.heap.size, 0, none⟩ = some (.slice (some ⟨bp, op, none⟩) m cap)) := fun w' hb =>
      ⟨(hb.cell (p := ⟨Bg, 0, none⟩) hgwl).trans HW.out.cell, ((HBo.out.trans (hb.mono HBo.out.size)).cell (p := ⟨w.heap.size, 0, none⟩) Hwl.out).trans Hl0.out⟩
    have HLC : Hid (∀ (i : Nat), i < m → ∀ w', Below wo.heap.size wo w' → Calls Tryz.prog 40 #[.int .i64 ((i : Nat) : Int), .pointer (some ⟨Bg, 0, none⟩), .pointer (some ⟨w.heap.size, 0, none⟩)] w' fun e w'' => e = .returned (.bool (keepsW ks g i)) ∧ Below w'.heap.size w' w'') := fun i hi w' hb =>
      left_calls i ks g (.slice (some ⟨gb, 0, none⟩) n gc) (.slice (some ⟨bp, op, none⟩) m cap) Bg w.heap.size w' (HHo.out w' hb).1 (HHo.out w' hb).2 (by have := (HW.out.below hb).ints; exact this) (HK.out.below (HBo.out.trans (hb.mono HBo.out.size)) (Nat.le_refl _)) (by rw [Hm.out]; exact hi) (by rw [Hn.out]; omega)
    cases b
    case' false =>
      have HNx : Hid (nextG ks g = none) := HN.out rfl
      have cg := (HHo.out wo (Below.refl _ _)).1
      have hrow := Hrow.out
      have hln : g.tail.length = n - 1 := by rw [List.length_tail, Hn.out]
      have hOI := OwnI.of_row (o := 1) hrow (by omega)
      rw [List.drop_one] at hOI
      have HOI := Lib.hid hOI
      have Hln := Lib.hid hln
      have HSO : Hid (∀ c, g.tail.length ≤ c → Calls Tryz.prog 43 #[.slice (some ⟨gb, 1, none⟩) g.tail.length c] wo fun e w' => e = .returned (.tuple #[]) ∧ ∃ n os, w' = Sort.grow (Sort.putRow (Value.int .i64) (Sort.ahead wo n) gb 1 (g.tail.mergeSort fun x y => decide (x ≤ y)).toArray) os) := fun c _ => Tryz.slices_Sort_int gb 1 c g.tail wo HOI.out.hold HOI.out.lt (by rw [Hln.out]; omega)
      clear hrow hln hOI HLC
      by_cases hc1 : gc = 1
      · subst hc1
        obtain rfl : n = 1 := by omega
        have CS := Lib.hid (Tryz.slices_Sort_int_none (some ⟨gb, 0, none⟩) 0 wo)
        go_wp2_with fail
        refine CS.out.mono ?_
        rintro e1 w1 ⟨rfl, rfl⟩
        go_wp2_with fail
        go_ret
        have e0 : sortZ g.tail = [] := List.eq_nil_of_length_eq_zero (by rw [sortZ_len, Hln.out])
        refine ⟨_, g, rfl, HG.out, HNx.out, ?_, HB0.out.trans (HBo.out.mono HB0.out.size)⟩
        rw [e0]
        exact ⟨⟨_, 0, rfl, Nat.le_refl _, Nat.zero_le _, Or.inl rfl⟩, trivial⟩
      · have CS0 := HSO.out (gc - 1) (by rw [Hln.out]; omega)
        rw [Hln.out] at CS0
        have CS := Lib.hid CS0
        clear CS0 HSO
        go_wp2_with fail
        refine CS.out.mono ?_
        rintro e1 w1 ⟨rfl, n9, os9, hw9⟩
        obtain ⟨hI9, hg9⟩ := HOI.out.sorted (c := gc - 1) (by rw [Hln.out]; omega) (by unfold maxLen; omega) hw9
        rw [Hln.out] at hI9
        have HI9 := Lib.hid hI9
        have hb9 : Below w0.heap.size w0 w1 := HBo.out.grown hg9 HBo.out.size (fun k e => by injection e with e; rw [← e]; exact HOI.out.le)
        have HB9 := Lib.hid (HB0.out.trans (hb9.mono HB0.out.size))
        clear hI9 hg9 hw9 hb9 CS
        go_wp2_with fail
        go_ret
        exact ⟨_, g, rfl, HG.out, HNx.out, HI9.out, HB9.out⟩
    have cl := (HHo.out wo (Below.refl _ _)).2
    go_wp2_with fail
    clear cl
    go_loopg [8, 24] m (fun k v8 v24 wr => ∃ (i : Nat) (ov : Value) (os : List OffD), ov = v8 ∧ v24 = .int .i64 i ∧ i ≤ m ∧ k = m - i ∧ wr.ownsRow wo.heap.size 73 5 ov (os).length (rowsOf (os)) ∧ os.map OffD.bare = leftK ks g i ∧ (∀ o ∈ os, Terms w0 o.pv o.provides) ∧ os.length ≤ i ∧ Below wo.heap.size wo wr)
    case atStart => exact ⟨0, _, [], rfl, rfl, Nat.zero_le _, rfl, World.ownsRow_nil _ _ _ _, rfl, by simp, Nat.le_refl _, Below.refl _ _⟩
    case round =>
      obtain ⟨i, ov, os, rfl, rfl, hi, hk, hown, hbare, hterm, hos, hB⟩ := hrel
      have Hk2 := Lib.hid hk
      have Hown := Lib.hid hown
      have Hbare := Lib.hid hbare
      have Hterm := Lib.hid hterm
      have Hos := Lib.hid hos
      have hBw : Below w0.heap.size w0 wr := HBo.out.trans (hB.mono HBo.out.size)
      clear hk hown hbare hterm hos
      by_cases hlt : i < m
      · have CL := Lib.hid (HLC.out i hlt wr hB)
        cases hkp : keepsW ks g i
        · rw [hkp] at CL
          have HPS : Hid (os.map OffD.bare = leftK ks g (i + 1)) := by show _ = _; rw [leftK_no hkp]; exact Hbare.out
          clear hkp
          go_wp2_with fail
          refine CL.out.mono ?_
          rintro e1 w1 ⟨rfl, hb1⟩
          have hB1 := hB.trans (hb1.mono hB.size)
          have Hown1 := Lib.hid (owns_below Hown.out hb1)
          clear hb1 CL
          go_wp2_with fail
          go_roundg (m - (i + 1))
          case rel => exact ⟨i + 1, _, os, rfl, by go_num, by omega, rfl, Hown1.out, HPS.out, Hterm.out, by have := Hos.out; omega, hB1⟩
          case measure => have := Hk2.out; omega
        · rw [hkp] at CL
          obtain ⟨q, hq⟩ : ∃ q, ks.getD i KnownD.none = q := ⟨_, rfl⟩
          have hkn := HO.out i hlt
          rw [hq] at hkn
          have HR0 := Hcp.out i hlt
          obtain ⟨s, e, u, r, hd, wl, tl, kp⟩ := q
          obtain ⟨fw, nw, qw, ft, nt, qt, f4, n4, q4, f5, n5, q5, f6, n6, q6, f7, n7, q7, f8, n8, q8, f9, n9, q9, f10, n10, q10, f11, n11, q11, fa, fn, fc, eR, hV, -, -⟩ := hkn.cells
          dsimp only at eR hV
          rw [eR] at HR0
          have HR7 := Lib.hid (rangeAt_at7 HR0)
          have HV := Lib.hid hV
          have HPS : Hid ((os ++ [(⟨kp.name, kp.ep, kp.up, kp.rv, .slice f9 n9 q9, kp.provides⟩ : OffD)]).map OffD.bare = leftK ks g (i + 1)) := by
            show _ = _
            rw [leftK_yes hkp, List.map_append, Hbare.out, hq]
            rfl
          have HOK : Hid (∀ o ∈ os ++ [(⟨kp.name, kp.ep, kp.up, kp.rv, .slice f9 n9 q9, kp.provides⟩ : OffD)], Terms w0 o.pv o.provides) := by
            intro o ho
            rcases List.mem_append.1 ho with h | h
            · exact Hterm.out o h
            · rw [List.mem_singleton.1 h]
              exact HV.out.provides
          have hos2 : os.length ≤ i := Hos.out
          clear hkp HR0 eR hV hkn hq
          go_wp2_with fail
          refine CL.out.mono ?_
          rintro e1 w1 ⟨rfl, hb1⟩
          have hB1 := hB.trans (hb1.mono hB.size)
          have Hown1 := Lib.hid (owns_below Hown.out hb1)
          have hB1w : Below w0.heap.size w0 w1 := HBo.out.trans (hB1.mono HBo.out.size)
          have HR8 : Hid (w1.rangeAt bp (op + i * 20 + 7) [.string kp.name, .int .i64 kp.ep, .string kp.up, .string kp.rv, .slice f4 n4 q4, .slice f5 n5 q5, .slice f6 n6 q6, .slice f7 n7 q7, .slice f8 n8 q8, .slice f9 n9 q9, .slice f10 n10 q10, .slice f11 n11 q11, .slice fa fn fc]) := rangeAt_below HR7.out hB1w hbp0
          have cl := (HHo.out w1 hB1).2
          have OFC := Lib.hid (fun W => offer_of_calls kp (.slice f4 n4 q4) (.slice f5 n5 q5) (.slice f6 n6 q6) (.slice f7 n7 q7) (.slice f8 n8 q8) (.slice f9 n9 q9) (.slice f10 n10 q10) (.slice f11 n11 q11) fa fn fc W ⟨_, _, _, rfl⟩)
          clear hb1 CL hBw
          go_wp2_with (refine wpList_load_mid (by rfl) 30 _ (by rfl) bp (op + i * 20 + 7) (by rfl) _ _ HR8.out Tryz.underlying30 (by rfl) (by kernel_rfl) ?_)
          refine (OFC.out _).mono ?_
          rintro e2 w2 ⟨rfl, hb2⟩
          have hB2 := hB1.trans (hb2.mono hB1.size)
          have Hown2 := Lib.hid (owns_below Hown1.out hb2)
          have hsz2 : wo.heap.size ≤ w2.heap.size := hB2.size
          clear hb2 hB hB1 hB1w cl OFC
          go_wp2_with (at_builtin; refine wpList_append_own _ rfl _ _ 70 rfl wo.heap.size 73 i0 _ 5 80 Tryz.underlying70 Hi0.out.1 Hi0.out.2.1 Hi0.out.2.2.1 Hi0.out.2.2.2 rfl (by decide) ov os.length (rowsOf os) rfl (Hown2.out.alloc _) ⟨w2.heap.size, 0, none⟩ 1 1 [.string kp.name, .int .i64 kp.ep, .string kp.up, .string kp.rv, .slice f9 n9 q9] rfl rfl (World.news_of_block (cs := #[.string kp.name, .int .i64 kp.ep, .string kp.up, .string kp.rv, .slice f9 n9 q9]) (t := 73) (fr := (0, 0)) (heap_alloc_new w2 _)) (by simp [Value.oneCell']) (by unfold maxLen; omega) (by omega) (by simp; omega) ?_)
          intro v' w' hown3 hgrow _
          have hB3 : Below wo.heap.size wo w' := (hB2.alloc hB2.size _).grown hgrow (by simp; have := hB2.size; omega) (fun k e => (Hown2.out.lt _ e).1)
          have Hown3 : Hid (w'.ownsRow wo.heap.size 73 5 v' (os ++ [(⟨kp.name, kp.ep, kp.up, kp.rv, .slice f9 n9 q9, kp.provides⟩ : OffD)]).length (rowsOf (os ++ [(⟨kp.name, kp.ep, kp.up, kp.rv, .slice f9 n9 q9, kp.provides⟩ : OffD)]))) := by
            show World.ownsRow _ _ _ _ _ _ _
            rw [rowsOf_snoc, List.length_append]
            exact hown3
          clear hown3 hgrow
          go_wp2_with fail
          go_roundg (m - (i + 1))
          case rel => exact ⟨i + 1, _, _, rfl, by go_num, by omega, rfl, Hown3.out, HPS.out, HOK.out, by simp; omega, hB3⟩
          case measure => have := Hk2.out; omega
      · obtain rfl : m = i := by omega
        have cl := (HHo.out wr hB).2
        have Hq := Lib.hid hB
        have hszq := hB.size
        obtain ⟨wq, rfl⟩ : ∃ wq : World, wq = wr := ⟨_, rfl⟩
        have HOs : Hid (∀ w', Below wq.heap.size wq w' → Offs w' ov os ∧ ∀ o ∈ os, OffOk w' o) := by
          intro w' hb
          have hbw : Below w0.heap.size w0 w' := (HBo.out.trans (Hq.out.mono HBo.out.size)).trans (hb.mono (Nat.le_trans HBo.out.size Hq.out.size))
          refine ⟨offs_owned (owns_below Hown.out hb), fun o ho => small_of_bare HF.out ((Hterm.out o ho).below hbw (Nat.le_refl _)) (leftK_mem (g := g) (n := m) (by rw [Hm.out]; exact Nat.le_refl _) ?_)⟩
          rw [← Hbare.out]
          exact List.mem_map_of_mem ho
        have HMB : Hid (oneO os = oneK (leftK ks g ks.length)) := by show _ = _; rw [oneO_K, Hbare.out, Hm.out]
        clear Hk2 Hos hB hBw
        go_wp2_with fail
        clear cl
        go_loopg [6, 42] m (fun k v6 v42 wr => ∃ i : Nat, v6 = .bool false ∧ v42 = .int .i64 i ∧ i ≤ m ∧ k = m - i ∧ (List.range i).any (missB ks g) = false ∧ Below wq.heap.size wq wr)
        case atStart => exact ⟨0, rfl, rfl, Nat.zero_le _, rfl, rfl, Below.refl _ _⟩
        case round =>
          obtain ⟨i, rfl, rfl, hi, hk, hany, hBq⟩ := hrel
          have Hk3 := Lib.hid hk
          have Hany := Lib.hid hany
          have hB : Below wo.heap.size wo wr := Hq.out.trans (hBq.mono Hq.out.size)
          have hBw : Below w0.heap.size w0 wr := HBo.out.trans (hB.mono HBo.out.size)
          clear hk hany
          by_cases hlt : i < m
          · obtain ⟨q, hq⟩ : ∃ q, ks.getD i KnownD.none = q := ⟨_, rfl⟩
            have hkn := HO.out i hlt
            have hmem : ks.getD i KnownD.none ∈ ks := mem_getD _ (by rw [Hm.out]; exact hlt)
            rw [hq] at hkn hmem
            have hsm := HF.out.small _ hmem
            have h40 := H40.out _ hmem
            have HR0 := rangeAt_below (Hcp.out i hlt) hBw hbp0
            obtain ⟨s, e, u, r, hd, wl, tl, kp⟩ := q
            obtain ⟨fw, nw, qw, ft, nt, qt, f4, n4, q4, f5, n5, q5, f6, n6, q6, f7, n7, q7, f8, n8, q8, f9, n9, q9, f10, n10, q10, f11, n11, q11, fa, fn, fc, eR, hV, -, -⟩ := hkn.cells
            dsimp only at eR hV hsm h40
            rw [eR] at HR0
            have HR := Lib.hid HR0
            have HV := Lib.hid hV
            have Hqq := Lib.hid hq
            have Hsm := Lib.hid hsm
            have Hf40 := Lib.hid h40
            obtain ⟨wt, hwt⟩ : ∃ wt : World, wt = wr.alloc (.cells #[.int .i64 s, .int .i64 e, .string u, .string r, .bool hd, .slice fw nw qw, .slice ft nt qt, .string kp.name, .int .i64 kp.ep, .string kp.up, .string kp.rv, .slice f4 n4 q4, .slice f5 n5 q5, .slice f6 n6 q6, .slice f7 n7 q7, .slice f8 n8 q8, .slice f9 n9 q9, .slice f10 n10 q10, .slice f11 n11 q11, .slice fa fn fc] 61) := ⟨_, rfl⟩
            have hBt : Below wq.heap.size wq wt := by rw [hwt]; exact hBq.alloc hBq.size _
            have hRn : wt.rangeAt wr.heap.size 0 [.int .i64 s, .int .i64 e, .string u, .string r, .bool hd, .slice fw nw qw, .slice ft nt qt, .string kp.name, .int .i64 kp.ep, .string kp.up, .string kp.rv, .slice f4 n4 q4, .slice f5 n5 q5, .slice f6 n6 q6, .slice f7 n7 q7, .slice f8 n8 q8, .slice f9 n9 q9, .slice f10 n10 q10, .slice f11 n11 q11, .slice fa fn fc] := by rw [hwt]; exact rangeAt_new _ _ _
            have HRn := Lib.hid hRn
            have hlt2 : wr.heap.size < wt.heap.size := by rw [hwt]; simp
            have Hwt := Lib.hid hwt
            have hBto : Below wo.heap.size wo wt := Hq.out.trans (hBt.mono Hq.out.size)
            have CL := Lib.hid (HLC.out i hlt wt hBto)
            have HMS : Hid (keepsW ks g i = false → missB ks g i = false) := fun h => by unfold missB; rw [h]; rfl
            have hszr := hB.size
            clear HR0 eR hV hkn hq hmem hsm h40 hwt hRn
            cases hkp : keepsW ks g i
            · rw [hkp] at CL
              have HA : Hid ((List.range (i + 1)).any (missB ks g) = false) := anyR_step Hany.out (HMS.out hkp)
              clear hkp
              go_wp2_with (first
                | (refine wpList_load_mid (by rfl) 61 _ (by rfl) bp (op + i * 20) (by rfl) _ _ HR.out Tryz.underlying61 (by rfl) (by kernel_rfl) ?_)
                | (refine wpList_store_mid (by rfl) 61 _ _ (by rfl) wr.heap.size 0 #[.int .i64 s, .int .i64 e, .string u, .string r, .bool hd, .slice fw nw qw, .slice ft nt qt, .string kp.name, .int .i64 kp.ep, .string kp.up, .string kp.rv, .slice f4 n4 q4, .slice f5 n5 q5, .slice f6 n6 q6, .slice f7 n7 q7, .slice f8 n8 q8, .slice f9 n9 q9, .slice f10 n10 q10, .slice f11 n11 q11, .slice fa fn fc] (by rfl) (by rfl) (there_new _ _ _ _ (by rfl)) (by kernel_rfl) (by simp [Value.oneCell']) ?_; rw [setCells_new _ _ _ _ (by rfl)]; rw [show wr.alloc (.cells _ _) = wt from Hwt.out.symm]))
              refine CL.out.mono ?_
              rintro e1 w1 ⟨rfl, hb1⟩
              have hB1 := hBt.trans (hb1.mono hBt.size)
              clear hb1 CL
              go_wp2_with fail
              go_roundg (m - (i + 1))
              case rel => exact ⟨i + 1, rfl, by go_num, by omega, rfl, HA.out, hB1⟩
              case measure => have := Hk3.out; omega
            · rw [hkp] at CL
              have Hkp := Lib.hid hkp
              clear hkp HMS
              go_wp2_with (first
                | (refine wpList_load_mid (by rfl) 61 _ (by rfl) bp (op + i * 20) (by rfl) _ _ HR.out Tryz.underlying61 (by rfl) (by kernel_rfl) ?_)
                | (refine wpList_store_mid (by rfl) 61 _ _ (by rfl) wr.heap.size 0 #[.int .i64 s, .int .i64 e, .string u, .string r, .bool hd, .slice fw nw qw, .slice ft nt qt, .string kp.name, .int .i64 kp.ep, .string kp.up, .string kp.rv, .slice f4 n4 q4, .slice f5 n5 q5, .slice f6 n6 q6, .slice f7 n7 q7, .slice f8 n8 q8, .slice f9 n9 q9, .slice f10 n10 q10, .slice f11 n11 q11, .slice fa fn fc] (by rfl) (by rfl) (there_new _ _ _ _ (by rfl)) (by kernel_rfl) (by simp [Value.oneCell']) ?_; rw [setCells_new _ _ _ _ (by rfl)]; rw [show wr.alloc (.cells _ _) = wt from Hwt.out.symm]))
              refine CL.out.mono ?_
              rintro e1 w1 ⟨rfl, hb1⟩
              have hB1 := hBt.trans (hb1.mono hBt.size)
              have d11 : w1.cell? ⟨wr.heap.size, 11, none⟩ = some (.slice f4 n4 q4) := (hb1.cell (p := ⟨wr.heap.size, 11, none⟩) hlt2).trans (HRn.out 11 _ rfl)
              have d12 : w1.cell? ⟨wr.heap.size, 12, none⟩ = some (.slice f5 n5 q5) := (hb1.cell (p := ⟨wr.heap.size, 12, none⟩) hlt2).trans (HRn.out 12 _ rfl)
              have hlt3 : wr.heap.size < w1.heap.size := Nat.lt_of_lt_of_le hlt2 hb1.size
              have hB1o : Below wo.heap.size wo w1 := Hq.out.trans (hB1.mono Hq.out.size)
              have hB1w : Below w0.heap.size w0 w1 := HBo.out.trans (hB1o.mono HBo.out.size)
              obtain ⟨vd, hvd, had⟩ := (HV.out.depends.below hB1w (Nat.le_refl _)).vals
              obtain ⟨va, hva, haa⟩ := (HV.out.ahead.below hB1w (Nat.le_refl _)).vals
              have ld := had.len
              have la := haa.len
              have hf40 := Hf40.out
              obtain ⟨wy, hwy⟩ : ∃ wy : World, wy = w1.alloc (.cells #[.slice f4 n4 q4, .slice f5 n5 q5] 25) := ⟨_, rfl⟩
              have hby : Below w1.heap.size w1 wy := by rw [hwy]; exact (Below.refl _ _).alloc (Nat.le_refl _) _
              have CC := Lib.hid (concatL_calls w1.heap.size (.slice f4 n4 q4) (.slice f5 n5 q5) vd va wy (by rw [hwy]; simp [go_sem]) (by rw [hwy]; simp [go_sem]) (hvd.below hby (Nat.le_refl _)) (hva.below hby (Nat.le_refl _)) (by omega) (by omega))
              have Hwy := Lib.hid hwy
              have Hby := Lib.hid hby
              have Hda := Lib.hid (had.append haa)
              have HB1 := Lib.hid hB1
              clear hb1 CL hBt hvd had hva haa ld la hf40 hwy hby hB1 hBto
              go_wp2_with fail
              rw [show w1.alloc (.cells _ _) = wy from Hwy.out.symm]
              go_wp2_with fail
              refine CC.out.mono ?_
              rintro e2 w2 ⟨nv, rfl, hnv, hb2⟩
              have HB2 : Hid (Below w1.heap.size w1 w2) := Hby.out.trans (hb2.mono Hby.out.size)
              have HLS : Hid (Lists w2 nv (needOf (ks.getD i KnownD.none))) := by
                have h1 := lists_of_vals hnv (Hda.out.below HB2.out (Nat.le_refl _))
                show Lists _ _ _
                unfold needOf
                rw [Hqq.out]
                exact h1
              obtain ⟨an, nn, cn, rfl⟩ := HLS.out.slice
              have HBq2 : Hid (Below wq.heap.size wq w2) := HB1.out.trans (HB2.out.mono HB1.out.size)
              have HBo2 : Hid (Below wo.heap.size wo w2) := Hq.out.trans (HBq2.out.mono Hq.out.size)
              have HBw2 : Hid (Below w0.heap.size w0 w2) := HBo.out.trans (HBo2.out.mono HBo.out.size)
              have cl2 := (HHo.out w2 HBo2.out).2
              have HS3 : Hid (∀ l ∈ needOf (ks.getD i KnownD.none), ∀ t ∈ l, SmallT t) := by
                intro l hl
                unfold needOf at hl
                rw [Hqq.out] at hl
                rcases List.mem_append.1 hl with h | h
                · exact Hsm.out.depends l h
                · exact Hsm.out.ahead l h
              have CO := Lib.hid (offersK_calls (.slice (some ⟨bp, op, none⟩) m cap) ks w2 (HK.out.below HBw2.out (Nat.le_refl _)) (by rw [Hm.out]; exact hm20))
              clear hnv hb2 CC d11 d12
              go_wp2_with fail
              refine CO.out.mono ?_
              rintro e3 w3 ⟨ov3, os3, rfl, hown3, hps3, hok3, hln3, hb3⟩
              have HOf3 := Lib.hid (offs_owned hown3)
              have HOk3 : Hid (∀ o ∈ os3, OffOk w3 o) := by
                intro o ho
                refine small_of_bare HF.out ((hok3 o ho).below hb3 (Nat.le_refl _)) (worksK_mem ?_)
                unfold worksK
                rw [← hps3]
                exact List.mem_map_of_mem ho
              have HBq3 : Hid (Below wq.heap.size wq w3) := HBq2.out.trans (hb3.mono HBq2.out.size)
              have HLS3 := Lib.hid (HLS.out.below hb3 (Nat.le_refl _))
              have CM := Lib.hid (met_calls (.slice an nn cn) ov3 (needOf (ks.getD i KnownD.none)) os3 w3 HLS3.out HOf3.out HOk3.out HS3.out)
              rw [oneO_K, hps3] at CM
              clear hown3 hps3 hok3 hln3 hb3 CO cl2
              go_wp2_with fail
              refine CM.out.mono ?_
              rintro e4 w4 ⟨rfl, hb4⟩
              obtain ⟨z1, hz1⟩ : ∃ z, (metR (oneK (worksK ks)) (needOf (ks.getD i KnownD.none))).1 = z := ⟨_, rfl⟩
              obtain ⟨p1, hp1⟩ : ∃ z, (metR (oneK (worksK ks)) (needOf (ks.getD i KnownD.none))).2 = z := ⟨_, rfl⟩
              have hz1' : (metR (oneK ((ks.filter (fun k => worksV k.state)).map KnownD.bare)) (needOf (ks.getD i KnownD.none))).1 = z1 := hz1
              have hp1' : (metR (oneK ((ks.filter (fun k => worksV k.state)).map KnownD.bare)) (needOf (ks.getD i KnownD.none))).2 = p1 := hp1
              rw [hz1', hp1']
              have Hp1 := Lib.hid hp1
              have HBq4 : Hid (Below wq.heap.size wq w4) := HBq3.out.trans (hb4.mono HBq3.out.size)
              have HLS4 := Lib.hid (HLS3.out.below hb4 (Nat.le_refl _))
              have CM2 := Lib.hid (met_calls (.slice an nn cn) ov (needOf (ks.getD i KnownD.none)) os w4 HLS4.out (HOs.out w4 HBq4.out).1 (HOs.out w4 HBq4.out).2 HS3.out)
              rw [HMB.out] at CM2
              clear hb4 CM hz1 hp1 hz1' hp1'
              go_wp2_with fail
              refine CM2.out.mono ?_
              rintro e5 w5 ⟨rfl, hb5⟩
              obtain ⟨z2, hz2⟩ : ∃ z, (metR (oneK (leftK ks g ks.length)) (needOf (ks.getD i KnownD.none))).1 = z := ⟨_, rfl⟩
              obtain ⟨p2, hp2⟩ : ∃ z, (metR (oneK (leftK ks g ks.length)) (needOf (ks.getD i KnownD.none))).2 = z := ⟨_, rfl⟩
              rw [hz2, hp2]
              have HBq5 : Hid (Below wq.heap.size wq w5) := HBq4.out.trans (hb5.mono HBq4.out.size)
              have HMI : Hid (missB ks g i = (p1 && !p2)) := by show _ = _; unfold missB; rw [Hkp.out, Hp1.out, hp2]; rfl
              clear hb5 CM2 hz2 hp2
              cases p1
              · have HA : Hid ((List.range (i + 1)).any (missB ks g) = false) := anyR_step Hany.out HMI.out
                go_wp2_with fail
                go_roundg (m - (i + 1))
                case rel => exact ⟨i + 1, rfl, by go_num, by omega, rfl, HA.out, HBq5.out⟩
                case measure => have := Hk3.out; omega
              · cases p2
                · have HNX : Hid (nextG ks g = some i) := next_at (by rw [Hm.out]; exact hlt) Hany.out HMI.out
                  have HBo5 : Hid (Below wo.heap.size wo w5) := Hq.out.trans (HBq5.out.mono Hq.out.size)
                  have HBw5 : Hid (Below w0.heap.size w0 w5) := HBo.out.trans (HBo5.out.mono HBo.out.size)
                  have HW5 := Lib.hid (HW.out.below HBo5.out)
                  have cg := HW5.out.cell
                  have fg := HW5.out.free
                  have hg5 := HW5.out.lt
                  have Hrow5 : Hid (w5.ownsRow w0.heap.size 3 1 (.slice (some ⟨gb, 0, none⟩) n gc) n (g.map (Value.int .i64))) := owns_below Hrow.out HBo5.out
                  have hs5 : w0.heap.size ≤ w5.heap.size := HBw5.out.size
                  go_wp2_with (at_builtin; refine wpList_append_own _ rfl _ _ 31 rfl w0.heap.size 3 i1 _ 1 8 Tryz.underlying31 Hi1.out.1 Hi1.out.2.1 Hi1.out.2.2.1 Hi1.out.2.2.2 rfl (by decide) (.slice (some ⟨gb, 0, none⟩) n gc) n (g.map (Value.int .i64)) rfl (Hrow5.out.alloc _) ⟨w5.heap.size, 0, none⟩ 1 1 [.int .i64 ((i : Nat) : Int)] rfl rfl (World.news_of_block (cs := #[.int .i64 ((i : Nat) : Int)]) (t := 3) (fr := (0, 0)) (heap_alloc_new w5 _)) (by simp [Value.oneCell']) (by unfold maxLen; omega) (by omega) (by simp; omega) ?_)
                  intro v6 w' hown6 hgrow _
                  obtain ⟨g6, c6, rfl, -, -⟩ := hown6.form (by omega)
                  have hWn : GoneW w0.heap.size (w'.setCell ⟨Bg, 0, none⟩ (.slice (some ⟨g6, 0, none⟩) (n + 1) c6)) Bg (.slice (some ⟨g6, 0, none⟩) (n + 1) c6) (g ++ [((i : Nat) : Int)]) := by
                    refine HW5.out.push ((Below.refl _ _).alloc (Nat.le_refl _) _) ?_ hgrow
                    rw [List.map_append, List.length_append, Hn.out]
                    exact hown6
                  have hgrow2 := hgrow
                  have HWn := Lib.hid hWn
                  have HBn : Hid (Below w0.heap.size w0 (w'.setCell ⟨Bg, 0, none⟩ (.slice (some ⟨g6, 0, none⟩) (n + 1) c6))) := ((HBw5.out.alloc HBw5.out.size _).grown hgrow (by simp; omega) (fun k e => (Hrow5.out.lt _ e).1)).setCell (by show _ ≤ Bg; have := HBg.out; omega) _
                  have hcg' : w'.cell? ⟨Bg, 0, none⟩ = some (.slice (some ⟨gb, 0, none⟩) n gc) := by
                    have h1 := HW5.out.below ((Below.refl w5.heap.size w5).alloc (Nat.le_refl _) (.cells #[.int .i64 ((i : Nat) : Int)] 3))
                    rw [hgrow.cell_far ⟨Bg, 0, none⟩ h1.lt (fun e => h1.ne e.symm)]
                    exact h1.cell
                  have hfg' : w'.frozen? ⟨Bg, 0, none⟩ = false := by
                    have h1 := HW5.out.below ((Below.refl w5.heap.size w5).alloc (Nat.le_refl _) (.cells #[.int .i64 ((i : Nat) : Int)] 3))
                    rw [hgrow.frozen_far ⟨Bg, 0, none⟩ h1.lt (fun e => h1.ne e.symm)]
                    exact h1.free
                  have hBl' : Bg < w'.heap.size := by have := hgrow.size; simp at this; omega
                  have HGn := Lib.hid (HG.out.next HNX.out)
                  have HLt := Lib.hid (left_lt HNX.out)
                  clear hown6 hgrow hgrow2 hWn cg fg hg5
                  go_wp2_with fail
                  go_roundg ((leftK ks (g ++ [((i : Nat) : Int)]) ks.length).length + 1)
                  case rel => exact ⟨true, _, (.slice (some ⟨g6, 0, none⟩) (n + 1) c6), rfl, HGn.out, (fun h => by cases h), rfl, HWn.out, HBn.out⟩
                  case measure => have h2 := Hk.out; have h1 := HLt.out; simp only [if_true] at h2; omega
                · have HA : Hid ((List.range (i + 1)).any (missB ks g) = false) := anyR_step Hany.out HMI.out
                  go_wp2_with fail
                  go_roundg (m - (i + 1))
                  case rel => exact ⟨i + 1, rfl, by go_num, by omega, rfl, HA.out, HBq5.out⟩
                  case measure => have := Hk3.out; omega
          · obtain rfl : m = i := by omega
            have HNX : Hid (nextG ks g = none) := next_no (by rw [Hm.out]; exact Hany.out)
            go_wp2_with fail
            go_roundg (leftK ks g ks.length).length
            case rel => exact ⟨false, g, _, rfl, HG.out, fun _ => HNX.out, rfl, HW.out.below hB, hBw⟩
            case measure => have h2 := Hk.out; simp only [if_true] at h2; omega
end Go.Proofs.YtnfnebfioibndaaGreatDoor
