/- stevedoreref.Needs: who would miss one that went. -/
import Derived.Test.YtnfnebfioibndaaGreatDoorM18
namespace Go.Proofs.YtnfnebfioibndaaGreatDoor
open Go.RowKit
set_option maxRecDepth 100000
set_option maxHeartbeats 4000000

theorem refNeeds_calls (kv : Value) (ks : List KnownD) (which : Nat) (w : World) (hK : Knowns w kv ks) (hF : FitK ks) (h40 : ∀ k ∈ ks, k.pack.depends.length ≤ 40 ∧ k.pack.ahead.length ≤ 40) (hwh : which < ks.length) :
    Calls Tryz.prog 14 #[kv, .int .i64 ((which : Nat) : Int)] w (NeedsR w ks which) := by
  have HK00 := Lib.hid hK
  obtain ⟨R, ⟨a, cap, rfl, hcap, hmax, hcell⟩, hO⟩ := hK
  unfold maxLen at hmax
  obtain ⟨bp, op, rfl, hbp, hcp⟩ := hcell.resolve_left (by omega)
  obtain ⟨m, hm⟩ : ∃ m, ks.length = m := ⟨_, rfl⟩
  have hm20 := hF.len
  rw [hm] at hcap hcp hO hm20 hwh ⊢
  have HK : Hid (Knowns w (.slice (some ⟨bp, op, none⟩) m cap) ks) := by have := HK00; rwa [hm] at this
  obtain ⟨i1, hi1, hy0, hy1, hy2⟩ := info_parts info_int
  have Hi1 := Lib.hid (And.intro hi1 (And.intro hy0 (And.intro hy1 hy2)))
  obtain ⟨i2, hi2, hx0, hx1, hx2⟩ := info_parts info_terms
  have Hi2 := Lib.hid (And.intro hi2 (And.intro hx0 (And.intro hx1 hx2)))
  have HO := Lib.hid hO
  have Hcp := Lib.hid hcp
  have HF := Lib.hid hF
  have H40 := Lib.hid h40
  have Hm := Lib.hid hm
  have hIN := in_calls ((which : Nat) : Int) 0 ((m : Int) - 1) w
  rw [show (decide ((0 : Int) ≤ ((which : Nat) : Int)) && decide (((which : Nat) : Int) ≤ (m : Int) - 1)) = true by simp; omega] at hIN
  have IN := Lib.hid hIN
  have eww : ((m : Nat) : Int) - 1 = (((m : Nat) : Int) - 1) := rfl
  clear hcell hcp hO hm hi1 hy0 hy1 hy2 hi2 hx0 hx1 hx2 hF h40 HK00 hIN eww
  go_enter Tryz.func14, Tryz.ntmps14
  go_wp2_with fail
  refine IN.out.mono ?_
  rintro e0 w00 ⟨rfl, rfl⟩
  clear IN
  go_wp2_with fail
  have hown0 : (w.alloc (.cells #[.int .i64 ((which : Nat) : Int)] 3)).ownsRow w.heap.size 3 1 (.slice (some ⟨w.heap.size, 0, none⟩) 1 1) 1 [.int .i64 ((which : Nat) : Int)] := ⟨rfl, Or.inr ⟨w.heap.size, 1, #[.int .i64 ((which : Nat) : Int)], rfl, Nat.le_refl _, heap_alloc_new w _, Nat.le_refl _, by decide, rfl, rfl⟩⟩
  have Hown0 := Lib.hid hown0
  clear hown0
  go_loopg [5] (leftK ks [((which : Nat) : Int)] ks.length).length (fun k v5 wr => ∃ (g : List Int) (gv : Value), gv = v5 ∧ GoneD ks ((which : Nat) : Int) g ∧ k = (leftK ks g ks.length).length ∧ wr.ownsRow w.heap.size 3 1 gv (g).length ((g).map (Value.int .i64)) ∧ Below w.heap.size w wr)
  case atStart => exact ⟨_, _, rfl, GoneD.start ks _, rfl, Hown0.out, (Below.refl _ _).alloc (Nat.le_refl _) _⟩
  case round =>
    clear Hown0
    obtain ⟨g, gv, rfl, hG, hk, hown, hB⟩ := hrel
    obtain ⟨wo, rfl⟩ : ∃ wo : World, wo = wr := ⟨_, rfl⟩
    have hgl := hG.lens
    have hgp := hG.pos
    rw [Hm.out] at hgl
    obtain ⟨gb, gc, rfl, hgb, hgw⟩ := hown.form hgp
    have hIg := ints_owned hown
    obtain ⟨n, hn⟩ : ∃ n, g.length = n := ⟨_, rfl⟩
    obtain ⟨-, -, hgcm, -, -⟩ := tail_ints (by rw [hn] at hown; exact hown) (by omega)
    rw [hn] at hown hIg hgp hgl
    obtain ⟨hngc⟩ : Nonempty (n ≤ gc) := ⟨(tail_ints hown (by omega)).2.1⟩
    have HG := Lib.hid hG
    have Hk := Lib.hid hk
    have Hn := Lib.hid hn
    have Hown := Lib.hid hown
    have HIg := Lib.hid hIg
    have HBo := Lib.hid hB
    rw [hn]
    have hno : n ≤ 21 := by omega
    clear hG hk hown hIg hB hn hgl
    go_wp2_with fail
    go_loopg [6, 7] m (fun k v6 v7 wr => ∃ (i : Nat) (x : Int), v6 = .int .i64 x ∧ v7 = .int .i64 (((i : Nat) : Int) - 1) ∧ i ≤ m ∧ k = i ∧ LeastN ks g i x ∧ -1 ≤ x ∧ x < m ∧ Below wo.heap.size wo wr)
    case atStart => exact ⟨m, -1, rfl, rfl, Nat.le_refl _, rfl, by have := LeastN.start ks g; rwa [Hm.out] at this, by omega, by omega, Below.refl _ _⟩
    case round =>
      obtain ⟨i, x, rfl, rfl, hi, hk, hL, hx1, hx2, hBw⟩ := hrel
      have Hk2 := Lib.hid hk
      have HL := Lib.hid hL
      clear hk hL
      have hB : Below w.heap.size w wr := HBo.out.trans (hBw.mono HBo.out.size)
      rcases i with _ | j
      · have ez : (((0 : Nat) : Int) - 1) = -1 := rfl
        rw [ez]
        clear ez
        have Hxb := Lib.hid (And.intro hx1 hx2)
        by_cases hx0 : x < 0
        · have HN : Hid (nextG ks g = none) := HL.out.none hx0
          have e1 : decide (x < 0) = true := decide_eq_true hx0
          have Hown1 := Lib.hid (owns_below Hown.out hBw)
          obtain ⟨wz, hwz⟩ : ∃ wz : World, wz = wr.alloc (.cells #[] 3) := ⟨_, rfl⟩
          have hBz : Below w.heap.size w wz := by rw [hwz]; exact hB.alloc hB.size _
          have hownz : wz.ownsRow w.heap.size 3 1 (.slice (some ⟨wr.heap.size, 0, none⟩) 0 0) ([] : List Int).length (([] : List Int).map (Value.int .i64)) := by
            rw [hwz]
            exact ⟨rfl, Or.inr ⟨wr.heap.size, 0, #[], rfl, hB.size, heap_alloc_new wr _, Nat.le_refl _, Nat.zero_le _, rfl, rfl⟩⟩
          have hIt : ∀ v, Ints wr v g.tail → ∃ v4 w4, (Builtin.append_ #[31, 31] 31 #[.slice (some ⟨wr.heap.size, 0, none⟩) 0 0, v]).run Tryz.prog wz = .ok v4 w4 ∧ w4.ownsRow w.heap.size 3 1 v4 g.tail.length (g.tail.map (Value.int .i64)) ∧ Below w.heap.size w w4 := by
            intro v hv
            obtain ⟨v4, w4, h1, h2, h3⟩ := append_ints Hi1.out hownz (hv.below (by rw [hwz]; exact (Below.refl wr.heap.size wr).alloc (Nat.le_refl _) _) (Nat.le_refl _)) (by have := Hn.out; simp; omega) hBz.size 31
            exact ⟨v4, w4, h1, h2, hBz.grown h3 hBz.size (fun k e => (hownz.lt _ e).1)⟩
          have Hwz := Lib.hid hwz
          have hIT : Hid (∀ v4 w4, w4.ownsRow w.heap.size 3 1 v4 g.tail.length (g.tail.map (Value.int .i64)) → Below w.heap.size w w4 → (g.tail.length = 0 ∧ ∃ p c, v4 = .slice p 0 c ∧ c ≤ maxLen) ∨ ∃ gg cc, v4 = .slice (some ⟨gg, 0, none⟩) g.tail.length cc ∧ OwnI w.heap.size w4 gg 0 g.tail ∧ g.tail.length ≤ cc ∧ cc ≤ maxLen) := by
            intro v4 w4 h1 _
            rcases Nat.eq_zero_or_pos g.tail.length with hz | hp
            · refine Or.inl ⟨hz, ?_⟩
              rcases h1.2 with ⟨e, _⟩ | ⟨b, c, cur, e, _, _, _, hcm, _⟩
              · exact ⟨_, _, e, Nat.zero_le _⟩
              · rw [hz] at e
                exact ⟨_, _, e, hcm⟩
            · obtain ⟨gg, cc, rfl, _, _⟩ := h1.form hp
              have h2 := OwnI.of_row (o := 0) h1 (Nat.zero_le _)
              have h3 := (tail_ints h1 hp)
              exact Or.inr ⟨gg, cc, rfl, h2, h3.2.1, by unfold maxLen; have := h3.2.2.1; omega⟩
          have Hit := Lib.hid hIt
          clear hx1 hx2 hx0 HL hBz hownz hwz hIt
          by_cases hc1 : gc = 1
          · subst hc1
            obtain rfl : n = 1 := by omega
            have HE : Hid (Ints wr (.slice (some ⟨gb, 0, none⟩) 0 0) g.tail) := by
              have := (tail_ints Hown1.out (by decide)).2.2.2.1 rfl rfl
              rw [this]
              exact ⟨⟨_, 0, rfl, Nat.le_refl _, Nat.zero_le _, Or.inl rfl⟩, trivial⟩
            obtain ⟨v4, w4, hr4, hown4, hB4⟩ := Hit.out _ HE.out
            have HV4 := Lib.hid (hIT.out v4 w4 hown4 hB4)
            have Hr4 := Lib.hid hr4
            have HB4 := Lib.hid hB4
            clear hr4 hown4 hB4 Hit hIT
            rcases HV4.out with ⟨hz, p, c, rfl, hpc⟩ | ⟨gg, cc, rfl, hOI, hcc, hcm⟩
            · have HZ := Lib.hid (And.intro hz hpc)
              have CS := Lib.hid (Tryz.sort_Ints_none p c w4)
              clear hz hpc HV4
              go_wp2_with (at_builtin; rw [show wr.alloc (.cells #[] _) = wz from Hwz.out.symm]; refine Lib.wpList_append_run _ rfl _ _ 31 31 rfl _ _ rfl rfl _ _ Hr4.out ?_)
              refine CS.out.mono ?_
              rintro e9 w9 ⟨rfl, rfl⟩
              go_wp2_with fail
              go_ret
              refine ⟨_, g, rfl, HG.out, HN.out, ?_, HB4.out⟩
              have e0 : sortZ g.tail = [] := List.eq_nil_of_length_eq_zero (by rw [sortZ_len]; exact HZ.out.1)
              rw [e0]
              exact ⟨⟨p, c, rfl, Nat.zero_le _, HZ.out.2, Or.inl rfl⟩, trivial⟩
            · have hh := hOI.hold
              obtain ⟨ln, hln⟩ : ∃ ln, g.tail.length = ln := ⟨_, rfl⟩
              have CS := Tryz.sort_Ints gg 0 cc g.tail w4 hh hOI.lt (by have := Hn.out; simp; omega)
              rw [hln] at CS Hr4 hcc
              have HCS := Lib.hid CS
              have HOI := Lib.hid hOI
              have Hln := Lib.hid hln
              have Hcc := Lib.hid (And.intro hcc hcm)
              clear CS hOI hln hcc hcm hh HV4
              go_wp2_with (at_builtin; rw [show wr.alloc (.cells #[] _) = wz from Hwz.out.symm]; refine Lib.wpList_append_run _ rfl _ _ 31 31 rfl _ _ rfl rfl _ _ Hr4.out ?_)
              refine HCS.out.mono ?_
              rintro e9 w9 ⟨rfl, n9, os9, hw9⟩
              obtain ⟨hI9, hg9⟩ := HOI.out.sorted (by rw [Hln.out]; exact Hcc.out.1) Hcc.out.2 hw9
              rw [Hln.out] at hI9
              have HI9 := Lib.hid hI9
              have HB9 := Lib.hid (HB4.out.grown hg9 HB4.out.size (fun k e => by injection e with e; rw [← e]; exact HOI.out.le))
              clear hI9 hg9 hw9
              go_wp2_with fail
              go_ret
              exact ⟨_, g, rfl, HG.out, HN.out, HI9.out, HB9.out⟩
          · have HE : Hid (Ints wr (.slice (some ⟨gb, 1, none⟩) (n - 1) (gc - 1)) g.tail) := (tail_ints Hown1.out hgp).2.2.2.2
            obtain ⟨v4, w4, hr4, hown4, hB4⟩ := Hit.out _ HE.out
            have HV4 := Lib.hid (hIT.out v4 w4 hown4 hB4)
            have Hr4 := Lib.hid hr4
            have HB4 := Lib.hid hB4
            clear hr4 hown4 hB4 Hit hIT
            rcases HV4.out with ⟨hz, p, c, rfl, hpc⟩ | ⟨gg, cc, rfl, hOI, hcc, hcm⟩
            · have HZ := Lib.hid (And.intro hz hpc)
              have CS := Lib.hid (Tryz.sort_Ints_none p c w4)
              clear hz hpc HV4
              go_wp2_with (at_builtin; rw [show wr.alloc (.cells #[] _) = wz from Hwz.out.symm]; refine Lib.wpList_append_run _ rfl _ _ 31 31 rfl _ _ rfl rfl _ _ Hr4.out ?_)
              refine CS.out.mono ?_
              rintro e9 w9 ⟨rfl, rfl⟩
              go_wp2_with fail
              go_ret
              refine ⟨_, g, rfl, HG.out, HN.out, ?_, HB4.out⟩
              have e0 : sortZ g.tail = [] := List.eq_nil_of_length_eq_zero (by rw [sortZ_len]; exact HZ.out.1)
              rw [e0]
              exact ⟨⟨p, c, rfl, Nat.zero_le _, HZ.out.2, Or.inl rfl⟩, trivial⟩
            · have hh := hOI.hold
              obtain ⟨ln, hln⟩ : ∃ ln, g.tail.length = ln := ⟨_, rfl⟩
              have CS := Tryz.sort_Ints gg 0 cc g.tail w4 hh hOI.lt (by have := Hn.out; simp; omega)
              rw [hln] at CS Hr4 hcc
              have HCS := Lib.hid CS
              have HOI := Lib.hid hOI
              have Hln := Lib.hid hln
              have Hcc := Lib.hid (And.intro hcc hcm)
              clear CS hOI hln hcc hcm hh HV4
              go_wp2_with (at_builtin; rw [show wr.alloc (.cells #[] _) = wz from Hwz.out.symm]; refine Lib.wpList_append_run _ rfl _ _ 31 31 rfl _ _ rfl rfl _ _ Hr4.out ?_)
              refine HCS.out.mono ?_
              rintro e9 w9 ⟨rfl, n9, os9, hw9⟩
              obtain ⟨hI9, hg9⟩ := HOI.out.sorted (by rw [Hln.out]; exact Hcc.out.1) Hcc.out.2 hw9
              rw [Hln.out] at hI9
              have HI9 := Lib.hid hI9
              have HB9 := Lib.hid (HB4.out.grown hg9 HB4.out.size (fun k e => by injection e with e; rw [← e]; exact HOI.out.le))
              clear hI9 hg9 hw9
              go_wp2_with fail
              go_ret
              exact ⟨_, g, rfl, HG.out, HN.out, HI9.out, HB9.out⟩
        · obtain ⟨b, rfl, hb1, hb2⟩ := HL.out.some (by omega)
          have e1 : decide (((b : Nat) : Int) < 0) = false := decide_eq_false hx0
          have Hnx := Lib.hid hb2
          have Hown1 := Lib.hid (owns_below Hown.out hBw)
          have hsz := hB.size
          clear hx1 hx2 hx0 HL hb2
          go_wp2_with (at_builtin; refine wpList_append_own _ rfl _ _ 31 rfl w.heap.size 3 i1 _ 1 8 Tryz.underlying31 Hi1.out.1 Hi1.out.2.1 Hi1.out.2.2.1 Hi1.out.2.2.2 rfl (by decide) (.slice (some ⟨gb, 0, none⟩) n gc) n (g.map (Value.int .i64)) rfl (Hown1.out.alloc _) ⟨wr.heap.size, 0, none⟩ 1 1 [.int .i64 ((b : Nat) : Int)] rfl rfl (World.news_of_block (cs := #[.int .i64 ((b : Nat) : Int)]) (t := 3) (fr := (0, 0)) (heap_alloc_new wr _)) (by simp [Value.oneCell']) (by unfold maxLen; omega) (by omega) (by simp; omega) ?_)
          intro v' w' hown2 hgrow _
          have hB2 : Below w.heap.size w w' := (hB.alloc hB.size _).grown hgrow (by simp; omega) (fun k e => (Hown1.out.lt _ e).1)
          have HGn := Lib.hid (HG.out.next Hnx.out)
          have hown3 : w'.ownsRow w.heap.size 3 1 v' (g ++ [((b : Nat) : Int)]).length ((g ++ [((b : Nat) : Int)]).map (Value.int .i64)) := by
            rw [List.map_append, List.length_append, Hn.out]
            exact hown2
          have Hown3 := Lib.hid hown3
          have HB2 := Lib.hid hB2
          clear hown2 hgrow hown3 hB2
          go_wp2_with fail
          go_roundg (leftK ks (g ++ [((b : Nat) : Int)]) ks.length).length
          case rel => exact ⟨_, _, rfl, HGn.out, rfl, Hown3.out, HB2.out⟩
          case measure => rw [Hk.out]; exact left_lt Hnx.out
      · have ez : (((j + 1 : Nat) : Int) - 1) = ((j : Nat) : Int) := by omega
        rw [ez]
        clear ez
        have hlt : j < m := by omega
        obtain ⟨q, hq⟩ : ∃ q, ks.getD j KnownD.none = q := ⟨_, rfl⟩
        have hkn := HO.out j hlt
        have hmem : ks.getD j KnownD.none ∈ ks := mem_getD _ (by rw [Hm.out]; exact hlt)
        rw [hq] at hkn hmem
        have hsm := HF.out.small _ hmem
        have h40 := H40.out _ hmem
        have HR0 : wr.rangeAt bp (op + j * 20) (row20 (R j)) := rangeAt_row20 fun j' hj' => (hB.cell (p := ⟨bp, op + j * 20 + j', none⟩) hbp).trans (Hcp.out j j' hlt hj')
        obtain ⟨s, e, u, r, hd, wl, tl, kp⟩ := q
        obtain ⟨fw, nw, qw, ft, nt, qt, f4, n4, q4, f5, n5, q5, f6, n6, q6, f7, n7, q7, f8, n8, q8, f9, n9, q9, f10, n10, q10, f11, n11, q11, fa, fn, fc, eR, hV, -, -⟩ := hkn.cells
        dsimp only at eR hV hsm h40
        rw [eR] at HR0
        have HR := Lib.hid HR0
        have HV := Lib.hid hV
        have Hq := Lib.hid hq
        have Hsm := Lib.hid hsm
        have Hf40 := Lib.hid h40
        have CW := Lib.hid (refWorks_calls s e u r hd (.slice fw nw qw) (.slice ft nt qt) kp (.slice f4 n4 q4) (.slice f5 n5 q5) (.slice f6 n6 q6) (.slice f7 n7 q7) (.slice f8 n8 q8) (.slice f9 n9 q9) (.slice f10 n10 q10) (.slice f11 n11 q11) fa fn fc wr)
        have HKP : Hid (keepsW ks g j = (worksV s && !(g.any (· == ((j : Nat) : Int))))) := by show _ = _; unfold keepsW; rw [Hq.out]
        have HMS : Hid (keepsW ks g j = false → missB ks g j = false) := fun h => by unfold missB; rw [h]; rfl
        clear HR0 eR hV hkn hq hmem hsm h40
        cases hwk : worksV s
        · rw [hwk] at CW
          have HM : Hid (missB ks g j = false) := HMS.out (by rw [HKP.out, hwk]; rfl)
          clear hwk
          go_wp2_with (refine wpList_load_mid (by rfl) 56 _ (by rfl) bp (op + j * 20) (by rfl) _ _ HR.out Tryz.underlying56 (by rfl) (by kernel_rfl) ?_)
          refine CW.out.mono ?_
          rintro e1 w1 ⟨rfl, hb1⟩
          have hB1 := hBw.trans (hb1.mono hBw.size)
          clear hb1 CW
          go_wp2_with fail
          go_roundg j
          case rel => exact ⟨j, x, rfl, rfl, by omega, rfl, HL.out.keep HM.out, hx1, hx2, hB1⟩
          case measure => have := Hk2.out; omega
        · rw [hwk] at CW
          have Hwk := Lib.hid hwk
          clear hwk
          go_wp2_with (refine wpList_load_mid (by rfl) 56 _ (by rfl) bp (op + j * 20) (by rfl) _ _ HR.out Tryz.underlying56 (by rfl) (by kernel_rfl) ?_)
          refine CW.out.mono ?_
          rintro e1 w1 ⟨rfl, hb1⟩
          have hB1 := hBw.trans (hb1.mono hBw.size)
          have HH1 := Lib.hid (holds_calls (.slice (some ⟨gb, 0, none⟩) n gc) g ((j : Nat) : Int) w1 (HIg.out.below hB1 (Nat.le_refl _)))
          clear CW
          cases hbt : g.any (· == ((j : Nat) : Int))
          case' true =>
            rw [hbt] at HH1
            have HM : Hid (missB ks g j = false) := HMS.out (by rw [HKP.out, hbt, Hwk.out]; rfl)
            clear hbt hb1
            go_wp2_with fail
            refine HH1.out.mono ?_
            rintro e2 w2 ⟨rfl, rfl⟩
            go_wp2_with fail
            go_roundg j
            case rel => exact ⟨j, x, rfl, rfl, by omega, rfl, HL.out.keep HM.out, hx1, hx2, hB1⟩
            case measure => have := Hk2.out; omega
          rw [hbt] at HH1
          have HKT : Hid (keepsW ks g j = true) := by show _ = _; rw [HKP.out, hbt, Hwk.out]; rfl
          clear hbt
          go_wp2_with fail
          refine HH1.out.mono ?_
          rintro e2 w2 ⟨rfl, rfl⟩
          have HR1 := rangeAt_below HR.out hb1 (Nat.lt_of_lt_of_le hbp hB.size)
          have hBq : Below w.heap.size w w1 := HBo.out.trans (hB1.mono HBo.out.size)
          have HH : Hid (∀ w', Below w1.heap.size w1 w' → w'.cell? ⟨bp, op + j * 20 + 11, none⟩ = some (.slice f4 n4 q4) ∧ w'.cell? ⟨bp, op + j * 20 + 12, none⟩ = some (.slice f5 n5 q5)) := fun w' hb => by
            have hR := rangeAt_below HR1 hb (Nat.lt_of_lt_of_le hbp hBq.size)
            exact ⟨hR 11 _ rfl, hR 12 _ rfl⟩
          have hBr : Below w1.heap.size w1 w1 := Below.refl _ _
          have HS0 : Hid ((fun w' => Below w1.heap.size w1 w' ∧ w'.cell? ⟨bp, op + j * 20 + 11, none⟩ = some (.slice f4 n4 q4) ∧ w'.cell? ⟨bp, op + j * 20 + 12, none⟩ = some (.slice f5 n5 q5)) w1.drew) := ⟨hBr.drew, HH.out _ hBr.drew⟩
          obtain ⟨wz, hwz⟩ : ∃ wz : World, wz = (w1.alloc (.cells #[] 26)).drew := ⟨_, rfl⟩
          have hBz : Below w1.heap.size w1 wz := by rw [hwz]; exact (hBr.alloc (Nat.le_refl _) _).drew
          have hownz : wz.ownsRow w1.heap.size 26 1 (.slice (some ⟨w1.heap.size, 0, none⟩) 0 0) ([] : List Value).length [] := by
            rw [hwz]
            exact ⟨rfl, Or.inr ⟨w1.heap.size, 0, #[], rfl, Nat.le_refl _, heap_alloc_new w1 _, Nat.le_refl _, Nat.zero_le _, rfl, rfl⟩⟩
          obtain ⟨vd, hvd, had⟩ := (HV.out.depends.below hBq (Nat.le_refl _)).vals
          obtain ⟨va, hva, haa⟩ := (HV.out.ahead.below hBq (Nat.le_refl _)).vals
          have ld := had.len
          have la := haa.len
          have hf40 := Hf40.out
          obtain ⟨v3, w3, hr3, hown3, hg3⟩ := append_vals Hi2.out hownz (hvd.below hBz (Nat.le_refl _)) (by simp; omega) hBz.size 25
          have hB3 : Below w1.heap.size w1 w3 := hBz.grown hg3 hBz.size (fun k e => (hownz.lt _ e).1)
          obtain ⟨v4, w4, hr4, hown4, hg4⟩ := append_vals Hi2.out hown3 (hva.below hB3 (Nat.le_refl _)) (by simp; omega) hB3.size 25
          have hB4 : Below w1.heap.size w1 w4 := hB3.grown hg4 hB3.size (fun k e => (hown3.lt _ e).1)
          have HS2 : Hid ((fun w' => Below w1.heap.size w1 w' ∧ w'.cell? ⟨bp, op + j * 20 + 11, none⟩ = some (.slice f4 n4 q4) ∧ w'.cell? ⟨bp, op + j * 20 + 12, none⟩ = some (.slice f5 n5 q5)) wz) := ⟨hBz, HH.out _ hBz⟩
          have HS3 : Hid ((fun w' => Below w1.heap.size w1 w' ∧ w'.cell? ⟨bp, op + j * 20 + 11, none⟩ = some (.slice f4 n4 q4) ∧ w'.cell? ⟨bp, op + j * 20 + 12, none⟩ = some (.slice f5 n5 q5)) w3) := ⟨hB3, HH.out _ hB3⟩
          have HS4 : Hid ((fun w' => Below w1.heap.size w1 w' ∧ w'.cell? ⟨bp, op + j * 20 + 11, none⟩ = some (.slice f4 n4 q4) ∧ w'.cell? ⟨bp, op + j * 20 + 12, none⟩ = some (.slice f5 n5 q5)) w4) := ⟨hB4, HH.out _ hB4⟩
          have Hr3 := Lib.hid hr3
          have Hr4 := Lib.hid hr4
          have Hwz := Lib.hid hwz
          have hone : ∀ u ∈ ([] ++ vd) ++ va, u.oneCell' = true := fun u hu => by
            rcases List.mem_append.1 hu with h | h
            · exact hvd.2 u (by simpa using h)
            · exact hva.2 u h
          have HLS : Hid (Lists w4 v4 (needOf (ks.getD j KnownD.none))) := by
            have h1 := lists_of_vals (vals_owned hown4 hone) ((had.append haa).below hB4 (Nat.le_refl _))
            show Lists _ _ _
            unfold needOf
            rw [Hq.out]
            exact h1
          obtain ⟨an, nn, cn, rfl⟩ := HLS.out.slice
          have HB4 := Lib.hid hB4
          clear hr3 hr4 hwz hown3 hown4 hg3 hg4 hownz hBz hB3 hB4 hvd had hva haa hone ld la hf40 hb1 HR1 hBr HH1
          go_wp2_with fail
          refine wp_region_held_drew (S := (fun w' => Below w1.heap.size w1 w' ∧ w'.cell? ⟨bp, op + j * 20 + 11, none⟩ = some (.slice f4 n4 q4) ∧ w'.cell? ⟨bp, op + j * 20 + 12, none⟩ = some (.slice f5 n5 q5))) (by kernel_rfl) ?_ (fun hHeld => ?_)
          · exact HS0.out
          refine wpAnyH_take (i := 1) (oi := _) (v := .slice (some ⟨bp, op, none⟩) m cap) rfl (by kernel_rfl) (by kernel_rfl) (by kernel_rfl) (fun _ _ _ h => h) (Or.inl ⟨by kernel_rfl, fun w hSw => ?_⟩) hHeld ?_
          · (try dsimp only at hSw); go_simp
          try simp only [Act.put, List.getElem_toArray, List.getElem_cons_succ, List.getElem_cons_zero, List.setIfInBounds_toArray, List.set_cons_zero, List.set_cons_succ]
          refine wpAnyH_take (i := 2) (oi := _) (v := .int .i64 ((j : Nat) : Int)) rfl (by kernel_rfl) (by kernel_rfl) (by kernel_rfl) (fun _ _ _ h => h) (Or.inl ⟨by kernel_rfl, fun w hSw => ?_⟩) hHeld ?_
          · (try dsimp only at hSw); go_simp
          try simp only [Act.put, List.getElem_toArray, List.getElem_cons_succ, List.getElem_cons_zero, List.setIfInBounds_toArray, List.set_cons_zero, List.set_cons_succ]
          refine wpAnyH_take (i := 3) (oi := _) (v := .pointer (some ⟨bp, op + j * 20, none⟩)) rfl (by kernel_rfl) (by kernel_rfl) (by kernel_rfl) (fun _ _ _ h => h) (Or.inl ⟨by kernel_rfl, fun w hSw => ?_⟩) hHeld ?_
          · (try dsimp only at hSw); go_simp
          try simp only [Act.put, List.getElem_toArray, List.getElem_cons_succ, List.getElem_cons_zero, List.setIfInBounds_toArray, List.set_cons_zero, List.set_cons_succ]
          refine wpAnyH_take (i := 4) (oi := _) (v := .pointer (some ⟨bp, op + j * 20 + 7, none⟩)) rfl (by kernel_rfl) (by kernel_rfl) (by kernel_rfl) (fun _ _ _ h => h) (Or.inl ⟨by kernel_rfl, fun w hSw => ?_⟩) hHeld ?_
          · (try dsimp only at hSw); go_simp
          try simp only [Act.put, List.getElem_toArray, List.getElem_cons_succ, List.getElem_cons_zero, List.setIfInBounds_toArray, List.set_cons_zero, List.set_cons_succ]
          refine wpAnyH_take (i := 5) (oi := _) (v := .pointer (some ⟨bp, op + j * 20 + 11, none⟩)) rfl (by kernel_rfl) (by kernel_rfl) (by kernel_rfl) (fun _ _ _ h => h) (Or.inl ⟨by kernel_rfl, fun w hSw => ?_⟩) hHeld ?_
          · (try dsimp only at hSw); go_simp
          try simp only [Act.put, List.getElem_toArray, List.getElem_cons_succ, List.getElem_cons_zero, List.setIfInBounds_toArray, List.set_cons_zero, List.set_cons_succ]
          refine wpAnyH_take (i := 6) (oi := _) (v := .slice f4 n4 q4) rfl (by kernel_rfl) (by kernel_rfl) (by kernel_rfl) (fun _ _ _ h => h) (Or.inl ⟨by kernel_rfl, fun w hSw => ?_⟩) hHeld ?_
          · (try dsimp only at hSw); go_simp
          try simp only [Act.put, List.getElem_toArray, List.getElem_cons_succ, List.getElem_cons_zero, List.setIfInBounds_toArray, List.set_cons_zero, List.set_cons_succ]
          refine wpAnyH_take (i := 8) (oi := _) (v := .slice (some ⟨bp, op, none⟩) m cap) rfl (by kernel_rfl) (by kernel_rfl) (by kernel_rfl) (fun _ _ _ h => h) (Or.inl ⟨by kernel_rfl, fun w hSw => ?_⟩) hHeld ?_
          · (try dsimp only at hSw); go_simp
          try simp only [Act.put, List.getElem_toArray, List.getElem_cons_succ, List.getElem_cons_zero, List.setIfInBounds_toArray, List.set_cons_zero, List.set_cons_succ]
          refine wpAnyH_take (i := 9) (oi := _) (v := .int .i64 ((j : Nat) : Int)) rfl (by kernel_rfl) (by kernel_rfl) (by kernel_rfl) (fun _ _ _ h => h) (Or.inl ⟨by kernel_rfl, fun w hSw => ?_⟩) hHeld ?_
          · (try dsimp only at hSw); go_simp
          try simp only [Act.put, List.getElem_toArray, List.getElem_cons_succ, List.getElem_cons_zero, List.setIfInBounds_toArray, List.set_cons_zero, List.set_cons_succ]
          refine wpAnyH_take (i := 10) (oi := _) (v := .pointer (some ⟨bp, op + j * 20, none⟩)) rfl (by kernel_rfl) (by kernel_rfl) (by kernel_rfl) (fun _ _ _ h => h) (Or.inl ⟨by kernel_rfl, fun w hSw => ?_⟩) hHeld ?_
          · (try dsimp only at hSw); go_simp
          try simp only [Act.put, List.getElem_toArray, List.getElem_cons_succ, List.getElem_cons_zero, List.setIfInBounds_toArray, List.set_cons_zero, List.set_cons_succ]
          refine wpAnyH_take (i := 11) (oi := _) (v := .pointer (some ⟨bp, op + j * 20 + 7, none⟩)) rfl (by kernel_rfl) (by kernel_rfl) (by kernel_rfl) (fun _ _ _ h => h) (Or.inl ⟨by kernel_rfl, fun w hSw => ?_⟩) hHeld ?_
          · (try dsimp only at hSw); go_simp
          try simp only [Act.put, List.getElem_toArray, List.getElem_cons_succ, List.getElem_cons_zero, List.setIfInBounds_toArray, List.set_cons_zero, List.set_cons_succ]
          refine wpAnyH_take (i := 12) (oi := _) (v := .pointer (some ⟨bp, op + j * 20 + 12, none⟩)) rfl (by kernel_rfl) (by kernel_rfl) (by kernel_rfl) (fun _ _ _ h => h) (Or.inl ⟨by kernel_rfl, fun w hSw => ?_⟩) hHeld ?_
          · (try dsimp only at hSw); go_simp
          try simp only [Act.put, List.getElem_toArray, List.getElem_cons_succ, List.getElem_cons_zero, List.setIfInBounds_toArray, List.set_cons_zero, List.set_cons_succ]
          refine wpAnyH_take (i := 13) (oi := _) (v := .slice f5 n5 q5) rfl (by kernel_rfl) (by kernel_rfl) (by kernel_rfl) (fun _ _ _ h => h) (Or.inl ⟨by kernel_rfl, fun w hSw => ?_⟩) hHeld ?_
          · (try dsimp only at hSw); go_simp
          try simp only [Act.put, List.getElem_toArray, List.getElem_cons_succ, List.getElem_cons_zero, List.setIfInBounds_toArray, List.set_cons_zero, List.set_cons_succ]
          refine wpAnyH_ready (rs := [0]) (by kernel_rfl) (by simp) ?_
          refine AllReadyH.cons (o := _) rfl (fun K hK => ?_) AllReadyH.nil
          go_simp
          rw [show (w1.alloc (.cells #[] 26)).drew = wz from Hwz.out.symm]
          refine hK.out _ _ HS2.out (fun hHeld2 => ?_)
          clear hK K hHeld
          have hHeld := hHeld2
          clear hHeld2
          try simp only [Act.put, List.getElem_toArray, List.getElem_cons_succ, List.getElem_cons_zero, List.setIfInBounds_toArray, List.set_cons_zero, List.set_cons_succ]
          refine wpAnyH_ready (rs := [7]) (by kernel_rfl) (by simp) ?_
          refine AllReadyH.cons (o := _) rfl (fun K hK => ?_) AllReadyH.nil
          refine step_append_run rfl _ _ 25 rfl _ _ rfl rfl _ _ Hr3.out ?_
          refine hK.out _ _ HS3.out (fun hHeld2 => ?_)
          clear hK K hHeld
          have hHeld := hHeld2
          clear hHeld2
          try simp only [Act.put, List.getElem_toArray, List.getElem_cons_succ, List.getElem_cons_zero, List.setIfInBounds_toArray, List.set_cons_zero, List.set_cons_succ]
          refine wpAnyH_ready (rs := [14]) (by kernel_rfl) (by simp) ?_
          refine AllReadyH.cons (o := _) rfl (fun K hK => ?_) AllReadyH.nil
          refine step_append_run rfl _ _ 25 rfl _ _ rfl rfl _ _ Hr4.out ?_
          refine hK.out _ _ HS4.out (fun hHeld2 => ?_)
          clear hK K hHeld
          have hHeld := hHeld2
          clear hHeld2
          try simp only [Act.put, List.getElem_toArray, List.getElem_cons_succ, List.getElem_cons_zero, List.setIfInBounds_toArray, List.set_cons_zero, List.set_cons_succ]
          refine wpAnyH_take (i := 15) (oi := _) (v := .slice an nn cn) rfl (by kernel_rfl) (by kernel_rfl) (by kernel_rfl) (fun _ _ _ h => h) (Or.inl ⟨by kernel_rfl, fun w hSw => ?_⟩) hHeld ?_
          · (try dsimp only at hSw); go_simp
          try simp only [Act.put, List.getElem_toArray, List.getElem_cons_succ, List.getElem_cons_zero, List.setIfInBounds_toArray, List.set_cons_zero, List.set_cons_succ]
          refine wpAnyH_done (by kernel_rfl) ?_ _
          clear hHeld HS0 HS2 HS3 HS4 HH
          have HB4w : Hid (Below w.heap.size w w4) := hBq.trans (HB4.out.mono hBq.size)
          have CW1 := Lib.hid (working_calls (.slice (some ⟨bp, op, none⟩) m cap) (.slice none 0 0) ks [] w4 (HK.out.below HB4w.out (Nat.le_refl _)) ⟨Sl.nil _ _ _, trivial⟩ (by rw [Hm.out]; exact hm20))
          clear hBq
          go_wp2_with fail
          refine CW1.out.mono ?_
          rintro e3 w5 ⟨ov5, os5, rfl, hown5, hps5, hok5, hln5, hb5⟩
          have HP5 := Lib.hid (working_packs hown5 hps5 hok5 hb5)
          have HLS5 := Lib.hid (HLS.out.below hb5 (Nat.le_refl _))
          have HB5a := Lib.hid hb5
          have HB5 : Hid (Below w.heap.size w w5) := HB4w.out.trans (hb5.mono HB4w.out.size)
          have hpk : ∀ (gg : List Int) (p : PackD), p ∈ picksW ks gg ks.length → ∃ k ∈ ks, k.pack = p := fun gg p hp => picks_mem (Nat.le_refl _) hp
          have HS1 : Hid (∀ (gg : List Int), ∀ p ∈ picksW ks gg ks.length, p.up.size ≤ 1000 ∧ p.rv.size ≤ 1000) := fun gg p hp => by obtain ⟨k, hk, rfl⟩ := hpk gg p hp; exact (HF.out.small k hk).sm
          have HS2 : Hid (∀ (gg : List Int), ∀ p ∈ picksW ks gg ks.length, ∀ q ∈ p.provides, SmallT q) := fun gg p hp => by obtain ⟨k, hk, rfl⟩ := hpk gg p hp; exact (HF.out.small k hk).provides
          have HS3 : Hid (∀ l ∈ needOf (ks.getD j KnownD.none), ∀ t ∈ l, SmallT t) := by
            intro l hl
            unfold needOf at hl
            rw [Hq.out] at hl
            rcases List.mem_append.1 hl with h | h
            · exact Hsm.out.depends l h
            · exact Hsm.out.ahead l h
          have CM1 := Lib.hid (refMet_calls (.slice an nn cn) ov5 (needOf (ks.getD j KnownD.none)) (picksW ks [] ks.length) w5 HLS5.out HP5.out (HS1.out _) (HS2.out _) HS3.out)
          rw [oneP_works] at CM1
          clear hown5 hps5 hok5 hln5 hb5 hpk CW1
          go_wp2_with fail
          refine CM1.out.mono ?_
          rintro e4 w6 ⟨rfl, hb6⟩
          have HLS6 := Lib.hid (HLS5.out.below hb6 (Nat.le_refl _))
          have HB6 : Hid (Below w.heap.size w w6) := HB5.out.trans (hb6.mono HB5.out.size)
          have HB6o : Hid (Below wo.heap.size wo w6) := by
            have h1 : Below wo.heap.size wo w4 := hB1.trans (HB4.out.mono hB1.size)
            have h2 : Below wo.heap.size wo w5 := h1.trans (HB5a.out.mono h1.size)
            exact h2.trans (hb6.mono h2.size)
          obtain ⟨z1, hz1⟩ : ∃ z, (metR (oneK (worksK ks)) (needOf (ks.getD j KnownD.none))).1 = z := ⟨_, rfl⟩
          obtain ⟨p1, hp1⟩ : ∃ z, (metR (oneK (worksK ks)) (needOf (ks.getD j KnownD.none))).2 = z := ⟨_, rfl⟩
          rw [hz1, hp1]
          have Hp1 := Lib.hid hp1
          have CW2 := Lib.hid (working_calls (.slice (some ⟨bp, op, none⟩) m cap) (.slice (some ⟨gb, 0, none⟩) n gc) ks g w6 (HK.out.below HB6.out (Nat.le_refl _)) (HIg.out.below HB6o.out (Nat.le_refl _)) (by rw [Hm.out]; exact hm20))
          clear hb6 CM1 hz1 hp1
          go_wp2_with fail
          refine CW2.out.mono ?_
          rintro e5 w7 ⟨ov7, os7, rfl, hown7, hps7, hok7, hln7, hb7⟩
          have HP7 := Lib.hid (working_packs hown7 hps7 hok7 hb7)
          have HB7o : Hid (Below wo.heap.size wo w7) := HB6o.out.trans (hb7.mono HB6o.out.size)
          have CM2 := Lib.hid (refMet_calls (.slice an nn cn) ov7 (needOf (ks.getD j KnownD.none)) (picksW ks g ks.length) w7 (HLS6.out.below hb7 (Nat.le_refl _)) HP7.out (HS1.out _) (HS2.out _) HS3.out)
          rw [oneP_left] at CM2
          clear hown7 hps7 hok7 hln7 hb7 CW2
          go_wp2_with fail
          refine CM2.out.mono ?_
          rintro e6 w8 ⟨rfl, hb8⟩
          have HB8o : Hid (Below wo.heap.size wo w8) := HB7o.out.trans (hb8.mono HB7o.out.size)
          obtain ⟨z2, hz2⟩ : ∃ z, (metR (oneK (leftK ks g ks.length)) (needOf (ks.getD j KnownD.none))).1 = z := ⟨_, rfl⟩
          obtain ⟨p2, hp2⟩ : ∃ z, (metR (oneK (leftK ks g ks.length)) (needOf (ks.getD j KnownD.none))).2 = z := ⟨_, rfl⟩
          rw [hz2, hp2]
          have HMB : Hid (missB ks g j = (p1 && !p2)) := by show _ = _; unfold missB; rw [HKT.out, Hp1.out, hp2]; rfl
          clear hb8 CM2 hz2 hp2 hB1
          cases p1
          · have HM : Hid (missB ks g j = false) := HMB.out
            go_wp2_with fail
            go_roundg j
            case rel => exact ⟨j, x, rfl, rfl, by omega, rfl, HL.out.keep HM.out, hx1, hx2, HB8o.out⟩
            case measure => have := Hk2.out; omega
          · cases p2
            · have HM : Hid (missB ks g j = true) := HMB.out
              go_wp2_with fail
              go_roundg j
              case rel => exact ⟨j, ((j : Nat) : Int), rfl, rfl, by omega, rfl, LeastN.take (by rw [Hm.out]; exact hlt) HM.out, by omega, by omega, HB8o.out⟩
              case measure => have := Hk2.out; omega
            · have HM : Hid (missB ks g j = false) := HMB.out
              go_wp2_with fail
              go_roundg j
              case rel => exact ⟨j, x, rfl, rfl, by omega, rfl, HL.out.keep HM.out, hx1, hx2, HB8o.out⟩
              case measure => have := Hk2.out; omega
end Go.Proofs.YtnfnebfioibndaaGreatDoor
