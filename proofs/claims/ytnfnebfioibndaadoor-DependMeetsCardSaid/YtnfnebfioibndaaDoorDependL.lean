/- stevedorelaw.DependMeets: the law's own walk. -/
import Derived.Test.YtnfnebfioibndaaDoorOffers
namespace Go.Proofs.YtnfnebfioibndaaDoor
open Go.RowKit
set_option maxRecDepth 100000
set_option maxHeartbeats 4000000

theorem held_next {P : World → Prop} {w1 : World} (H : ∀ w', Below w1.heap.size w1 w' → P w') {w' w'' : World} (h : Below w1.heap.size w1 w') (hb : Below w'.heap.size w' w'') : Below w1.heap.size w1 w'' ∧ P w'' :=
  ⟨h.trans (hb.mono h.size), H _ (h.trans (hb.mono h.size))⟩

theorem small_of_flat {ts : List TermD} (h : flatB ts = true) : ∀ t ∈ ts, SmallT t := by
  intro t ht
  unfold flatB at h
  rw [Bool.and_eq_true, List.all_eq_true] at h
  have := h.2 t ht
  unfold termB shortB at this
  simp only [Bool.and_eq_true, decide_eq_true_eq] at this
  exact ⟨by omega, by omega⟩
theorem small_of_terms {ls : List (List TermD)} (h : termsB ls = true) : ∀ l ∈ ls, ∀ t ∈ l, SmallT t := by
  intro l hl
  unfold termsB at h
  rw [Bool.and_eq_true, List.all_eq_true] at h
  exact small_of_flat (h.2 l hl)
theorem small_of_says {p : PackD} (h : saysB p = true) : (p.up.size ≤ 1000 ∧ p.rv.size ≤ 1000) ∧ ∀ q ∈ p.provides, SmallT q := by
  unfold saysB shortB at h
  simp only [Bool.and_eq_true, decide_eq_true_eq] at h
  obtain ⟨_, ⟨h1, h2⟩, _, _, _, _, _, h3, _⟩ := h
  exact ⟨⟨by omega, by omega⟩, small_of_flat h3⟩

theorem oneO_eq (ps : List PackD) (F : Nat → Value) : oneO ((List.range ps.length).map (offAt ps F)) = oneP ps := by
  funext x
  unfold oneO oneP
  congr 1
  funext t
  rw [List.any_map]
  have : ps = (List.range ps.length).map (fun i => ps.getD i PackD.none) := by
    apply List.ext_getElem
    · simp
    · intro i h1 h2
      simp [List.getD, List.getElem?_eq_getElem h1]
  conv => rhs; rw [this]
  rw [List.any_map]
  rfl

theorem dependMeets_calls (lv pv : Value) (ls : List (List TermD)) (ps : List PackD) (w : World) (hL : Lists w lv ls) (hP : Packs w pv ps) :
    Calls Tryd.prog 5 #[lv, pv] w fun e w' => e = .returned (.bool true) ∧ Below w.heap.size w w' := by
  have HL := Lib.hid hL
  have HP := Lib.hid hP
  obtain ⟨R, ⟨ap, capp, rfl, hcapp, hmaxp, hcellp⟩, hO⟩ := hP
  obtain ⟨V, ⟨a, cap, rfl, hcap, hmax, hcell⟩, hT⟩ := hL
  unfold maxLen at hmaxp hmax
  have Hcellp := Lib.hid hcellp
  have HO := Lib.hid hO
  have Hcell := Lib.hid hcell
  have HT := Lib.hid hT
  obtain ⟨m, hm⟩ : ∃ m, ps.length = m := ⟨_, rfl⟩
  obtain ⟨n, hn⟩ : ∃ n, ls.length = n := ⟨_, rfl⟩
  rw [hm] at hcapp Hcellp HO
  rw [hn] at hcap Hcell HT
  have Hm := Lib.hid hm
  have Hn := Lib.hid hn
  have CT := Lib.hid (terms_calls _ ls w HL.out)
  clear hcellp hO hcell hT
  have HL2 : Hid (Lists w (.slice a n cap) ls) := by have := HL; rwa [hn] at this
  have HP2 : Hid (Packs w (.slice ap m capp) ps) := by have := HP; rwa [hm] at this
  rw [hn] at CT ⊢
  rw [hm]
  clear hm hn HL HP
  cases ht : termsB ls
  · rw [ht] at CT
    clear ht
    go_enter Tryd.func5, Tryd.ntmps5
    go_wp2_with fail
    refine CT.out.mono ?_
    rintro e w1 ⟨rfl, hb⟩
    go_wp2_with fail
    go_ret
    exact ⟨rfl, hb⟩
  by_cases hm20 : m ≤ 20
  case' neg =>
    have e20 : decide (20 < (m : Int)) = true := decide_eq_true (by omega)
    rw [ht] at CT
    clear ht
    go_enter Tryd.func5, Tryd.ntmps5
    go_wp2_with fail
    refine CT.out.mono ?_
    rintro e w1 ⟨rfl, hb⟩
    go_wp2_with fail
    go_ret
    exact ⟨rfl, hb⟩
  have e20 : decide (20 < (m : Int)) = false := decide_eq_false (by omega)
  rw [ht] at CT
  have HS := Lib.hid (small_of_terms ht)
  clear ht
  go_enter Tryd.func5, Tryd.ntmps5
  go_wp2_with fail
  refine CT.out.mono ?_
  rintro e w1 ⟨rfl, hb1⟩
  go_wp2_with fail
  go_loopg [5] m (fun k v5 wr => ∃ i : Nat, v5 = .int .i64 i ∧ i ≤ m ∧ k = m - i ∧ (ps.take i).all saysB = true ∧ Below w.heap.size w wr)
  case atStart => exact ⟨0, rfl, Nat.zero_le _, rfl, rfl, hb1⟩
  case round =>
    clear hb1
    obtain ⟨i, rfl, hi, hk, hall, hB⟩ := hrel
    have Hk := Lib.hid hk
    have Hall := Lib.hid hall
    clear hk hall
    by_cases hlt : i < m
    · obtain ⟨bp, op, rfl, hbp, hcp⟩ := Hcellp.out.resolve_left (by omega)
      obtain ⟨p, hp⟩ : ∃ p, ps.getD i PackD.none = p := ⟨_, rfl⟩
      have hpk := HO.out i hlt
      rw [hp] at hpk
      have Hp := Lib.hid hp
      clear hp
      obtain ⟨dv, av, gv, bv, rv, pv, sv, lv, fa, fn, fc, e4, e5, e6, e7, e8, e9, e10, e11, e12, hV⟩ := hpk.cells
      have HV := Lib.hid hV
      have hat : ∀ k, k < 13 → wr.cell? ⟨bp, op + i * 13 + k, none⟩ = some (R i k) := fun k hk => (hB.cell (p := ⟨bp, op + i * 13 + k, none⟩) hbp).trans (hcp i k hlt hk)
      have p0 := hat 0 (by decide)
      have p1 := hat 1 (by decide)
      have p2 := hat 2 (by decide)
      have p3 := hat 3 (by decide)
      have p4 := hat 4 (by decide)
      have p5 := hat 5 (by decide)
      have p6 := hat 6 (by decide)
      have p7 := hat 7 (by decide)
      have p8 := hat 8 (by decide)
      have p9 := hat 9 (by decide)
      have p10 := hat 10 (by decide)
      have p11 := hat 11 (by decide)
      have p12 := hat 12 (by decide)
      rw [hpk.name, Nat.add_zero] at p0
      rw [hpk.ep] at p1
      rw [hpk.up] at p2
      rw [hpk.rv] at p3
      rw [e4] at p4
      rw [e5] at p5
      rw [e6] at p6
      rw [e7] at p7
      rw [e8] at p8
      rw [e9] at p9
      rw [e10] at p10
      rw [e11] at p11
      rw [e12] at p12
      clear hat hcp hbp e4 e5 e6 e7 e8 e9 e10 e11 e12 hV hpk
      have CS := Lib.hid (says_calls p dv av gv bv rv pv sv lv fa fn fc wr (HV.out.below hB (Nat.le_refl _)))
      go_wp2_with fail
      refine CS.out.mono ?_
      rintro e w2 ⟨rfl, hb2⟩
      have hB2 := hB.trans (hb2.mono hB.size)
      clear CS hb2 hB p0 p1 p2 p3 p4 p5 p6 p7 p8 p9 p10 p11 p12
      cases hs : saysB p
      · clear hs
        go_wp2_with fail
        go_ret
        exact ⟨rfl, hB2⟩
      · have HN : Hid ((ps.take (i + 1)).all saysB = true) := all_step PackD.none (by rw [Hm.out]; exact hlt) Hall.out (by rw [Hp.out]; exact hs)
        clear hs
        go_wp2_with fail
        go_roundg (m - (i + 1))
        case rel => exact ⟨i + 1, by go_num, by omega, rfl, HN.out, hB2⟩
        case measure => have := Hk.out; omega
    · have hsays : ∀ p ∈ ps, (p.up.size ≤ 1000 ∧ p.rv.size ≤ 1000) ∧ ∀ q ∈ p.provides, SmallT q := fun p hp => small_of_says (List.all_eq_true.1 (all_end (by rw [Hm.out]; omega) Hall.out) p hp)
      have Hsays := Lib.hid hsays
      clear Hall hsays
      have CO := Lib.hid (offers_calls _ ps wr (HP2.out.below hB (Nat.le_refl _)) (by rw [Hm.out]; exact hm20))
      go_wp2_with fail
      refine CO.out.mono ?_
      rintro e w2 ⟨ov, F, rfl, hoffs, hFT, hb2⟩
      have Hoffs := Lib.hid hoffs
      have HFT := Lib.hid hFT
      have hB2 := hB.trans (hb2.mono hB.size)
      have Hb2 := Lib.hid hb2
      clear CO hoffs hFT hb2
      go_wp2_with fail
      refine (refMet_calls _ _ ls ps w2 (HL2.out.below hB2 (Nat.le_refl _)) (HP2.out.below hB2 (Nat.le_refl _)) (fun p hp => (Hsays.out p hp).1) (fun p hp => (Hsays.out p hp).2) HS.out).mono ?_
      rintro e w3 ⟨rfl, hb3⟩
      have HR : Hid (metR (oneO ((List.range ps.length).map (offAt ps F))) ls = metR (oneP ps) ls) := by show _ = _; rw [oneO_eq]
      obtain ⟨kb, hkb⟩ : ∃ kb, metR (oneP ps) ls = kb := ⟨_, rfl⟩
      obtain ⟨k, b⟩ := kb
      rw [hkb] at HR ⊢
      clear hkb
      have hB3 := hB2.trans (hb3.mono hB2.size)
      have Hb3 := Lib.hid hb3
      clear hb3
      go_wp2_with fail
      refine (met_calls _ _ ls _ w3 (HL2.out.below hB3 (Nat.le_refl _)) (Hoffs.out.below Hb3.out (Nat.le_refl _)) ?_ HS.out).mono ?_
      · intro o ho
        obtain ⟨i, hi, rfl⟩ := List.mem_map.1 ho
        have hi' : i < ps.length := List.mem_range.1 hi
        exact ⟨((HFT.out i hi').below Hb2.out (Nat.le_refl _)).below Hb3.out (Nat.le_refl _), (Hsays.out _ (mem_getD _ hi')).1, (Hsays.out _ (mem_getD _ hi')).2⟩
      rintro e w4 ⟨rfl, hb4⟩
      rw [HR.out]
      have hB4 := hB3.trans (hb4.mono hB3.size)
      have Ho4 := (Hoffs.out.below Hb3.out (Nat.le_refl _)).below hb4 (Nat.le_refl _)
      have HFT4 : Hid (∀ i, i < m → Terms w4 (F i) (ps.getD i PackD.none).provides) := by
        intro i hi
        exact (((HFT.out i (by rw [Hm.out]; exact hi)).below Hb2.out (Nat.le_refl _)).below Hb3.out (Nat.le_refl _)).below hb4 (Nat.le_refl _)
      obtain ⟨⟨ao, co, hov, -, -, hco⟩, -⟩ := Ho4
      rw [List.length_map, List.length_range, Hm.out] at hov hco
      subst hov
      have Hco := Lib.hid hco
      have HL4 := Lib.hid (HL2.out.below hB4 (Nat.le_refl _))
      have HP4 := Lib.hid (HP2.out.below hB4 (Nat.le_refl _))
      have HB4 := Lib.hid hB4
      have hz4 := hB4.size
      clear HR hb4 hB4 hco Hoffs HFT hB hB2 hB3 Hb2 Hb3
      have tk : (k != k) = false := by simp
      have tb : (b != b) = false := by simp
      go_wp2_with fail
      go_loopg [11] m (fun k v11 wr => ∃ i : Nat, v11 = .int .i64 i ∧ i ≤ m ∧ k = m - i ∧ Below w4.heap.size w4 wr)
      case atStart => exact ⟨0, rfl, Nat.zero_le _, rfl, Below.refl _ _⟩
      case round =>
        obtain ⟨i, rfl, hi, hk, hB⟩ := hrel
        have Hk := Lib.hid hk
        have hfin := HB4.out.trans (hB.mono HB4.out.size)
        clear hk
        by_cases hlt : i < m
        case' neg =>
          go_wp2_with fail
          go_ret
          exact ⟨rfl, hfin⟩
        by_cases hn0 : 0 < n
        case' neg =>
          have en : decide (0 < (n : Int)) = false := decide_eq_false (by omega)
          go_wp2_with fail
          go_ret
          exact ⟨rfl, hfin⟩
        have en : decide (0 < (n : Int)) = true := decide_eq_true (by omega)
        obtain ⟨bl, ol, rfl, hbl, hcl⟩ := Hcell.out.resolve_left (by omega)
        obtain ⟨x, hx⟩ : ∃ x, ls.getD 0 [] = x := ⟨_, rfl⟩
        obtain ⟨⟨ax, capx, hV, hcapx, hmaxx, hcellx⟩, -⟩ := HT.out 0 hn0
        rw [hx] at hV hcapx hcellx
        unfold maxLen at hmaxx
        obtain ⟨nx, hnx⟩ : ∃ nx, x.length = nx := ⟨_, rfl⟩
        rw [hnx] at hV hcapx hcellx
        have Hnx := Lib.hid hnx
        have HSx : Hid (∀ t ∈ x, SmallT t) := by
          show ∀ t ∈ x, SmallT t
          rw [← hx]
          exact HS.out _ (mem_getD _ (by rw [Hn.out]; exact hn0))
        have HCL : Hid (∀ w', Below w4.heap.size w4 w' → w'.cell? ⟨bl, ol, none⟩ = some (.slice ax nx capx)) := by
          intro w' hb
          have := hcl 0 0 hn0 (by decide)
          rw [hV] at this
          exact ((HB4.out.trans (hb.mono HB4.out.size)).cell (p := ⟨bl, ol, none⟩) hbl).trans (by simpa using this)
        have Hcellx := Lib.hid hcellx
        clear hcellx hnx hx hV hcl hbl
        go_wp2_with fail
        go_loopg [12] nx (fun k v12 wr => ∃ j : Nat, v12 = .int .i64 j ∧ j ≤ nx ∧ k = nx - j ∧ Below w4.heap.size w4 wr)
        case atStart => exact ⟨0, rfl, Nat.zero_le _, rfl, hB⟩
        case round =>
          clear hB hfin
          obtain ⟨j, rfl, hj, hk2, hB⟩ := hrel
          have Hk2 := Lib.hid hk2
          clear hk2
          have cl := HCL.out _ hB
          by_cases hjl : j < nx
          · obtain ⟨bx, ox, rfl, hbx, hcx⟩ := Hcellx.out.resolve_left (by omega)
            obtain ⟨bp, op, rfl, hbp, hcp⟩ := Hcellp.out.resolve_left (by omega)
            obtain ⟨bo, oo, rfl, hbo, hco⟩ := Hco.out.resolve_left (by omega)
            obtain ⟨p, hp⟩ : ∃ p, ps.getD i PackD.none = p := ⟨_, rfl⟩
            obtain ⟨t, ht⟩ : ∃ t, TermD.at x j = t := ⟨_, rfl⟩
            have hpk := HO.out i hlt
            rw [hp] at hpk
            obtain ⟨dv, av, gv, bv, rv, pv, sv, lv, fa, fn, fc, e4, e5, e6, e7, e8, e9, e10, e11, e12, hV⟩ := hpk.cells
            have HV := Lib.hid hV
            have HMt : Hid (SmallT t) := by
              show SmallT t
              rw [← ht]
              exact HSx.out _ (mem_at (by rw [Hnx.out]; exact hjl))
            have HMp : Hid ((p.up.size ≤ 1000 ∧ p.rv.size ≤ 1000) ∧ ∀ q ∈ p.provides, SmallT q) := by
              show _ ∧ _
              rw [← hp]
              exact Hsays.out _ (mem_getD _ (by rw [Hm.out]; exact hlt))
            have HH : Hid (∀ w', Below w4.heap.size w4 w' → w'.cell? ⟨bo, oo + i * 5, none⟩ = some (.string p.name) ∧ w'.cell? ⟨bo, oo + i * 5 + 1, none⟩ = some (.int .i64 p.ep) ∧ w'.cell? ⟨bo, oo + i * 5 + 2, none⟩ = some (.string p.up) ∧ w'.cell? ⟨bo, oo + i * 5 + 3, none⟩ = some (.string p.rv) ∧ w'.cell? ⟨bo, oo + i * 5 + 4, none⟩ = some (F i) ∧ w'.cell? ⟨bl, ol, none⟩ = some (.slice (some ⟨bx, ox, none⟩) nx capx) ∧ w'.cell? ⟨bx, ox + j * 5, none⟩ = some (.string t.name) ∧ w'.cell? ⟨bx, ox + j * 5 + 1, none⟩ = some (.int .i64 t.op) ∧ w'.cell? ⟨bx, ox + j * 5 + 2, none⟩ = some (.int .i64 t.ep) ∧ w'.cell? ⟨bx, ox + j * 5 + 3, none⟩ = some (.string t.up) ∧ w'.cell? ⟨bx, ox + j * 5 + 4, none⟩ = some (.string t.rv) ∧ w'.cell? ⟨bp, op + i * 13, none⟩ = some (.string p.name) ∧ w'.cell? ⟨bp, op + i * 13 + 1, none⟩ = some (.int .i64 p.ep) ∧ w'.cell? ⟨bp, op + i * 13 + 2, none⟩ = some (.string p.up) ∧ w'.cell? ⟨bp, op + i * 13 + 3, none⟩ = some (.string p.rv) ∧ w'.cell? ⟨bp, op + i * 13 + 4, none⟩ = some (dv) ∧ w'.cell? ⟨bp, op + i * 13 + 5, none⟩ = some (av) ∧ w'.cell? ⟨bp, op + i * 13 + 6, none⟩ = some (gv) ∧ w'.cell? ⟨bp, op + i * 13 + 7, none⟩ = some (bv) ∧ w'.cell? ⟨bp, op + i * 13 + 8, none⟩ = some (rv) ∧ w'.cell? ⟨bp, op + i * 13 + 9, none⟩ = some (pv) ∧ w'.cell? ⟨bp, op + i * 13 + 10, none⟩ = some (sv) ∧ w'.cell? ⟨bp, op + i * 13 + 11, none⟩ = some (lv) ∧ w'.cell? ⟨bp, op + i * 13 + 12, none⟩ = some (.slice fa fn fc)) := by
              intro w' hb
              have hb0 := HB4.out.trans (hb.mono HB4.out.size)
              have o5 : ∀ k, k < 5 → w'.cell? ⟨bo, oo + i * 5 + k, none⟩ = some ((offAt ps F i).row k) := fun k hk => by
                have := (hb.cell (p := ⟨bo, oo + i * 5 + k, none⟩) hbo).trans (hco i k hlt hk)
                simpa [List.getD, hlt, Hm.out] using this
              have t5 : ∀ k, k < 5 → w'.cell? ⟨bx, ox + j * 5 + k, none⟩ = some (t.row k) := fun k hk => by
                have := (hb0.cell (p := ⟨bx, ox + j * 5 + k, none⟩) hbx).trans (hcx j k hjl hk)
                rwa [ht] at this
              have p13 : ∀ k, k < 13 → w'.cell? ⟨bp, op + i * 13 + k, none⟩ = some (R i k) := fun k hk => (hb0.cell (p := ⟨bp, op + i * 13 + k, none⟩) hbp).trans (hcp i k hlt hk)
              have q0 := p13 0 (by decide)
              have q1 := p13 1 (by decide)
              have q2 := p13 2 (by decide)
              have q3 := p13 3 (by decide)
              rw [hpk.name] at q0
              rw [hpk.ep] at q1
              rw [hpk.up] at q2
              rw [hpk.rv] at q3
              have r0 := o5 0 (by decide)
              have r1 := o5 1 (by decide)
              have r2 := o5 2 (by decide)
              have r3 := o5 3 (by decide)
              have r4 := o5 4 (by decide)
              rw [show (offAt ps F i).row 0 = .string p.name by rw [← hp]; rfl] at r0
              rw [show (offAt ps F i).row 1 = .int .i64 p.ep by rw [← hp]; rfl] at r1
              rw [show (offAt ps F i).row 2 = .string p.up by rw [← hp]; rfl] at r2
              rw [show (offAt ps F i).row 3 = .string p.rv by rw [← hp]; rfl] at r3
              exact ⟨r0, r1, r2, r3, r4, HCL.out _ hb, t5 0 (by decide), t5 1 (by decide), t5 2 (by decide), t5 3 (by decide), t5 4 (by decide), q0, q1, q2, q3, e4 ▸ p13 4 (by decide), e5 ▸ p13 5 (by decide), e6 ▸ p13 6 (by decide), e7 ▸ p13 7 (by decide), e8 ▸ p13 8 (by decide), e9 ▸ p13 9 (by decide), e10 ▸ p13 10 (by decide), e11 ▸ p13 11 (by decide), e12 ▸ p13 12 (by decide)⟩
            obtain ⟨bb, hbb⟩ : ∃ bb, meetsB p.name p.ep p.up p.rv p.provides t = bb := ⟨_, rfl⟩
            have MM : Hid (∀ w', Below w4.heap.size w4 w' → Calls Tryd.prog 23 #[.agg #[.string p.name, .int .i64 p.ep, .string p.up, .string p.rv, F i], .agg #[.string t.name, .int .i64 t.op, .int .i64 t.ep, .string t.up, .string t.rv]] w' fun e w'' => e = .returned (.bool bb) ∧ Below w'.heap.size w' w'') := by
              intro w' hb
              rw [← hbb]
              have := (HFT4.out i hlt).below hb (Nat.le_refl _)
              rw [hp] at this
              exact meets_calls _ _ _ _ _ p.provides t w' this HMt.out HMp.out.1 HMp.out.2
            have RR : Hid (∀ w', Below w4.heap.size w4 w' → Calls Tryd.prog 24 #[.agg #[.string p.name, .int .i64 p.ep, .string p.up, .string p.rv, dv, av, gv, bv, rv, pv, sv, lv, .slice fa fn fc], .agg #[.string t.name, .int .i64 t.op, .int .i64 t.ep, .string t.up, .string t.rv]] w' fun e w'' => e = .returned (.bool bb) ∧ Below w'.heap.size w' w'') := by
              intro w' hb
              rw [← hbb]
              exact refMeets_calls p _ _ _ _ _ _ _ _ _ _ _ t w' (HV.out.provides.below (HB4.out.trans (hb.mono HB4.out.size)) (Nat.le_refl _)) HMt.out HMp.out.1 HMp.out.2
            have tt : (bb != bb) = false := by simp
            have HS0 := Lib.hid (And.intro hB.drew (HH.out _ hB.drew))
            have HS1 := Lib.hid (And.intro hB (HH.out _ hB))
            have hzz := hB.size
            clear hcx hcp hco hbb ht hp hpk hV e4 e5 e6 e7 e8 e9 e10 e11 e12 hbx hbp hbo
            go_wp2_with fail
            clear cl
            go_region_held3 (fun w' => Below w4.heap.size w4 w' ∧ w'.cell? ⟨bo, oo + i * 5, none⟩ = some (.string p.name) ∧ w'.cell? ⟨bo, oo + i * 5 + 1, none⟩ = some (.int .i64 p.ep) ∧ w'.cell? ⟨bo, oo + i * 5 + 2, none⟩ = some (.string p.up) ∧ w'.cell? ⟨bo, oo + i * 5 + 3, none⟩ = some (.string p.rv) ∧ w'.cell? ⟨bo, oo + i * 5 + 4, none⟩ = some (F i) ∧ w'.cell? ⟨bl, ol, none⟩ = some (.slice (some ⟨bx, ox, none⟩) nx capx) ∧ w'.cell? ⟨bx, ox + j * 5, none⟩ = some (.string t.name) ∧ w'.cell? ⟨bx, ox + j * 5 + 1, none⟩ = some (.int .i64 t.op) ∧ w'.cell? ⟨bx, ox + j * 5 + 2, none⟩ = some (.int .i64 t.ep) ∧ w'.cell? ⟨bx, ox + j * 5 + 3, none⟩ = some (.string t.up) ∧ w'.cell? ⟨bx, ox + j * 5 + 4, none⟩ = some (.string t.rv) ∧ w'.cell? ⟨bp, op + i * 13, none⟩ = some (.string p.name) ∧ w'.cell? ⟨bp, op + i * 13 + 1, none⟩ = some (.int .i64 p.ep) ∧ w'.cell? ⟨bp, op + i * 13 + 2, none⟩ = some (.string p.up) ∧ w'.cell? ⟨bp, op + i * 13 + 3, none⟩ = some (.string p.rv) ∧ w'.cell? ⟨bp, op + i * 13 + 4, none⟩ = some (dv) ∧ w'.cell? ⟨bp, op + i * 13 + 5, none⟩ = some (av) ∧ w'.cell? ⟨bp, op + i * 13 + 6, none⟩ = some (gv) ∧ w'.cell? ⟨bp, op + i * 13 + 7, none⟩ = some (bv) ∧ w'.cell? ⟨bp, op + i * 13 + 8, none⟩ = some (rv) ∧ w'.cell? ⟨bp, op + i * 13 + 9, none⟩ = some (pv) ∧ w'.cell? ⟨bp, op + i * 13 + 10, none⟩ = some (sv) ∧ w'.cell? ⟨bp, op + i * 13 + 11, none⟩ = some (lv) ∧ w'.cell? ⟨bp, op + i * 13 + 12, none⟩ = some (.slice fa fn fc))
              (first | exact HS0.out | exact HS1.out | (go_split_ands; exact held_next HH.out (by assumption) hb))
              (first
                | (go_at_call 23; go_split_ands; refine (MM.out _ (by assumption)).mono ?_; rintro e w' ⟨rfl, hb⟩)
                | (go_at_call 24; go_split_ands; refine (RR.out _ (by assumption)).mono ?_; rintro e w' ⟨rfl, hb⟩))
            go_wp2_with fail
            go_split_ands
            go_roundg (nx - (j + 1))
            case rel => exact ⟨j + 1, by go_num, by omega, rfl, by assumption⟩
            case measure => have := Hk2.out; omega
          · go_wp2_with fail
            go_roundg (m - (i + 1))
            case rel => exact ⟨i + 1, by go_num, by omega, rfl, hB⟩
            case measure => have := Hk.out; omega
end Go.Proofs.YtnfnebfioibndaaDoor
