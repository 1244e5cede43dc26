/- The walk of OrderHolds. -/
import Derived.Test.YtnfnebfioibndaaLineup
import Derived.Test.YtnfnebfioibndaaPairs
namespace Go.Proofs.Ytnfnebfioibndaa
open Go.RowKit
set_option maxRecDepth 100000
set_option maxHeartbeats 4000000

theorem zint2 (w : World) : (zeroValue 3).run Try.prog w = .ok (.int .i64 0) w := by kernel_rfl
theorem inJ (u : Nat) (h : u ≤ 1000000) : InJ ((u : Nat) : Int) := ⟨by omega, by omega⟩
theorem gotJ_some {f : MapG} {s : Int} {v z : Value} (h : f s = some v) : gotJ f z s = v := by unfold gotJ; rw [h]; rfl

theorem holds_good (v1 v2 : Value) (weak strong : List EdgeD) (n : Nat) (w : World) (hE : Edges w v1 weak) (hE2 : Edges w v2 strong) (hr : lineR ((n : Nat) : Int) weak strong = (0, -1)) (hl1 : weak.length ≤ 60) (hl2 : strong.length ≤ 60) :
    Calls Try.prog 4 #[.int .i64 ((n : Nat) : Int), v1, v2] w fun e w' => e = .returned (.bool true) ∧ Below w.heap.size w w' := by
  have hr1 : rightR ((n : Nat) : Int) weak = (0, -1) := by
    unfold lineR at hr
    split at hr
    · assumption
    · exact hr
  have hr2 : rightR ((n : Nat) : Int) strong = (0, -1) := by
    unfold lineR at hr
    rwa [if_pos hr1] at hr
  have hrb := right_append hr1 hr2
  obtain ⟨n', hn', hn40, hGs⟩ := right_fine hr2
  obtain rfl : n = n' := by omega
  obtain ⟨n', hn2, -, hGb⟩ := right_fine hrb
  obtain rfl : n = n' := by omega
  obtain ⟨i0, hi0, hz0, hz1, hz2⟩ := info_parts info_edge
  have Hi0 := Lib.hid (And.intro hi0 (And.intro hz0 (And.intro hz1 hz2)))
  have HE1 := Lib.hid hE
  have HE2 := Lib.hid hE2
  obtain ⟨wa, wc', hv1, hwc, hwm, -⟩ := hE
  obtain ⟨sa, sc, hv2, hsc, hsm, hsx⟩ := hE2
  unfold maxLen at hwm hsm
  obtain ⟨m1, hm1⟩ : ∃ m, weak.length = m := ⟨_, rfl⟩
  obtain ⟨m2, hm2⟩ : ∃ m, strong.length = m := ⟨_, rfl⟩
  rw [hm1] at hwc hl1 hv1
  rw [hm2] at hsc hl2 hv2 hsx
  subst hv1
  subst hv2
  have Hm1 := Lib.hid hm1
  have Hm2 := Lib.hid hm2
  have Hsx := Lib.hid hsx
  have Hr := Lib.hid hr
  have Hr2 := Lib.hid hr2
  have Hrb := Lib.hid hrb
  have HGs := Lib.hid hGs
  have HGb := Lib.hid hGb
  have e1 : decide (((m1 : Nat) : Int) > 60) = false := decide_eq_false (by omega)
  have e2 : decide (((m2 : Nat) : Int) > 60) = false := decide_eq_false (by omega)
  clear hm1 hm2 hsx hr hr1 hr2 hrb hGs hGb hn' hn2 hi0 hz0 hz1 hz2
  go_enter Try.func4, Try.ntmps4
  go_wp2_with fail
  refine (lineup_calls w).mono ?_
  rintro e w1 ⟨rfl, hb1⟩
  have HB1 := Lib.hid hb1
  have CL := Lib.hid (line_calls _ _ weak strong ((n : Nat) : Int) w1 (HE1.out.below hb1 (Nat.le_refl _)) (HE2.out.below hb1 (Nat.le_refl _)) (by have := Hm1.out; omega) (by have := Hm2.out; omega))
  clear hb1
  go_wp2_with fail
  refine CL.out.mono ?_
  rintro e w2 ⟨lv, ev, xs, rfl, hEv, hR, -, hg, hb2⟩
  obtain rfl := hEv.fine Hr.out
  obtain ⟨rings, hOrd, hAll, hxs⟩ := hg Hr.out n rfl
  have hxl : xs.length = n := by rw [hxs]; exact lines_len hOrd hAll strong
  have hxd : xs.Nodup := by rw [hxs]; exact lines_nodup hOrd strong
  have hxm : ∀ v, v ∈ xs ↔ v < n := by rw [hxs]; exact lines_mem hOrd hAll strong
  obtain ⟨la, lc, rfl, hlc, hlm, hlx⟩ := hR
  unfold maxLen at hlm
  rw [hxl] at hlc hlx ⊢
  have HB2 := Lib.hid (HB1.out.trans (hb2.mono HB1.out.size))
  have HOrd := Lib.hid hOrd
  have HAll := Lib.hid hAll
  have Hxs := Lib.hid hxs
  have Hxl := Lib.hid hxl
  have Hxd := Lib.hid hxd
  have Hxm := Lib.hid hxm
  have Hlx := Lib.hid hlx
  clear hEv hg hOrd hAll hxs hxl hxd hxm hlx hb2 CL
  -- both
  obtain ⟨w3, hw3⟩ : ∃ w3 : World, w3 = w2.alloc (.cells #[] 38) := ⟨_, rfl⟩
  have hs3 : w3.heap.size = w2.heap.size + 1 := by rw [hw3]; simp
  have hown3 : w3.ownsRow w2.heap.size 38 2 (.slice (some ⟨w2.heap.size, 0, none⟩) 0 0) ([] : List EdgeD).length (edgeRows []) := ⟨rfl, .inr ⟨w2.heap.size, 0, #[], rfl, Nat.le_refl _, by rw [hw3]; exact heap_alloc_new w2 _, Nat.le_refl _, by unfold maxLen; decide, rfl, rfl⟩⟩
  have hb23 : Below w2.heap.size w2 w3 := by rw [hw3]; exact (Below.refl _ _).alloc (Nat.le_refl _) _
  have hb03 : Below w.heap.size w w3 := HB2.out.trans (hb23.mono HB2.out.size)
  obtain ⟨a4, w4, hr4, hown4, hg4⟩ := append_edges Hi0.out hown3 (HE1.out.below hb03 (Nat.le_refl _)) (by have := Hm1.out; simp; omega) (by omega) 26
  have hb24 : Below w2.heap.size w2 w4 := hb23.grown hg4 hb23.size (fun k e => (hown3.lt k e).1)
  have hb04 : Below w.heap.size w w4 := HB2.out.trans (hb24.mono HB2.out.size)
  obtain ⟨a5, w5, hr5, hown5, hg5⟩ := append_edges Hi0.out hown4 (HE2.out.below hb04 (Nat.le_refl _)) (by have := Hm1.out; have := Hm2.out; simp; omega) hb24.size 26
  have hb25 : Below w2.heap.size w2 w5 := hb24.grown hg5 hb24.size (fun k e => (hown4.lt k e).1)
  have hEb := edges_owned hown5
  rw [List.nil_append] at hEb
  have HEb := Lib.hid hEb
  obtain ⟨ba, bc, hv5, hbc, hbm, hbx⟩ := hEb
  unfold maxLen at hbm
  obtain ⟨mb, hmb⟩ : ∃ m, (weak ++ strong).length = m := ⟨_, rfl⟩
  rw [hmb] at hbc hbx hv5
  subst hv5
  have CR := Lib.hid (rings_good _ (weak ++ strong) n w5 HEb.out Hrb.out (by have := Hm1.out; have := Hm2.out; simp; omega))
  rw [hw3] at hr4
  have Hr4 := Lib.hid hr4
  have Hr5 := Lib.hid hr5
  have HB25 := Lib.hid hb25
  have Hbx := Lib.hid hbx
  have Hmb := Lib.hid hmb
  clear hw3 hs3 hown3 hb23 hb03 hr4 hown4 hg4 hb24 hb04 hr5 hown5 hg5 hb25 hbx hmb
  go_wp2_with (first | (at_builtin; refine Lib.wpList_append_run _ rfl _ _ 26 26 rfl _ _ rfl rfl _ _ Hr4.out ?_) | (at_builtin; refine Lib.wpList_append_run _ rfl _ _ 26 26 rfl _ _ rfl rfl _ _ Hr5.out ?_))
  refine CR.out.mono ?_
  rintro e w6 ⟨rv, ev, rings2, rfl, hEv, hRr, -, hgood, hl40, hb6⟩
  obtain rfl := hEv.fine Hrb.out
  obtain ⟨hO2, hA2⟩ := hgood Hrb.out n rfl
  obtain rfl : rings2 = rings := hO2.eq HOrd.out hA2 HAll.out
  obtain ⟨ra, rcap, RV, hrv, hq1, hq2, hcell, hrow⟩ := rows2_form hRr
  obtain ⟨q, hq⟩ : ∃ q, rings2.length = q := ⟨_, rfl⟩
  rw [hq] at hq1 hcell hrow hl40 hrv
  subst hrv
  have HB26 := Lib.hid (HB25.out.trans (hb6.mono HB25.out.size))
  have HB56 := Lib.hid hb6
  have Hcell := Lib.hid hcell
  have Hrow := Lib.hid hrow
  have Hq := Lib.hid hq
  have tn : (((n : Nat) : Int) != ((n : Nat) : Int)) = false := by simp
  clear hEv hRr hgood hb6 hcell hrow hq CR hO2 hA2 Hr4 Hr5
  have hmm := @run_makeMap Try.prog
  go_wp2_with fail
  clear hmm
  go_loopg [14] n (fun k v14 wr => ∃ i : Nat, v14 = .int .i64 i ∧ i ≤ n ∧ k = n - i ∧ MapJ Try.prog 3 wr w6.heap.size i (pairM (atL xs i)) ∧ MapJ Try.prog 3 wr (w6.heap.size + 1) 0 (pairM (ofL rings2 0)) ∧ Below w6.heap.size w6 wr)
  case atStart =>
    refine ⟨0, rfl, Nat.zero_le _, rfl, ?_, ?_, ((Below.refl _ _).alloc (Nat.le_refl _) _).alloc (by simp) _⟩
    · exact (MapJ.made w6 _ _).below ((Below.refl _ _).alloc (Nat.le_refl _) _) (by simp)
    · have := MapJ.made (w6.alloc (.map #[] 0)) Try.prog 3
      rw [show (w6.alloc (.map #[] 0)).heap.size = w6.heap.size + 1 by simp] at this
      exact this
  case round =>
    obtain ⟨i, rfl, hi, hk, hMa, hMo, hB⟩ := hrel
    have Hk := Lib.hid hk
    have HMa := Lib.hid hMa
    have HMo := Lib.hid hMo
    have HB := Lib.hid hB
    clear hk hMa hMo hB
    by_cases hlt : i < n
    · obtain ⟨lb, lo, rfl, hlb, hlc'⟩ := Hlx.out.resolve_left (by omega)
      obtain ⟨x, hx⟩ : ∃ x, xs.getD i 0 = x := ⟨_, rfl⟩
      have hxn : x < n := by rw [← hx]; exact (Hxm.out _).1 (mem_getD' _ (by rw [Hxl.out]; exact hlt))
      have c0 : wr.cell? ⟨lb, lo + i, none⟩ = some (.int .i64 ((x : Nat) : Int)) := ((HB26.out.trans (HB.out.mono HB26.out.size)).cell (p := ⟨lb, lo + i, none⟩) hlb).trans (by have h1 := hlc' i 0 hlt (by decide); simp only [Nat.mul_one, Nat.add_zero] at h1; rw [hx] at h1; exact h1)
      have hnew := atL_new Hxd.out (i := i) (by rw [Hxl.out]; exact hlt)
      have hsn := atL_snoc (xs := xs) (i := i) (by rw [Hxl.out]; exact hlt)
      rw [hx] at hnew hsn
      have Hnew := Lib.hid hnew
      have Hsn := Lib.hid hsn
      clear hlc' hx hnew hsn
      go_wp2_with (at_mapUpdate; refine wpList_storeJ _ rfl _ _ _ 36 rfl 3 3 Try.underlying3 Try.underlying36 w6.heap.size i _ rfl HMa.out (by unfold maxLen; omega) ((x : Nat) : Int) rfl (inJ x (by omega)) (.int .i64 ((i : Nat) : Int)) rfl ?_; intro w9 hM9 hg9)
      have hM9' : MapJ Try.prog 3 w9 w6.heap.size (i + 1) (pairM (atL xs (i + 1))) := by
        rw [Hsn.out]
        exact hM9.congr (pairM_snoc Hnew.out)
      have HM9 := Lib.hid hM9'
      have HMo9 := Lib.hid (HMo.out.grown hg9 (by simp))
      have HB9 : Hid (Below w6.heap.size w6 w9) := HB.out.grown hg9 HB.out.size (fun k e => by injection e with e; omega)
      clear hM9 hM9' hg9
      go_wp2_with fail
      go_roundg (n - (i + 1))
      case rel => exact ⟨i + 1, by go_num, by omega, rfl, HM9.out, HMo9.out, HB9.out⟩
      case measure => have := Hk.out; omega
    · obtain rfl : n = i := by omega
      have HMA : Hid (∀ w', Below wr.heap.size wr w' → MapJ Try.prog 3 w' w6.heap.size n (pairM (atL xs n))) := fun w' hb => HMa.out.below hb HMa.out.lt
      obtain ⟨wA, rfl⟩ : ∃ wA : World, wA = wr := ⟨_, rfl⟩
      have hfl : (ofL rings2 0).length = 0 := rfl
      go_wp2_with fail
      go_loopg [13, 15] q (fun k v13 v15 wr => ∃ (i c : Nat), v13 = .int .i64 c ∧ v15 = .int .i64 i ∧ i ≤ q ∧ k = q - i ∧ c = (rings2.take i).flatten.length ∧ MapJ Try.prog 3 wr w6.heap.size n (pairM (atL xs n)) ∧ MapJ Try.prog 3 wr (w6.heap.size + 1) c (pairM (ofL rings2 i)) ∧ Below w6.heap.size w6 wr)
      case atStart => exact ⟨0, 0, rfl, rfl, Nat.zero_le _, rfl, rfl, HMa.out, HMo.out, HB.out⟩
      case round =>
        obtain ⟨i, c, rfl, rfl, hi, hk, hc, hMa, hMo, hB⟩ := hrel
        have Hk2 := Lib.hid hk
        have Hc := Lib.hid hc
        have HMa2 := Lib.hid hMa
        have HMo2 := Lib.hid hMo
        have HB2' := Lib.hid hB
        clear hk hc hMa hMo hB
        by_cases hiq : i < q
        · obtain ⟨b, o, rfl, hb, hc⟩ := Hcell.out.resolve_left (by omega)
          have hiq' : i < rings2.length := by rw [Hq.out]; exact hiq
          have hrne : ringAt rings2 i ≠ [] := (ring_len HOrd.out hiq').2
          obtain ⟨rb, ro, rm, rcp, hV, hrm, hrm0, hrmc, hrcm, hrb, hrc⟩ := Row.form (Hrow.out i hiq) hrne
          obtain ⟨r, hr⟩ : ∃ r, ringAt rings2 i = r := ⟨_, rfl⟩
          have hring : rings2[i]? = some r := by rw [← hr, ringAt_get hiq']; exact List.getElem?_eq_getElem hiq'
          have hc0 := hc i hiq
          rw [hV] at hc0
          have Hr3 := Lib.hid hr
          have HRing := Lib.hid hring
          have Hc0 := Lib.hid hc0
          have Hrc := Lib.hid hrc
          have Hrm := Lib.hid hrm
          have Hiq := Lib.hid hiq'
          clear hc hV hrne hr hring hc0 hrc hrm hiq'
          have c0 := (HB2'.out.cell (p := ⟨b, o + i, none⟩) hb).trans Hc0.out
          go_wp2_with fail
          go_loopg [13, 16] rm (fun k v13 v16 wr => ∃ (j c' : Nat), v13 = .int .i64 c' ∧ v16 = .int .i64 j ∧ j ≤ rm ∧ k = rm - j ∧ c' = c + j ∧ MapJ Try.prog 3 wr w6.heap.size n (pairM (atL xs n)) ∧ MapJ Try.prog 3 wr (w6.heap.size + 1) c' (pairM (ofP rings2 i j)) ∧ Below w6.heap.size w6 wr)
          case atStart => exact ⟨0, c, rfl, rfl, Nat.zero_le _, rfl, rfl, HMa2.out, by rw [ofP_zero]; exact HMo2.out, HB2'.out⟩
          case round =>
            obtain ⟨j, c', rfl, rfl, hj, hk, hcj, hMa, hMo, hB⟩ := hrel
            have Hk3 := Lib.hid hk
            have Hcj := Lib.hid hcj
            have HMa3 := Lib.hid hMa
            have HMo3 := Lib.hid hMo
            have HB3 := Lib.hid hB
            clear hk hcj hMa hMo hB
            have c1 := (HB3.out.cell (p := ⟨b, o + i, none⟩) hb).trans Hc0.out
            by_cases hjl : j < rm
            · obtain ⟨x, hx⟩ : ∃ x, r.getD j 0 = x := ⟨_, rfl⟩
              have hxr : x ∈ r := by rw [← hx]; exact mem_getD' _ (by rw [← Hr3.out, ← Hrm.out]; exact hjl)
              have hxn : x < n := ord_lt HOrd.out HRing.out hxr
              have hcn : c' ≤ 2000 := by
                have h1 := Hcj.out
                have h2 := Hc.out
                have h3 : (rings2.take i).flatten.length ≤ rings2.flatten.length := by
                  have e : rings2.flatten = (rings2.take i).flatten ++ (rings2.drop i).flatten := by rw [← List.flatten_append, List.take_append_drop]
                  rw [e, List.length_append]; omega
                rw [flat_len HOrd.out HAll.out] at h3
                have h4 := (ring_len HOrd.out Hiq.out).1
                rw [← Hrm.out] at h4
                omega
              have c2 : wr.cell? ⟨rb, ro + j, none⟩ = some (.int .i64 ((x : Nat) : Int)) := (HB3.out.cell (p := ⟨rb, ro + j, none⟩) hrb).trans (by have h1 := Hrc.out j hjl; rw [Hr3.out, hx] at h1; exact h1)
              have hnew := ofP_new HOrd.out (i := i) (k := j) Hiq.out (by rw [← Hrm.out]; exact hjl)
              have hsn := ofP_snoc (rings := rings2) (i := i) (k := j) (by rw [← Hrm.out]; exact hjl)
              rw [Hr3.out, hx] at hnew hsn
              have Hnew := Lib.hid hnew
              have Hsn := Lib.hid hsn
              clear hx hxr hnew hsn
              go_wp2_with (at_mapUpdate; refine wpList_storeJ _ rfl _ _ _ 36 rfl 3 3 Try.underlying3 Try.underlying36 (w6.heap.size + 1) c' _ rfl HMo3.out (by unfold maxLen; omega) ((x : Nat) : Int) rfl (inJ x (by omega)) (.int .i64 ((i : Nat) : Int)) rfl ?_; intro w9 hM9 hg9)
              have hM9' : MapJ Try.prog 3 w9 (w6.heap.size + 1) (c' + 1) (pairM (ofP rings2 i (j + 1))) := by
                rw [Hsn.out]
                exact hM9.congr (pairM_snoc Hnew.out)
              have HM9 := Lib.hid hM9'
              have HMa9 := Lib.hid (HMa3.out.grown hg9 (by simp))
              have HB9 : Hid (Below w6.heap.size w6 w9) := HB3.out.grown hg9 HB3.out.size (fun k e => by injection e with e; omega)
              clear hM9 hM9' hg9 c0 c1 c2
              go_wp2_with fail
              go_roundg (rm - (j + 1))
              case rel => exact ⟨j + 1, c' + 1, by go_num, by go_num, by omega, rfl, by have := Hcj.out; omega, HMa9.out, HM9.out, HB9.out⟩
              case measure => have := Hk3.out; omega
            · obtain rfl : rm = j := by omega
              have HC : Hid (c' = (rings2.take (i + 1)).flatten.length) := by
                show _ = _
                rw [take_snoc' [] Hiq.out, List.flatten_append, List.length_append, ← Hc.out, Hcj.out]
                have : rings2.getD i [] = ringAt rings2 i := rfl
                rw [this, Hrm.out]
                simp
              have HMo4 : Hid (MapJ Try.prog 3 wr (w6.heap.size + 1) c' (pairM (ofL rings2 (i + 1)))) := by
                show MapJ _ _ _ _ _ _
                rw [← ofP_full Hiq.out (k := rm) (by rw [← Hrm.out]; exact Nat.le_refl _)]
                exact HMo3.out
              go_wp2_with fail
              go_roundg (q - (i + 1))
              case rel => exact ⟨i + 1, c', rfl, by go_num, by omega, rfl, HC.out, HMa3.out, HMo4.out, HB3.out⟩
              case measure => have := Hk2.out; omega
        · obtain rfl : q = i := by omega
          have hcn : c = n := by
            rw [Hc.out, List.take_of_length_le (by rw [Hq.out]; exact Nat.le_refl _)]
            exact flat_len HOrd.out HAll.out
          subst hcn
          have hlA : ((atL xs c).map (·.1)).length = c := by rw [atL_keys, List.take_of_length_le (by rw [Hxl.out]; exact Nat.le_refl _)]; exact Hxl.out
          have hlO : ((ofL rings2 q).map (·.1)).length = c := by rw [ofL_keys]; exact Hc.out.symm
          have HlA := Lib.hid hlA
          have HlO := Lib.hid hlO
          clear hlA hlO
          go_wp2_with (first | (at_len; refine wpList_lenP _ rfl _ 36 rfl 3 3 Try.underlying3 Try.underlying36 w6.heap.size c (atL xs c) rfl HMa2.out (atL_nodup Hxd.out c) c HlA.out ?_) | (at_len; refine wpList_lenPw _ (by kernel_rfl) _ 36 rfl 3 3 Try.underlying3 Try.underlying36 (w6.heap.size + 1) c (ofL rings2 q) rfl HMo2.out (ofL_nodup HOrd.out q) c HlO.out ?_))
          obtain ⟨wB, rfl⟩ : ∃ wB : World, wB = wr := ⟨_, rfl⟩
          have HBw : Hid (Below w.heap.size w wB) := HB2.out.trans ((HB26.out.trans (HB2'.out.mono HB26.out.size)).mono HB2.out.size)
          have HB5B : Hid (Below w5.heap.size w5 wB) := HB56.out.trans (HB2'.out.mono HB56.out.size)
          go_loopg [17] mb (fun k v17 wr => ∃ i : Nat, v17 = .int .i64 i ∧ i ≤ mb ∧ k = mb - i ∧ Below wB.heap.size wB wr)
          case atStart => exact ⟨0, rfl, Nat.zero_le _, rfl, Below.refl _ _⟩
          case round =>
            obtain ⟨i, rfl, hi, hk, hB⟩ := hrel
            have Hk4 := Lib.hid hk
            have HB4 := Lib.hid hB
            clear hk hB
            by_cases hil : i < mb
            · have hb5 : Below w5.heap.size w5 wr := HB5B.out.trans (HB4.out.mono HB5B.out.size)
              obtain ⟨eb, eo, rfl, heb, hec⟩ := Hbx.out.resolve_left (by omega)
              obtain ⟨e, he⟩ : ∃ e, (weak ++ strong).getD i (0, 0) = e := ⟨_, rfl⟩
              have hmem : e ∈ (weak ++ strong) := by rw [← he]; exact mem_getD' _ (by rw [Hmb.out]; exact hil)
              have hg := HGb.out e hmem
              obtain ⟨x, y⟩ := e
              obtain ⟨x, rfl⟩ : ∃ x' : Nat, x = ((x' : Nat) : Int) := ⟨x.toNat, by simp only at hg; omega⟩
              obtain ⟨y, rfl⟩ : ∃ y' : Nat, y = ((y' : Nat) : Int) := ⟨y.toNat, by simp only at hg; omega⟩
              have hxn : x < c := by simp only at hg; omega
              have hyn : y < c := by simp only at hg; omega
              have c0 : wr.cell? ⟨eb, eo + i * 2, none⟩ = some (.int .i64 ((x : Nat) : Int)) := (hb5.cell (p := ⟨eb, eo + i * 2, none⟩) heb).trans (by have h1 := hec i 0 hil (by decide); rw [he] at h1; exact h1)
              have c1 : wr.cell? ⟨eb, eo + i * 2 + 1, none⟩ = some (.int .i64 ((y : Nat) : Int)) := (hb5.cell (p := ⟨eb, eo + i * 2 + 1, none⟩) heb).trans (by have h1 := hec i 1 hil (by decide); rw [he] at h1; exact h1)
              obtain ⟨S, hS, hxS⟩ := HAll.out x hxn
              obtain ⟨T, hT, hyT⟩ := HAll.out y hyn
              obtain ⟨i1, hi1, hS1⟩ := List.getElem_of_mem hS
              obtain ⟨j1, hj1, hT1⟩ := List.getElem_of_mem hT
              have gS : rings2[i1]? = some S := by rw [List.getElem?_eq_getElem hi1, hS1]
              have gT : rings2[j1]? = some T := by rw [List.getElem?_eq_getElem hj1, hT1]
              have Hox : Hid (pairM (ofL rings2 q) ((x : Nat) : Int) = some (.int .i64 ((i1 : Nat) : Int))) := pairM_get (ofL_nodup HOrd.out q) (ofL_mem gS hxS (by rw [Hq.out]; exact Nat.le_refl _))
              have Hoy : Hid (pairM (ofL rings2 q) ((y : Nat) : Int) = some (.int .i64 ((j1 : Nat) : Int))) := pairM_get (ofL_nodup HOrd.out q) (ofL_mem gT hyT (by rw [Hq.out]; exact Nat.le_refl _))
              have hle := edge_le HOrd.out (show EdL (weak ++ strong) x y from hmem) gS hxS gT hyT
              have hBa : Below wB.heap.size wB (wr.alloc (.cells #[.int .i64 ((x : Nat) : Int), .int .i64 ((y : Nat) : Int)] 38)) := HB4.out.alloc HB4.out.size _
              have HMa5 := Lib.hid (HMa2.out.below hBa HMa2.out.lt)
              have HMo5 := Lib.hid (HMo2.out.below hBa HMo2.out.lt)
              have HBa := Lib.hid hBa
              by_cases hij : i1 = j1
              · subst hij
                have d1 : decide (((i1 : Nat) : Int) > ((i1 : Nat) : Int)) = false := decide_eq_false (by omega)
                have d2 : decide (((i1 : Nat) : Int) < ((i1 : Nat) : Int)) = false := decide_eq_false (by omega)
                have d3 : decide (i1 < i1) = false := decide_eq_false (by omega)
                clear hec he hmem hg hS hT hxS hyT hi1 hj1 hS1 hT1 gS gT hle hBa hb5
                go_wp2_with (first | (at_lookup; refine wpList_lookJ _ rfl _ _ 36 rfl 3 3 Try.underlying3 Try.underlying36 (.int .i64 0) (zint2 _) (w6.heap.size + 1) c _ rfl HMo5.out ((x : Nat) : Int) rfl (inJ x (by omega)) (.int .i64 ((i1 : Nat) : Int)) (gotJ_some Hox.out) ?_) | (at_lookup; refine wpList_lookJ _ rfl _ _ 36 rfl 3 3 Try.underlying3 Try.underlying36 (.int .i64 0) (zint2 _) (w6.heap.size + 1) c _ rfl HMo5.out ((y : Nat) : Int) rfl (inJ y (by omega)) (.int .i64 ((i1 : Nat) : Int)) (gotJ_some Hoy.out) ?_) | (at_lookup; refine wpList_lookJw _ (by kernel_rfl) _ _ 36 rfl 3 3 Try.underlying3 Try.underlying36 (.int .i64 0) (zint2 _) (w6.heap.size + 1) c _ rfl HMo5.out ((x : Nat) : Int) rfl (inJ x (by omega)) (.int .i64 ((i1 : Nat) : Int)) (gotJ_some Hox.out) ?_) | (at_lookup; refine wpList_lookJw _ (by kernel_rfl) _ _ 36 rfl 3 3 Try.underlying3 Try.underlying36 (.int .i64 0) (zint2 _) (w6.heap.size + 1) c _ rfl HMo5.out ((y : Nat) : Int) rfl (inJ y (by omega)) (.int .i64 ((i1 : Nat) : Int)) (gotJ_some Hoy.out) ?_))
                go_roundg (mb - (i + 1))
                case rel => exact ⟨i + 1, by go_num, by omega, rfl, HBa.out⟩
                case measure => have := Hk4.out; omega
              · obtain ⟨p1, q1, hp1, hq1', hpq⟩ := rings_before strong gS gT (by omega) hxS hyT
                rw [← Hxs.out] at hp1 hq1'
                have Hax : Hid (pairM (atL xs c) ((x : Nat) : Int) = some (.int .i64 ((p1 : Nat) : Int))) := pairM_get (atL_nodup Hxd.out c) (atL_mem hp1 (by rw [Hxl.out]; exact Nat.le_refl _))
                have Hay : Hid (pairM (atL xs c) ((y : Nat) : Int) = some (.int .i64 ((q1 : Nat) : Int))) := pairM_get (atL_nodup Hxd.out c) (atL_mem hq1' (by rw [Hxl.out]; exact Nat.le_refl _))
                have d1 : decide (((i1 : Nat) : Int) > ((j1 : Nat) : Int)) = false := decide_eq_false (by omega)
                have d2 : decide (((i1 : Nat) : Int) < ((j1 : Nat) : Int)) = true := decide_eq_true (by omega)
                have d3 : decide (((p1 : Nat) : Int) > ((q1 : Nat) : Int)) = false := decide_eq_false (by omega)
                have d4 : decide (j1 < i1) = false := decide_eq_false (by omega)
                have d5 : decide (i1 < j1) = true := decide_eq_true (by omega)
                have d6 : decide (q1 < p1) = false := decide_eq_false (by omega)
                clear hec he hmem hg hS hT hxS hyT hi1 hj1 hS1 hT1 gS gT hle hBa hp1 hq1' hb5
                go_wp2_with (first | (at_lookup; refine wpList_lookJ _ rfl _ _ 36 rfl 3 3 Try.underlying3 Try.underlying36 (.int .i64 0) (zint2 _) (w6.heap.size + 1) c _ rfl HMo5.out ((x : Nat) : Int) rfl (inJ x (by omega)) (.int .i64 ((i1 : Nat) : Int)) (gotJ_some Hox.out) ?_) | (at_lookup; refine wpList_lookJ _ rfl _ _ 36 rfl 3 3 Try.underlying3 Try.underlying36 (.int .i64 0) (zint2 _) (w6.heap.size + 1) c _ rfl HMo5.out ((y : Nat) : Int) rfl (inJ y (by omega)) (.int .i64 ((j1 : Nat) : Int)) (gotJ_some Hoy.out) ?_) | (at_lookup; refine wpList_lookJw _ (by kernel_rfl) _ _ 36 rfl 3 3 Try.underlying3 Try.underlying36 (.int .i64 0) (zint2 _) (w6.heap.size + 1) c _ rfl HMo5.out ((x : Nat) : Int) rfl (inJ x (by omega)) (.int .i64 ((i1 : Nat) : Int)) (gotJ_some Hox.out) ?_) | (at_lookup; refine wpList_lookJw _ (by kernel_rfl) _ _ 36 rfl 3 3 Try.underlying3 Try.underlying36 (.int .i64 0) (zint2 _) (w6.heap.size + 1) c _ rfl HMo5.out ((y : Nat) : Int) rfl (inJ y (by omega)) (.int .i64 ((j1 : Nat) : Int)) (gotJ_some Hoy.out) ?_) | (at_lookup; refine wpList_lookJw _ (by kernel_rfl) _ _ 36 rfl 3 3 Try.underlying3 Try.underlying36 (.int .i64 0) (zint2 _) w6.heap.size c _ rfl HMa5.out ((x : Nat) : Int) rfl (inJ x (by omega)) (.int .i64 ((p1 : Nat) : Int)) (gotJ_some Hax.out) ?_) | (at_lookup; refine wpList_lookJw _ (by kernel_rfl) _ _ 36 rfl 3 3 Try.underlying3 Try.underlying36 (.int .i64 0) (zint2 _) w6.heap.size c _ rfl HMa5.out ((y : Nat) : Int) rfl (inJ y (by omega)) (.int .i64 ((q1 : Nat) : Int)) (gotJ_some Hay.out) ?_))
                go_roundg (mb - (i + 1))
                case rel => exact ⟨i + 1, by go_num, by omega, rfl, HBa.out⟩
                case measure => have := Hk4.out; omega
            · have CA := Lib.hid (rings_good _ strong c wr (HE2.out.below (HBw.out.trans (HB4.out.mono HBw.out.size)) (Nat.le_refl _)) Hr2.out (by have := Hm2.out; omega))
              go_wp2_with fail
              refine CA.out.mono ?_
              rintro e w7 ⟨av, ev, alone, rfl, hEv, hRa, -, hgood, hla40, hb7⟩
              obtain rfl := hEv.fine Hr2.out
              obtain ⟨hO3, hA3⟩ := hgood Hr2.out c rfl
              obtain ⟨aa, acap, AV, hav, -, -, -, -⟩ := rows2_form hRa
              obtain ⟨z, hz⟩ : ∃ z, alone.length = z := ⟨_, rfl⟩
              rw [hz] at hav hla40
              subst hav
              have HB7 := Lib.hid (HB4.out.trans (hb7.mono HB4.out.size))
              have HO3 := Lib.hid hO3
              have HA3 := Lib.hid hA3
              have Hz := Lib.hid hz
              clear hEv hRa hgood hb7 hO3 hA3 hz CA
              by_cases hzc : z < c
              · have d1 : decide (((z : Nat) : Int) < ((c : Nat) : Int)) = true := decide_eq_true (by omega)
                have d2 : decide (z < c) = true := decide_eq_true (by omega)
                go_wp2_with fail
                go_ret
                exact ⟨rfl, HBw.out.trans (HB7.out.mono HBw.out.size)⟩
              · have d1 : decide (((z : Nat) : Int) < ((c : Nat) : Int)) = false := decide_eq_false (by omega)
                have d2 : decide (z < c) = false := decide_eq_false (by omega)
                go_wp2_with fail
                go_loopg [20] m2 (fun k v20 wr => ∃ i : Nat, v20 = .int .i64 i ∧ i ≤ m2 ∧ k = m2 - i ∧ Below wB.heap.size wB wr)
                case atStart => exact ⟨0, rfl, Nat.zero_le _, rfl, HB7.out⟩
                case round =>
                  obtain ⟨j, rfl, hj, hk, hB⟩ := hrel
                  have Hk5 := Lib.hid hk
                  have HB5 := Lib.hid hB
                  clear hk hB
                  by_cases hil : j < m2
                  · have hb5 : Below w.heap.size w wr := HBw.out.trans (HB5.out.mono HBw.out.size)
                    obtain ⟨eb, eo, rfl, heb, hec⟩ := Hsx.out.resolve_left (by omega)
                    obtain ⟨e, he⟩ : ∃ e, strong.getD j (0, 0) = e := ⟨_, rfl⟩
                    have hmem : e ∈ strong := by rw [← he]; exact mem_getD' _ (by rw [Hm2.out]; exact hil)
                    have hg := HGs.out e hmem
                    obtain ⟨x, y⟩ := e
                    obtain ⟨x, rfl⟩ : ∃ x' : Nat, x = ((x' : Nat) : Int) := ⟨x.toNat, by simp only at hg; omega⟩
                    obtain ⟨y, rfl⟩ : ∃ y' : Nat, y = ((y' : Nat) : Int) := ⟨y.toNat, by simp only at hg; omega⟩
                    have hxn : x < c := by simp only at hg; omega
                    have hyn : y < c := by simp only at hg; omega
                    have c0 : wr.cell? ⟨eb, eo + j * 2, none⟩ = some (.int .i64 ((x : Nat) : Int)) := (hb5.cell (p := ⟨eb, eo + j * 2, none⟩) heb).trans (by have h1 := hec j 0 hil (by decide); rw [he] at h1; exact h1)
                    have c1 : wr.cell? ⟨eb, eo + j * 2 + 1, none⟩ = some (.int .i64 ((y : Nat) : Int)) := (hb5.cell (p := ⟨eb, eo + j * 2 + 1, none⟩) heb).trans (by have h1 := hec j 1 hil (by decide); rw [he] at h1; exact h1)
                    obtain ⟨S, hS, hxS⟩ := HAll.out x hxn
                    obtain ⟨T, hT, hyT⟩ := HAll.out y hyn
                    obtain ⟨i1, hi1, hS1⟩ := List.getElem_of_mem hS
                    obtain ⟨j1, hj1, hT1⟩ := List.getElem_of_mem hT
                    have gS : rings2[i1]? = some S := by rw [List.getElem?_eq_getElem hi1, hS1]
                    have gT : rings2[j1]? = some T := by rw [List.getElem?_eq_getElem hj1, hT1]
                    have Hox : Hid (pairM (ofL rings2 q) ((x : Nat) : Int) = some (.int .i64 ((i1 : Nat) : Int))) := pairM_get (ofL_nodup HOrd.out q) (ofL_mem gS hxS (by rw [Hq.out]; exact Nat.le_refl _))
                    have Hoy : Hid (pairM (ofL rings2 q) ((y : Nat) : Int) = some (.int .i64 ((j1 : Nat) : Int))) := pairM_get (ofL_nodup HOrd.out q) (ofL_mem gT hyT (by rw [Hq.out]; exact Nat.le_refl _))
                    have hBa : Below wB.heap.size wB (wr.alloc (.cells #[.int .i64 ((x : Nat) : Int), .int .i64 ((y : Nat) : Int)] 38)) := HB5.out.alloc HB5.out.size _
                    have HMa5 := Lib.hid (HMa2.out.below hBa HMa2.out.lt)
                    have HBa := Lib.hid hBa
                    by_cases hxy : x = y
                    · subst hxy
                      have d2 : (((x : Nat) : Int) != ((x : Nat) : Int)) = false := by simp
                      clear hec he hmem hg hS hT hxS hyT hi1 hj1 hS1 hT1 gS gT hBa hb5
                      go_wp2_with fail
                      go_roundg (m2 - (j + 1))
                      case rel => exact ⟨j + 1, by go_num, by omega, rfl, HBa.out⟩
                      case measure => have := Hk5.out; omega
                    · obtain ⟨p1, q1, hp1, hq1', hpq⟩ := strong_before HOrd.out HAll.out HO3.out HA3.out (by rw [Hz.out]; omega) (show EdL strong x y from hmem) hxn hyn hxy
                      rw [← Hxs.out] at hp1 hq1'
                      have Hax : Hid (pairM (atL xs c) ((x : Nat) : Int) = some (.int .i64 ((p1 : Nat) : Int))) := pairM_get (atL_nodup Hxd.out c) (atL_mem hp1 (by rw [Hxl.out]; exact Nat.le_refl _))
                      have Hay : Hid (pairM (atL xs c) ((y : Nat) : Int) = some (.int .i64 ((q1 : Nat) : Int))) := pairM_get (atL_nodup Hxd.out c) (atL_mem hq1' (by rw [Hxl.out]; exact Nat.le_refl _))
                      have d2 : (((x : Nat) : Int) != ((y : Nat) : Int)) = true := by simp; omega
                      have d3 : decide (((p1 : Nat) : Int) > ((q1 : Nat) : Int)) = false := decide_eq_false (by omega)
                      have d4 : decide (q1 < p1) = false := decide_eq_false (by omega)
                      clear hec he hmem hg hS hT hxS hyT hi1 hj1 hS1 hT1 gS gT hBa hp1 hq1' hb5
                      go_wp2_with (first | (at_lookup; refine wpList_lookJw _ (by kernel_rfl) _ _ 36 rfl 3 3 Try.underlying3 Try.underlying36 (.int .i64 0) (zint2 _) w6.heap.size c _ rfl HMa5.out ((x : Nat) : Int) rfl (inJ x (by omega)) (.int .i64 ((p1 : Nat) : Int)) (gotJ_some Hax.out) ?_) | (at_lookup; refine wpList_lookJw _ (by kernel_rfl) _ _ 36 rfl 3 3 Try.underlying3 Try.underlying36 (.int .i64 0) (zint2 _) w6.heap.size c _ rfl HMa5.out ((y : Nat) : Int) rfl (inJ y (by omega)) (.int .i64 ((q1 : Nat) : Int)) (gotJ_some Hay.out) ?_))
                      go_roundg (m2 - (j + 1))
                      case rel => exact ⟨j + 1, by go_num, by omega, rfl, HBa.out⟩
                      case measure => have := Hk5.out; omega
                  · go_wp2_with fail
                    go_ret
                    exact ⟨rfl, HBw.out.trans (HB5.out.mono HBw.out.size)⟩
end Go.Proofs.Ytnfnebfioibndaa
