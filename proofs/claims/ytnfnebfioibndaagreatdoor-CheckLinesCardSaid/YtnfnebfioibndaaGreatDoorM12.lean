/- check.Configure: the error that it returns is judgeC's. -/
import Derived.Test.YtnfnebfioibndaaGreatDoorM11
namespace Go.Proofs.YtnfnebfioibndaaGreatDoor
open Go.RowKit
set_option maxRecDepth 100000
set_option maxHeartbeats 4000000

theorem allB_no {ks : List KnownD} {ws : List Int} {i : Nat} {x : Int} (hi : i < ws.length) (hx : ws.getD i 0 = x) (h : (decide (0 ≤ x ∧ x < (ks.length : Int)) && mayK (ks.getD x.toNat KnownD.none)) = false) : allB ks (ws.take (i + 1)) = allB ks (ws.take i) := by
  have e : ([x] : List Int).filter (fun (i : Int) => decide (0 ≤ i ∧ i < (ks.length : Int)) && mayK (ks.getD i.toNat KnownD.none)) = [] := by rw [List.filter_cons, h]; rfl
  unfold allB
  rw [take_snoc 0 hi, hx, List.filter_append, e, List.append_nil]
theorem allB_yes {ks : List KnownD} {ws : List Int} {i : Nat} {x : Int} (hi : i < ws.length) (hx : ws.getD i 0 = x) (h : (decide (0 ≤ x ∧ x < (ks.length : Int)) && mayK (ks.getD x.toNat KnownD.none)) = true) : allB ks (ws.take (i + 1)) = allB ks (ws.take i) ++ [(ks.getD x.toNat KnownD.none).bare] := by
  have e : ([x] : List Int).filter (fun (i : Int) => decide (0 ≤ i ∧ i < (ks.length : Int)) && mayK (ks.getD i.toNat KnownD.none)) = [x] := by rw [List.filter_cons, h]; rfl
  unfold allB
  rw [take_snoc 0 hi, hx, List.filter_append, e, List.map_append, List.append_assoc]
  rfl
theorem allB_mem {ks : List KnownD} {ws : List Int} {b : BareD} (h : b ∈ allB ks ws) : ∃ k ∈ ks, k.bare = b := by
  unfold allB at h
  rcases List.mem_append.1 h with h | h
  · obtain ⟨k, hk, rfl⟩ := List.mem_map.1 h
    exact ⟨k, (List.mem_filter.1 hk).1, rfl⟩
  · obtain ⟨x, hx, rfl⟩ := List.mem_map.1 h
    have h2 := (List.mem_filter.1 hx).2
    rw [Bool.and_eq_true] at h2
    have h3 := of_decide_eq_true h2.1
    exact ⟨_, mem_getD _ (by omega), rfl⟩
theorem small_of_bare {ks : List KnownD} (hF : FitK ks) {w : World} {o : OffD} (ht : Terms w o.pv o.provides) (h : ∃ k ∈ ks, k.bare = o.bare) : OffOk w o := by
  obtain ⟨k, hk, e⟩ := h
  have hs := hF.small k hk
  have e1 : k.pack.up = o.up := congrArg (fun b : BareD => b.2.2.1) e
  have e2 : k.pack.rv = o.rv := congrArg (fun b : BareD => b.2.2.2.1) e
  have e3 : k.pack.provides = o.provides := congrArg (fun b : BareD => b.2.2.2.2) e
  exact ⟨ht, by rw [← e1, ← e2]; exact hs.sm, by rw [← e3]; exact hs.provides⟩

/-- An error that a function of check returns. -/
def ErrR (w : World) (r : Int × Int) (e : Ending) (w' : World) : Prop := ∃ v, e = .returned v ∧ ErrV w' v r.1 r.2 ∧ Below w.heap.size w w'

theorem configure_calls (kv bv : Value) (ks : List KnownD) (which : Int) (ws : List Int) (w : World) (hK : Knowns w kv ks) (hI : Ints w bv ws) (hF : FitK ks) (hT : TabA w) (hws : ws.length ≤ 30) :
    Calls Tryz.prog 10 #[kv, .int .i64 which, bv] w (ErrR w (judgeC ks which ws)) := by
  have HK0 := Lib.hid hK
  have HI0 := Lib.hid hI
  obtain ⟨⟨ai, capi, rfl, hcapi, hmaxi, hcelli⟩, -⟩ := hI
  obtain ⟨R, ⟨a, cap, rfl, hcap, hmax, hcell⟩, hO⟩ := hK
  unfold maxLen at hmax hmaxi
  obtain ⟨i0, hi0, hz0', hz1, hz2⟩ := info_parts info_offer
  have Hcell := Lib.hid hcell
  have HO := Lib.hid hO
  obtain ⟨m, hm⟩ : ∃ m, ks.length = m := ⟨_, rfl⟩
  have hm20 := hF.len
  rw [hm] at hcap Hcell HO hm20 ⊢
  have HK : Hid (Knowns w (.slice a m cap) ks) := by have := HK0; rwa [hm] at this
  obtain ⟨n, hn⟩ : ∃ n, ws.length = n := ⟨_, rfl⟩
  rw [hn] at hcapi hcelli hws ⊢
  have Hcelli := Lib.hid hcelli
  have HT := Lib.hid hT
  have HF := Lib.hid hF
  have Hm := Lib.hid hm
  have Hn := Lib.hid hn
  have Hi0 := Lib.hid (And.intro hi0 (And.intro hz0' (And.intro hz1 hz2)))
  clear hcell hO hm hi0 hz0' hz1 hz2 HK0 hF hT HI0 hcelli hn
  by_cases hr : which < 0 ∨ (m : Int) ≤ which
  case' pos =>
    have HJ : Hid (judgeC ks which ws = (2, -1)) := by
      show _ = _
      unfold judgeC
      rw [Hm.out, if_pos hr]
    by_cases h0 : which < 0
    · have e0 : decide (which < 0) = true := decide_eq_true h0
      clear h0 hr
      go_enter Tryz.func10, Tryz.ntmps10
      go_wp2_with fail
      go_ret
      exact ⟨_, rfl, by rw [HJ.out]; exact .no 2, Below.refl _ _⟩
    · have e0 : decide (which < 0) = false := decide_eq_false h0
      have h1 : (m : Int) ≤ which := by omega
      have e1 : decide ((m : Int) ≤ which) = true := decide_eq_true h1
      clear h0 hr h1
      go_enter Tryz.func10, Tryz.ntmps10
      go_wp2_with fail
      go_ret
      exact ⟨_, rfl, by rw [HJ.out]; exact .no 2, Below.refl _ _⟩
  obtain ⟨i, rfl⟩ : ∃ jw : Nat, which = (jw : Int) := ⟨which.toNat, by omega⟩
  have hlt : i < m := by omega
  obtain ⟨wr, rfl⟩ : ∃ wr : World, wr = w := ⟨_, rfl⟩
  have hB : Below wr.heap.size wr wr := Below.refl _ _
  obtain ⟨bp, op, rfl, hbp, hcp⟩ := Hcell.out.resolve_left (by omega)
  obtain ⟨q, hq⟩ : ∃ q, ks.getD i KnownD.none = q := ⟨_, rfl⟩
  have hkn := HO.out i hlt
  have hmem : ks.getD i KnownD.none ∈ ks := mem_getD _ (by rw [Hm.out]; exact hlt)
  rw [hq] at hkn hmem
  have HR0 : wr.rangeAt bp (op + i * 20) (row20 (R i)) := rangeAt_row20 fun j hj => (hB.cell (p := ⟨bp, op + i * 20 + j, none⟩) hbp).trans (hcp i j hlt hj)
  obtain ⟨s, e, u, r, hd, wl, tl, kp⟩ := q
  obtain ⟨fw, nw, qw, ft, nt, qt, f4, n4, q4, f5, n5, q5, f6, n6, q6, f7, n7, q7, f8, n8, q8, f9, n9, q9, f10, n10, q10, f11, n11, q11, fa, fn, fc, eR, hV, -, -⟩ := hkn.cells
  dsimp only at eR hV
  rw [eR] at HR0
  have HR := Lib.hid HR0
  have HV := Lib.hid hV
  have Hq := Lib.hid hq
  have Hmem := Lib.hid hmem
  have hsz := hB.size
  clear HR0 eR hV hkn hcp hq hmem
  obtain ⟨wt, hwt⟩ : ∃ wt : World, wt = wr.alloc (.cells #[.int .i64 s, .int .i64 e, .string u, .string r, .bool hd, .slice fw nw qw, .slice ft nt qt, .string kp.name, .int .i64 kp.ep, .string kp.up, .string kp.rv, .slice f4 n4 q4, .slice f5 n5 q5, .slice f6 n6 q6, .slice f7 n7 q7, .slice f8 n8 q8, .slice f9 n9 q9, .slice f10 n10 q10, .slice f11 n11 q11, .slice fa fn fc] 61) := ⟨_, rfl⟩
  have hBr : Below wr.heap.size wr wt := by rw [hwt]; exact (Below.refl _ _).alloc (Nat.le_refl _) _
  have hBt : Below wr.heap.size wr wt := by rw [hwt]; exact hB.alloc hB.size _
  have hzt : wt.heap.size = wr.heap.size + 1 := by rw [hwt]; simp
  have hRn : wt.rangeAt wr.heap.size 0 [.int .i64 s, .int .i64 e, .string u, .string r, .bool hd, .slice fw nw qw, .slice ft nt qt, .string kp.name, .int .i64 kp.ep, .string kp.up, .string kp.rv, .slice f4 n4 q4, .slice f5 n5 q5, .slice f6 n6 q6, .slice f7 n7 q7, .slice f8 n8 q8, .slice f9 n9 q9, .slice f10 n10 q10, .slice f11 n11 q11, .slice fa fn fc] := by rw [hwt]; exact rangeAt_new _ _ _
  have HRn := Lib.hid hRn
  have hlt2 : wr.heap.size < wt.heap.size := by omega
  have Hwt := Lib.hid hwt
  have Hzt := Lib.hid hzt
  have hsz2 : wr.heap.size ≤ wt.heap.size := hBt.size
  clear hzt hwt hRn hBr
  obtain ⟨kw, hkw⟩ : ∃ kw : KnownD, (⟨s, e, u, r, hd, wl, tl, kp⟩ : KnownD) = kw := ⟨_, rfl⟩
  have HJ0 : Hid (judgeC ks (i : Int) ws = if mayK kw then (if (metC ks kw ws).2 then (0, -1) else (7, (metC ks kw ws).1)) else (6, -1)) := by
    show _ = _
    unfold judgeC
    rw [Hm.out, if_neg hr, Int.toNat_natCast, Hq.out, hkw]
  have hst : s = kw.state := by rw [← hkw]
  have hkp : kp = kw.pack := by rw [← hkw]
  have g0 : wt.cell? ⟨wr.heap.size, 0, none⟩ = some (.int .i64 s) := HRn.out 0 _ rfl
  have MAY := Lib.hid (may_calls s 3 wt (HT.out.below hBt))
  have Hkp := Lib.hid hkp
  clear hr
  cases hmay : mayK kw
  case' false =>
    have HJ : Hid (judgeC ks (i : Int) ws = (6, -1)) := by show _ = _; rw [HJ0.out, hmay]; rfl
    have hmay' : (nextE s 3 == 0) = false := by rw [hst]; exact hmay
    rw [hmay'] at MAY
    clear hmay hmay' hst hkp
    go_enter Tryz.func10, Tryz.ntmps10
    go_wp2_with (first
      | (refine wpList_load_mid (by rfl) 61 _ (by rfl) bp (op + i * 20) (by rfl) _ _ HR.out Tryz.underlying61 (by rfl) (by kernel_rfl) ?_)
      | (refine wpList_store_mid (by rfl) 61 _ _ (by rfl) wr.heap.size 0 #[.int .i64 s, .int .i64 e, .string u, .string r, .bool hd, .slice fw nw qw, .slice ft nt qt, .string kp.name, .int .i64 kp.ep, .string kp.up, .string kp.rv, .slice f4 n4 q4, .slice f5 n5 q5, .slice f6 n6 q6, .slice f7 n7 q7, .slice f8 n8 q8, .slice f9 n9 q9, .slice f10 n10 q10, .slice f11 n11 q11, .slice fa fn fc] (by rfl) (by rfl) (there_new _ _ _ _ (by rfl)) (by kernel_rfl) (by simp [Value.oneCell']) ?_; rw [setCells_new _ _ _ _ (by rfl)]; rw [show wr.alloc (.cells _ _) = wt from Hwt.out.symm]))
    refine MAY.out.mono ?_
    rintro e0 w00 ⟨rfl, rfl⟩
    go_wp2_with fail
    go_ret
    exact ⟨_, rfl, by rw [HJ.out]; exact .no 6, hBt⟩
  have HJ1 : Hid (judgeC ks (i : Int) ws = if (metC ks kw ws).2 then (0, -1) else (7, (metC ks kw ws).1)) := by show _ = _; rw [HJ0.out, hmay]; rfl
  have hmay' : (nextE s 3 == 0) = true := by rw [hst]; exact hmay
  rw [hmay'] at MAY
  clear hmay hmay' hst hkp
  have CW : Hid (Calls Tryz.prog 25 #[.slice (some ⟨bp, op, none⟩) m cap, .func (.func 26) #[] #[]] wt (WorkR wt ks)) := offersK_calls _ _ _ (HK.out.below hBt (Nat.le_refl _)) (by rw [Hm.out]; exact hm20)
  go_enter Tryz.func10, Tryz.ntmps10
  go_wp2_with (first
    | (refine wpList_load_mid (by rfl) 61 _ (by rfl) bp (op + i * 20) (by rfl) _ _ HR.out Tryz.underlying61 (by rfl) (by kernel_rfl) ?_)
    | (refine wpList_store_mid (by rfl) 61 _ _ (by rfl) wr.heap.size 0 #[.int .i64 s, .int .i64 e, .string u, .string r, .bool hd, .slice fw nw qw, .slice ft nt qt, .string kp.name, .int .i64 kp.ep, .string kp.up, .string kp.rv, .slice f4 n4 q4, .slice f5 n5 q5, .slice f6 n6 q6, .slice f7 n7 q7, .slice f8 n8 q8, .slice f9 n9 q9, .slice f10 n10 q10, .slice f11 n11 q11, .slice fa fn fc] (by rfl) (by rfl) (there_new _ _ _ _ (by rfl)) (by kernel_rfl) (by simp [Value.oneCell']) ?_; rw [setCells_new _ _ _ _ (by rfl)]; rw [show wr.alloc (.cells _ _) = wt from Hwt.out.symm]))
  refine MAY.out.mono ?_
  rintro e0 w00 ⟨rfl, rfl⟩
  go_wp2_with fail
  refine CW.out.mono ?_
  rintro e0 w1 ⟨ov0, os0, rfl, hown0, hps0, hok0, hln0, hb0⟩
  have HP0 : Hid (os0.map OffD.bare = allB ks (ws.take 0)) := by
    show _ = _
    rw [hps0]
    unfold allB
    simp
  rw [Hm.out] at hln0
  have Hbt := Lib.hid hBt
  have HD : Hid (Lists wt (.slice f4 n4 q4) kw.pack.depends) := by
    have := HV.out.depends.below hBt (Nat.le_refl _)
    rw [Hkp.out] at this
    exact this
  have Hd11 : Hid (wt.cell? ⟨wr.heap.size, 11, none⟩ = some (.slice f4 n4 q4)) := HRn.out 11 _ rfl
  have HSk : Hid (SmallP kw.pack) := by
    have := HF.out.small _ Hmem.out
    rw [hkw] at this
    exact this
  clear hps0 MAY CW g0 hB hBt hlt HR HRn Hwt HV Hq Hmem hkw Hkp HJ0
  obtain ⟨wb, rfl⟩ : ∃ wb : World, wb = wt := ⟨_, rfl⟩
  obtain ⟨wo, rfl⟩ : ∃ wo : World, wo = wr := ⟨_, rfl⟩
  obtain ⟨iw, rfl⟩ : ∃ iw : Nat, iw = i := ⟨_, rfl⟩
  go_wp2_with fail
  go_loopg [8, 36] n (fun k v8 v36 wr => ∃ (i : Nat) (ov : Value) (os : List OffD), ov = v8 ∧ v36 = .int .i64 i ∧ i ≤ n ∧ k = n - i ∧ wr.ownsRow wb.heap.size 73 5 ov os.length (rowsOf os) ∧ os.map OffD.bare = allB ks (ws.take i) ∧ (∀ o ∈ os, Terms wb o.pv o.provides) ∧ os.length ≤ m + i ∧ Below wb.heap.size wb wr)
  case atStart => exact ⟨0, ov0, os0, rfl, rfl, Nat.zero_le _, rfl, hown0, HP0.out, hok0, by omega, hb0⟩
  case round =>
    clear hown0 hok0 hln0 hb0 HP0
    obtain ⟨i, ov, os, rfl, rfl, hi, hk, hown, hps, hok, hos, hB⟩ := hrel
    have Hk := Lib.hid hk
    have Hown := Lib.hid hown
    have Hps := Lib.hid hps
    have Hok := Lib.hid hok
    have Hos := Lib.hid hos
    have hBo := Hbt.out.trans (hB.mono Hbt.out.size)
    clear hk hown hps hok hos
    by_cases hlt : i < n
    · obtain ⟨bi, oi, rfl, hbi, hci⟩ := Hcelli.out.resolve_left (by omega)
      obtain ⟨x, hx⟩ : ∃ x, ws.getD i 0 = x := ⟨_, rfl⟩
      have ci : wr.cell? ⟨bi, oi + i, none⟩ = some (.int .i64 x) := (hBo.cell (p := ⟨bi, oi + i, none⟩) hbi).trans (by have := hci i 0 hlt (by decide); rw [hx] at this; simpa using this)
      have HX : Hid (i < ws.length) := by show i < ws.length; rw [Hn.out]; exact hlt
      clear hci
      by_cases h0 : 0 ≤ x
      case' neg =>
        have e0 : decide (0 ≤ x) = false := decide_eq_false h0
        have HPS : Hid (os.map OffD.bare = allB ks (ws.take (i + 1))) := by
          show _ = _
          rw [Hps.out, allB_no HX.out hx (by simp [h0])]
        have Hx := Lib.hid hx
        clear hx
        go_wp2_with fail
        go_roundg (n - (i + 1))
        case rel => exact ⟨i + 1, _, os, rfl, by go_num, by omega, rfl, Hown.out, HPS.out, Hok.out, by have := Hos.out; omega, hB⟩
        case measure => have := Hk.out; omega
      by_cases h1 : x < (m : Int)
      case' neg =>
        have e0 : decide (0 ≤ x) = true := decide_eq_true h0
        have e1 : decide (x < (m : Int)) = false := decide_eq_false h1
        have HPS : Hid (os.map OffD.bare = allB ks (ws.take (i + 1))) := by
          show _ = _
          rw [Hps.out, allB_no HX.out hx (by rw [Hm.out]; simp [h1])]
        have Hx := Lib.hid hx
        clear hx
        go_wp2_with fail
        go_roundg (n - (i + 1))
        case rel => exact ⟨i + 1, _, os, rfl, by go_num, by omega, rfl, Hown.out, HPS.out, Hok.out, by have := Hos.out; omega, hB⟩
        case measure => have := Hk.out; omega
      obtain ⟨j, rfl⟩ : ∃ j : Nat, x = (j : Int) := ⟨x.toNat, by omega⟩
      have hj : j < m := by omega
      have e0 : decide ((0 : Int) ≤ (j : Int)) = true := decide_eq_true h0
      have e1 : decide ((j : Int) < (m : Int)) = true := decide_eq_true h1
      obtain ⟨bp', op', hap, hbp, hcp⟩ := Hcell.out.resolve_left (by omega)
      obtain ⟨rfl, rfl⟩ : bp' = bp ∧ op' = op := by simpa using hap.symm
      obtain ⟨q, hq⟩ : ∃ q, ks.getD j KnownD.none = q := ⟨_, rfl⟩
      have hkn := HO.out j hj
      rw [hq] at hkn
      have HR0 : wr.rangeAt bp' (op' + j * 20) (row20 (R j)) := rangeAt_row20 fun j' hj' => (hBo.cell (p := ⟨bp', op' + j * 20 + j', none⟩) hbp).trans (hcp j j' hj hj')
      obtain ⟨s, e, u, r, hd, wl, tl, kp⟩ := q
      obtain ⟨fw, nw, qw, ft, nt, qt, f4, n4, q4, f5, n5, q5, f6, n6, q6, f7, n7, q7, f8, n8, q8, f9, n9, q9, f10, n10, q10, f11, n11, q11, fa, fn, fc, eR, hV, -, -⟩ := hkn.cells
      dsimp only at eR hV
      rw [eR] at HR0
      have HR7 := Lib.hid (rangeAt_at7 HR0)
      have HV := Lib.hid hV
      have Hq := Lib.hid hq
      have cs : wr.cell? ⟨bp', op' + j * 20, none⟩ = some (.int .i64 s) := HR0 0 _ rfl
      have HY : Hid ((decide ((0 : Int) ≤ (j : Int) ∧ (j : Int) < (ks.length : Int)) && mayK (ks.getD (j : Int).toNat KnownD.none)) = mayK ⟨s, e, u, r, hd, wl, tl, kp⟩) := by
        show _ = _
        rw [decide_eq_true ⟨h0, by rw [Hm.out]; exact h1⟩, Int.toNat_natCast, Hq.out]
        rfl
      have Hx := Lib.hid hx
      have MAY := Lib.hid (may_calls s 3 wr (HT.out.below hBo))
      clear HR0 eR hV hkn hcp hq h0 h1 hx
      cases hmay : mayK ⟨s, e, u, r, hd, wl, tl, kp⟩
      · have hmay' : (nextE s 3 == 0) = false := hmay
        rw [hmay'] at MAY
        have HPS : Hid (os.map OffD.bare = allB ks (ws.take (i + 1))) := by show _ = _; rw [Hps.out, allB_no HX.out Hx.out (HY.out.trans hmay)]
        clear hmay hmay'
        go_wp2_with fail
        refine MAY.out.mono ?_
        rintro e2 w00 ⟨rfl, rfl⟩
        go_wp2_with fail
        go_roundg (n - (i + 1))
        case rel => exact ⟨i + 1, _, os, rfl, by go_num, by omega, rfl, Hown.out, HPS.out, Hok.out, by have := Hos.out; omega, hB⟩
        case measure => have := Hk.out; omega
      · have hmay' : (nextE s 3 == 0) = true := hmay
        rw [hmay'] at MAY
        have HPS : Hid ((os ++ [(⟨kp.name, kp.ep, kp.up, kp.rv, .slice f9 n9 q9, kp.provides⟩ : OffD)]).map OffD.bare = allB ks (ws.take (i + 1))) := by
          show _ = _
          rw [allB_yes HX.out Hx.out (HY.out.trans hmay), List.map_append, Hps.out, Int.toNat_natCast, Hq.out]
          rfl
        have HOK : Hid (∀ o ∈ os ++ [(⟨kp.name, kp.ep, kp.up, kp.rv, .slice f9 n9 q9, kp.provides⟩ : OffD)], Terms wb o.pv o.provides) := by
          intro o ho
          rcases List.mem_append.1 ho with h | h
          · exact Hok.out o h
          · rw [List.mem_singleton.1 h]
            exact HV.out.provides.below Hbt.out (Nat.le_refl _)
        have hos2 : os.length ≤ m + i := Hos.out
        clear hmay hmay'
        go_wp2_with fail
        refine MAY.out.mono ?_
        rintro e2 w00 ⟨rfl, rfl⟩
        go_wp2_with (refine wpList_load_mid (by rfl) 30 _ (by rfl) bp' (op' + j * 20 + 7) (by rfl) _ _ HR7.out Tryz.underlying30 (by rfl) (by kernel_rfl) ?_)
        refine (offer_of_calls kp (.slice f4 n4 q4) (.slice f5 n5 q5) (.slice f6 n6 q6) (.slice f7 n7 q7) (.slice f8 n8 q8) (.slice f9 n9 q9) (.slice f10 n10 q10) (.slice f11 n11 q11) fa fn fc _ ⟨_, _, _, rfl⟩).mono ?_
        rintro e2 w1 ⟨rfl, hc1⟩
        have hB1 := hB.trans (hc1.mono hB.size)
        have Hown1 := Lib.hid (owns_below Hown.out hc1)
        have hsz2 : wb.heap.size ≤ w1.heap.size := hB1.size
        clear hc1 hB ci cs
        go_wp2_with (at_builtin; refine wpList_append_own _ rfl _ _ 70 rfl wb.heap.size 73 i0 _ 5 80 Tryz.underlying70 Hi0.out.1 Hi0.out.2.1 Hi0.out.2.2.1 Hi0.out.2.2.2 rfl (by decide) ov os.length (rowsOf os) rfl (Hown1.out.alloc _) ⟨w1.heap.size, 0, none⟩ 1 1 [.string kp.name, .int .i64 kp.ep, .string kp.up, .string kp.rv, .slice f9 n9 q9] rfl rfl (World.news_of_block (cs := #[.string kp.name, .int .i64 kp.ep, .string kp.up, .string kp.rv, .slice f9 n9 q9]) (t := 73) (fr := (0, 0)) (heap_alloc_new w1 _)) (by simp [Value.oneCell']) (by unfold maxLen; omega) (by omega) (by simp; omega) ?_)
        intro v' w' hown2 hgrow _
        have hB2 : Below wb.heap.size wb w' := (hB1.alloc hB1.size _).grown hgrow (by simp; have := hB1.size; omega) (fun k e => (Hown1.out.lt _ e).1)
        have Hown2 : Hid (w'.ownsRow wb.heap.size 73 5 v' (os ++ [(⟨kp.name, kp.ep, kp.up, kp.rv, .slice f9 n9 q9, kp.provides⟩ : OffD)]).length (rowsOf (os ++ [(⟨kp.name, kp.ep, kp.up, kp.rv, .slice f9 n9 q9, kp.provides⟩ : OffD)]))) := by
          show World.ownsRow _ _ _ _ _ _ _
          rw [rowsOf_snoc, List.length_append]
          exact hown2
        clear hown2 hgrow
        go_wp2_with fail
        go_roundg (n - (i + 1))
        case rel => exact ⟨i + 1, _, _, rfl, by go_num, by omega, rfl, Hown2.out, HPS.out, HOK.out, by simp; omega, hB2⟩
        case measure => have := Hk.out; omega
    · obtain rfl : n = i := by omega
      have HPS : Hid (os.map OffD.bare = allB ks ws) := by
        have := Hps.out
        rwa [List.take_of_length_le (by rw [Hn.out]; exact Nat.le_refl _)] at this
      have HOs : Hid (Offs wr ov os) := offs_owned Hown.out
      have HOk : Hid (∀ o ∈ os, OffOk wr o) := by
        intro o ho
        refine small_of_bare HF.out ((Hok.out o ho).below hB (Nat.le_refl _)) (allB_mem (ws := ws) ?_)
        rw [← HPS.out]
        exact List.mem_map_of_mem ho
      have HM : Hid (metR (oneO os) kw.pack.depends = metC ks kw ws) := by
        show _ = _
        unfold metC
        rw [oneO_K, HPS.out]
      have c11 : wr.cell? ⟨wo.heap.size, 11, none⟩ = some (.slice f4 n4 q4) := (hB.cell (p := ⟨wo.heap.size, 11, none⟩) hlt2).trans Hd11.out
      clear Hown Hps Hok Hos Hk
      go_wp2_with fail
      refine (met_calls _ _ kw.pack.depends _ _ (HD.out.below hB (Nat.le_refl _)) HOs.out HOk.out HSk.out.depends).mono ?_
      rintro e2 w2 ⟨rfl, hb2⟩
      have hB2 := hBo.trans (hb2.mono hBo.size)
      rw [HM.out]
      clear hb2 c11 hB hBo
      cases hok : (metC ks kw ws).2
      · have HJ : Hid (judgeC ks (iw : Int) ws = (7, (metC ks kw ws).1)) := by show _ = _; rw [HJ1.out, hok]; rfl
        go_wp2_with fail
        go_ret
        refine ⟨_, rfl, ?_, ?_⟩
        · rw [HJ.out]
          exact .at _ 0 _ _ (by simp [go_sem]) (by simp [go_sem]) (by simp)
        · exact hB2.alloc hB2.size _
      · have HJ : Hid (judgeC ks (iw : Int) ws = (0, -1)) := by show _ = _; rw [HJ1.out, hok]; rfl
        go_wp2_with fail
        go_ret
        exact ⟨_, rfl, by rw [HJ.out]; exact .nil, hB2⟩
end Go.Proofs.YtnfnebfioibndaaGreatDoor
