/- stevedoreref.CheckLine: in which order those that are about to may do what they are there for. -/
import Derived.Test.YtnfnebfioibndaaGreatDoorM29
import Derived.Test.YtnfnebfioibndaaGreatDoorM33
namespace Go.Proofs.YtnfnebfioibndaaGreatDoor
open Go.RowKit
set_option maxRecDepth 100000
set_option maxHeartbeats 4000000

theorem edgeRows_ifR (L : List EdgeD) (a b : Nat) : edgeRows (L ++ edgeIf true a b) = edgeRows L ++ [.int .i64 ((a : Nat) : Int), .int .i64 ((b : Nat) : Int)] := edgeRows_snoc L _
/-- Two lists of edges of the call's own, that grow in turn. -/
structure Two (base : Nat) (w : World) (v1 v2 : Value) (L1 L2 : List EdgeD) : Prop where
  own1 : w.ownsRow base 107 2 v1 L1.length (edgeRows L1)
  own2 : w.ownsRow base 107 2 v2 L2.length (edgeRows L2)
  apart : ∀ k, v1.ownBlock = some k → v2.ownBlock ≠ some k
theorem Two.swap {base : Nat} {w : World} {v1 v2 : Value} {L1 L2 : List EdgeD} (h : Two base w v1 v2 L1 L2) : Two base w v2 v1 L2 L1 := ⟨h.own2, h.own1, fun k h1 h2 => h.apart k h2 h1⟩
theorem Two.nil (base : Nat) (w : World) : Two base w (.slice none 0 0) (.slice none 0 0) [] [] := ⟨World.ownsRow_nil _ _ _ _, World.ownsRow_nil _ _ _ _, fun k h => by cases h⟩
theorem Two.below {base : Nat} {w w' : World} {v1 v2 : Value} {L1 L2 : List EdgeD} (h : Two base w v1 v2 L1 L2) (hb : Below w.heap.size w w') : Two base w' v1 v2 L1 L2 := ⟨owns_below h.own1 hb, owns_below h.own2 hb, h.apart⟩
theorem Two.push {base : Nat} {w w1 w' : World} {v1 v2 v' : Value} {L1 L2 L1' : List EdgeD} (h : Two base w v1 v2 L1 L2) (hb : Below w.heap.size w w1) (hown : w'.ownsRow base 107 2 v' L1'.length (edgeRows L1')) (hg : w1.grownBy w' v1.ownBlock) (h5 : v'.ownBlock = v1.ownBlock ∨ v'.ownBlock = some w1.heap.size) : Two base w' v' v2 L1' L2 := by
  refine ⟨hown, (owns_below h.own2 hb).kept hg ?_, fun k h1 h2 => ?_⟩
  · cases e : v2.ownBlock with
    | none => exact Or.inl rfl
    | some k => exact Or.inr fun e' => h.apart k e'.symm e
  · rcases h5 with h5 | h5
    · exact h.apart k (h5.symm.trans h1) h2
    · rw [h5] at h1
      injection h1 with h1
      have := (h.own2.lt k h2).2
      have := hb.size
      omega

theorem checkLineRef_calls (kv : Value) (ks : List KnownD) (w : World) (hK : Knowns w kv ks) (hF : FitK ks) (h40 : FortyK ks) (hT : TabR w) (hN : FineR w) :
    Calls Tryz.prog 16 #[kv] w (CheckLineR w ks) := by
  have HK00 := Lib.hid hK
  obtain ⟨R, ⟨ka, cap, rfl, hcap, hmax, hcell⟩, hO⟩ := hK
  unfold maxLen at hmax
  obtain ⟨m, hm⟩ : ∃ m, ks.length = m := ⟨_, rfl⟩
  have hm20 := hF.len
  rw [hm] at hcap hcell hO hm20 ⊢
  have HK : Hid (Knowns w (.slice ka m cap) ks) := by have := HK00; rwa [hm] at this
  obtain ⟨i1, hi1, hy0, hy1, hy2⟩ := info_parts info_int
  have Hi1 := Lib.hid (And.intro hi1 (And.intro hy0 (And.intro hy1 hy2)))
  obtain ⟨i0, hi0, hz0, hz1, hz2⟩ := info_parts info_edgeR
  have Hi0 := Lib.hid (And.intro hi0 (And.intro hz0 (And.intro hz1 hz2)))
  have Hcell := Lib.hid hcell
  have HO := Lib.hid hO
  have HT := Lib.hid hT
  have HN := Lib.hid hN
  have HF := Lib.hid hF
  have H40 := Lib.hid h40
  have Hm := Lib.hid hm
  clear hcell hO hm hi1 hy0 hy1 hy2 hi0 hz0 hz1 hz2 hF HK00 hT h40 hN
  go_enter Tryz.func16, Tryz.ntmps16
  go_wp2_with fail
  go_loopg [3, 23] m (fun k v3 v23 wr => ∃ (i : Nat) (ov : Value), ov = v3 ∧ v23 = .int .i64 i ∧ i ≤ m ∧ k = m - i ∧ wr.ownsRow w.heap.size 3 1 ov (castN (whichK ks i)).length ((castN (whichK ks i)).map (Value.int .i64)) ∧ Below w.heap.size w wr)
  case atStart => exact ⟨0, _, rfl, rfl, Nat.zero_le _, rfl, World.ownsRow_nil _ _ _ _, Below.refl _ _⟩
  case round =>
    obtain ⟨i, ov, rfl, rfl, hi, hk, hown, hB⟩ := hrel
    have Hk := Lib.hid hk
    have Hown := Lib.hid hown
    clear hk hown
    by_cases hlt : i < m
    · obtain ⟨bp, op, rfl, hbp, hcp⟩ := Hcell.out.resolve_left (by omega)
      obtain ⟨q, hq⟩ : ∃ q, ks.getD i KnownD.none = q := ⟨_, rfl⟩
      have hkn := HO.out i hlt
      rw [hq] at hkn
      have HR0 : wr.rangeAt bp (op + i * 20) (row20 (R i)) := rangeAt_row20 fun j hj => (hB.cell (p := ⟨bp, op + i * 20 + j, none⟩) hbp).trans (hcp i j hlt hj)
      obtain ⟨s, e, u, r, hd, wl, tl, kp⟩ := q
      obtain ⟨fw, nw, qw, ft, nt, qt, f4, n4, q4, f5, n5, q5, f6, n6, q6, f7, n7, q7, f8, n8, q8, f9, n9, q9, f10, n10, q10, f11, n11, q11, fa, fn, fc, eR, hV, -, -⟩ := hkn.cells
      dsimp only at eR hV
      rw [eR] at HR0
      have HR := Lib.hid HR0
      have Hq := Lib.hid hq
      obtain ⟨wt, hwt⟩ : ∃ wt : World, wt = wr.alloc (.cells #[.int .i64 s, .int .i64 e, .string u, .string r, .bool hd, .slice fw nw qw, .slice ft nt qt, .string kp.name, .int .i64 kp.ep, .string kp.up, .string kp.rv, .slice f4 n4 q4, .slice f5 n5 q5, .slice f6 n6 q6, .slice f7 n7 q7, .slice f8 n8 q8, .slice f9 n9 q9, .slice f10 n10 q10, .slice f11 n11 q11, .slice fa fn fc] 56) := ⟨_, rfl⟩
      have hbt : Below wr.heap.size wr wt := by rw [hwt]; exact (Below.refl _ _).alloc (Nat.le_refl _) _
      have hRn : wt.rangeAt wr.heap.size 0 [.int .i64 s, .int .i64 e, .string u, .string r, .bool hd, .slice fw nw qw, .slice ft nt qt, .string kp.name, .int .i64 kp.ep, .string kp.up, .string kp.rv, .slice f4 n4 q4, .slice f5 n5 q5, .slice f6 n6 q6, .slice f7 n7 q7, .slice f8 n8 q8, .slice f9 n9 q9, .slice f10 n10 q10, .slice f11 n11 q11, .slice fa fn fc] := by rw [hwt]; exact rangeAt_new _ _ _
      have g0 : wt.cell? ⟨wr.heap.size, 0, none⟩ = some (.int .i64 s) := hRn 0 _ rfl
      have hlt2 : wr.heap.size < wt.heap.size := by rw [hwt]; simp
      have hszr := hB.size
      have hBt := hB.trans (hbt.mono hB.size)
      have Hwt := Lib.hid hwt
      have Hownt := Lib.hid (owns_below Hown.out hbt)
      have MAY := Lib.hid (refMay_calls s 3 wt (HT.out.below hBt))
      clear HR0 eR hV hkn hcp hq hwt hbt hRn
      cases hmk : mayK ⟨s, e, u, r, hd, wl, tl, kp⟩
      · have HWN : Hid (whichK ks (i + 1) = whichK ks i) := whichK_no (by rw [Hq.out]; exact hmk)
        have hmk' : (nextE s 3 == 0) = false := hmk
        rw [hmk'] at MAY
        clear hmk hmk'
        go_wp2_with (first
          | (refine wpList_load_mid (by rfl) 56 _ (by rfl) bp (op + i * 20) (by rfl) _ _ HR.out Tryz.underlying56 (by rfl) (by kernel_rfl) ?_)
          | (refine wpList_store_mid (by rfl) 56 _ _ (by rfl) wr.heap.size 0 #[.int .i64 s, .int .i64 e, .string u, .string r, .bool hd, .slice fw nw qw, .slice ft nt qt, .string kp.name, .int .i64 kp.ep, .string kp.up, .string kp.rv, .slice f4 n4 q4, .slice f5 n5 q5, .slice f6 n6 q6, .slice f7 n7 q7, .slice f8 n8 q8, .slice f9 n9 q9, .slice f10 n10 q10, .slice f11 n11 q11, .slice fa fn fc] (by rfl) (by rfl) (there_new _ _ _ _ (by rfl)) (by kernel_rfl) (by simp [Value.oneCell']) ?_; rw [setCells_new _ _ _ _ (by rfl)]; rw [show wr.alloc (.cells _ _) = wt from Hwt.out.symm]))
        refine MAY.out.mono ?_
        rintro e1 w1 ⟨rfl, rfl⟩
        rw [← HWN.out] at Hownt
        clear g0 MAY
        go_wp2_with fail
        go_roundg (m - (i + 1))
        case rel => exact ⟨i + 1, _, rfl, by go_num, by omega, rfl, Hownt.out, hBt⟩
        case measure => have := Hk.out; omega
      · have HWN : Hid (whichK ks (i + 1) = whichK ks i ++ [i]) := whichK_yes (by rw [Hq.out]; exact hmk)
        have hmk' : (nextE s 3 == 0) = true := hmk
        rw [hmk'] at MAY
        have hgn20 : (castN (whichK ks i)).length ≤ 20 := by
          have := whichK_len ks i
          rw [castN_len]
          omega
        obtain ⟨Z, hZ⟩ : ∃ Z, castN (whichK ks i) = Z := ⟨_, rfl⟩
        rw [hZ] at hgn20 Hownt
        have HZ := Lib.hid hZ
        clear hmk hmk' hZ
        go_wp2_with (first
          | (refine wpList_load_mid (by rfl) 56 _ (by rfl) bp (op + i * 20) (by rfl) _ _ HR.out Tryz.underlying56 (by rfl) (by kernel_rfl) ?_)
          | (refine wpList_store_mid (by rfl) 56 _ _ (by rfl) wr.heap.size 0 #[.int .i64 s, .int .i64 e, .string u, .string r, .bool hd, .slice fw nw qw, .slice ft nt qt, .string kp.name, .int .i64 kp.ep, .string kp.up, .string kp.rv, .slice f4 n4 q4, .slice f5 n5 q5, .slice f6 n6 q6, .slice f7 n7 q7, .slice f8 n8 q8, .slice f9 n9 q9, .slice f10 n10 q10, .slice f11 n11 q11, .slice fa fn fc] (by rfl) (by rfl) (there_new _ _ _ _ (by rfl)) (by kernel_rfl) (by simp [Value.oneCell']) ?_; rw [setCells_new _ _ _ _ (by rfl)]; rw [show wr.alloc (.cells _ _) = wt from Hwt.out.symm]))
        refine MAY.out.mono ?_
        rintro e1 w1 ⟨rfl, rfl⟩
        clear g0 MAY
        have hszt := hBt.size
        obtain ⟨wt2, rfl⟩ : ∃ wt2 : World, wt2 = wt := ⟨_, rfl⟩
        go_wp2_with (at_builtin; refine wpList_append_own _ rfl _ _ 31 rfl w.heap.size 3 i1 _ 1 8 Tryz.underlying31 Hi1.out.1 Hi1.out.2.1 Hi1.out.2.2.1 Hi1.out.2.2.2 rfl (by decide) ov Z.length (Z.map (Value.int .i64)) rfl (Hownt.out.alloc _) ⟨wt2.heap.size, 0, none⟩ 1 1 [.int .i64 ((i : Nat) : Int)] rfl rfl (World.news_of_block (cs := #[.int .i64 ((i : Nat) : Int)]) (t := 3) (fr := (0, 0)) (heap_alloc_new wt2 _)) (by simp [Value.oneCell']) (by unfold maxLen; omega) (by omega) (by simp; omega) ?_)
        intro v' w' hown6 hgrow _
        have hB2 : Below w.heap.size w w' := (hBt.alloc hBt.size _).grown hgrow (by simp; omega) (fun k e => (Hownt.out.lt _ e).1)
        have Hown6 : Hid (w'.ownsRow w.heap.size 3 1 v' (castN (whichK ks (i + 1))).length ((castN (whichK ks (i + 1))).map (Value.int .i64))) := by
          show World.ownsRow _ _ _ _ _ _ _
          rw [HWN.out, castN_snoc, HZ.out, castN_rows, List.length_append]
          exact hown6
        clear hown6 hgrow
        go_wp2_with fail
        go_roundg (m - (i + 1))
        case rel => exact ⟨i + 1, _, rfl, by go_num, by omega, rfl, Hown6.out, hB2⟩
        case measure => have := Hk.out; omega
    · obtain rfl : m = i := by omega
      obtain ⟨wq, rfl⟩ : ∃ wq : World, wq = wr := ⟨_, rfl⟩
      obtain ⟨W, hWW⟩ : ∃ W, whichK ks m = W := ⟨_, rfl⟩
      have hIW := ints_owned Hown.out
      rw [hWW] at hIW
      obtain ⟨wa, n0, wc, rfl⟩ := hIW.1.slice
      obtain ⟨n, hn⟩ : ∃ n, W.length = n := ⟨_, rfl⟩
      obtain rfl : n = n0 := by
        obtain ⟨a', c', e', -⟩ := hIW.1
        injection e' with _ e' _
        rw [castN_len, hn] at e'
        exact e'.symm
      have HWr := Lib.hid (row_of_ints hIW)
      have HWlt : Hid (∀ x ∈ W, x < ks.length) := fun x hx => by rw [← hWW] at hx; rw [Hm.out]; exact whichK_lt hx
      have hnm : n ≤ m := by
        have := whichK_len ks m
        rw [hWW, hn] at this
        exact this
      have HW20 : Hid (W.length ≤ 20) := by show W.length ≤ 20; omega
      obtain ⟨hwn, hwc, hwm, hwcell⟩ := row_at HWr.out
      have Hwcell := Lib.hid hwcell
      have Hn := Lib.hid hn
      have HWW := Lib.hid hWW
      have HBq := Lib.hid hB
      have hsq := hB.size
      clear hIW hWW hn hB Hk Hown hwn hwcell
      go_wp2_with fail
      go_loopg [6, 7, 39] n (fun k v6 v7 v39 wr => ∃ (a : Nat) (x6 x7 : Value), x6 = v6 ∧ x7 = v7 ∧ v39 = .int .i64 a ∧ a ≤ n ∧ k = n - a ∧ Two wq.heap.size wr x6 x7 (edgesR ks W (fun k => k.pack.depends) a) (edgesR ks W (fun k => k.pack.ahead) a) ∧ Below wq.heap.size wq wr)
      case atStart => exact ⟨0, _, _, rfl, rfl, rfl, Nat.zero_le _, rfl, Two.nil _ _, Below.refl _ _⟩
      case round =>
        obtain ⟨a, x6, x7, rfl, rfl, rfl, ha, hk, hTw, hB⟩ := hrel
        have Hk := Lib.hid hk
        have HTw := Lib.hid hTw
        clear hk hTw
        by_cases hlt : a < n
        · obtain ⟨bp, op, rfl, hbp, hcp⟩ := Hcell.out.resolve_left (by omega)
          obtain ⟨b1, o1, rfl, hb1, hc1⟩ := Hwcell.out.resolve_left (by omega)
          have Hcp := Lib.hid hcp
          have Hc1 := Lib.hid hc1
          obtain ⟨x, hx⟩ : ∃ x, W.getD a 0 = x := ⟨_, rfl⟩
          have hxm : x < m := by have := HWlt.out _ (mem_getD_nat (l := W) (i := a) (by rw [Hn.out]; exact hlt)); rw [hx, Hm.out] at this; exact this
          have c1 : wr.cell? ⟨b1, o1 + a, none⟩ = some (.int .i64 ((x : Nat) : Int)) := (hB.cell (p := ⟨b1, o1 + a, none⟩) hb1).trans (by rw [hc1 a hlt, hx])
          obtain ⟨q, hq⟩ : ∃ q, ks.getD x KnownD.none = q := ⟨_, rfl⟩
          have hkn := HO.out x hxm
          have hmem : ks.getD x KnownD.none ∈ ks := mem_getD _ (by rw [Hm.out]; exact hxm)
          rw [hq] at hkn hmem
          have hsm := HF.out.small _ hmem
          have HR0 : w.rangeAt bp (op + x * 20) (row20 (R x)) := rangeAt_row20 fun j hj => hcp x j hxm hj
          have hat : atW ks W a = q := by unfold atW; rw [hx, hq]
          obtain ⟨s, e, u, r, hd, wl, tl, kp⟩ := q
          obtain ⟨fw, nw, qw, ft, nt, qt, f4, n4, q4, f5, n5, q5, f6, n6, q6, f7, n7, q7, f8, n8, q8, f9, n9, q9, f10, n10, q10, f11, n11, q11, fa, fn, fc, eR, hV, -, -⟩ := hkn.cells
          dsimp only at eR hV hsm
          rw [eR] at HR0
          have HR7 := Lib.hid (rangeAt_at7 HR0)
          have HV := Lib.hid hV
          have Hsm := Lib.hid hsm
          have HHit : Hid (∀ z, hitK (atW ks W a) z = z.any fun t => packB t kp) := fun z => by unfold hitK; rw [hat]; rfl
          have hLl : (edgesR ks W (fun k => k.pack.depends) a).length ≤ 16000 := edgesR_len HW20.out (H40.out.dep' W) (by rw [Hn.out]; exact ha)
          have hMl : (edgesR ks W (fun k => k.pack.ahead) a).length ≤ 16000 := edgesR_len HW20.out (H40.out.ah' W) (by rw [Hn.out]; exact ha)
          have hE1 : edgesR ks W (fun k => k.pack.depends) (a + 1) = edgesR ks W (fun k => k.pack.depends) a ++ rowR ks W (fun k => k.pack.depends) a n := by unfold edgesR; rw [fm_succ, Hn.out]
          have hE2 : edgesR ks W (fun k => k.pack.ahead) (a + 1) = edgesR ks W (fun k => k.pack.ahead) a ++ rowR ks W (fun k => k.pack.ahead) a n := by unfold edgesR; rw [fm_succ, Hn.out]
          obtain ⟨L, hL⟩ : ∃ L, edgesR ks W (fun k => k.pack.depends) a = L := ⟨_, rfl⟩
          obtain ⟨M, hM⟩ : ∃ M, edgesR ks W (fun k => k.pack.ahead) a = M := ⟨_, rfl⟩
          rw [hL] at HTw hLl hE1
          rw [hM] at HTw hMl hE2
          have HE1 := Lib.hid hE1
          have HE2 := Lib.hid hE2
          have hB0 := hB
          clear hcp hc1 hx hq hkn hmem hsm HR0 hat eR hV hE1 hE2 hL hM hB
          go_wp2_with fail
          clear c1
          go_loopg [6, 7, 46] n (fun k v6 v7 v46 wr => ∃ (b : Nat) (x6 x7 : Value), x6 = v6 ∧ x7 = v7 ∧ v46 = .int .i64 b ∧ b ≤ n ∧ k = n - b ∧ Two wq.heap.size wr x6 x7 (L ++ rowR ks W (fun k => k.pack.depends) a b) (M ++ rowR ks W (fun k => k.pack.ahead) a b) ∧ Below wq.heap.size wq wr)
          case atStart => exact ⟨0, _, _, rfl, rfl, rfl, Nat.zero_le _, rfl, by have := HTw.out; rw [show rowR ks W (fun k => k.pack.depends) a 0 = [] from rfl, show rowR ks W (fun k => k.pack.ahead) a 0 = [] from rfl, List.append_nil, List.append_nil]; exact this, hB0⟩
          case round =>
            clear hB0 HTw
            obtain ⟨b, x6, x7, rfl, rfl, rfl, hb, hk, hTw, hB⟩ := hrel
            have Hk2 := Lib.hid hk
            have HTw := Lib.hid hTw
            clear hk hTw
            by_cases hbl : b < n
            · obtain ⟨y, hy⟩ : ∃ y, W.getD b 0 = y := ⟨_, rfl⟩
              have hym : y < m := by have := HWlt.out _ (mem_getD_nat (l := W) (i := b) (by rw [Hn.out]; exact hbl)); rw [hy, Hm.out] at this; exact this
              have c2 : wr.cell? ⟨b1, o1 + b, none⟩ = some (.int .i64 ((y : Nat) : Int)) := (hB.cell (p := ⟨b1, o1 + b, none⟩) hb1).trans (by rw [Hc1.out b hbl, hy])
              obtain ⟨q, hq⟩ : ∃ q, ks.getD y KnownD.none = q := ⟨_, rfl⟩
              have hkn := HO.out y hym
              have hmem : ks.getD y KnownD.none ∈ ks := mem_getD _ (by rw [Hm.out]; exact hym)
              rw [hq] at hkn hmem
              have hsm := HF.out.small _ hmem
              have HR0 : w.rangeAt bp (op + y * 20) (row20 (R y)) := rangeAt_row20 fun j hj => Hcp.out y j hym hj
              have hat : atW ks W b = q := by unfold atW; rw [hy, hq]
              have hq4 := H40.out.dep' W b
              have hq5 := H40.out.ah' W b
              rw [hat] at hq4 hq5
              obtain ⟨s2, e2, u2, r2, hd2, wl2, tl2, kq⟩ := q
              obtain ⟨_, _, _, _, _, _, y4a, y4n, y4c, y5a, y5n, y5c, _, _, _, _, _, _, _, _, _, _, _, _, _, _, _, _, _, _, _, _, _, eR, hV, -, -⟩ := hkn.cells
              dsimp only at eR hV hsm hq4 hq5
              rw [eR] at HR0
              have HRy := Lib.hid HR0
              obtain ⟨xs, hxs⟩ : ∃ xs, kq.depends = xs := ⟨_, rfl⟩
              obtain ⟨ys, hys⟩ : ∃ ys, kq.ahead = ys := ⟨_, rfl⟩
              have hsx := hsm.depends
              have hsy := hsm.ahead
              have hLx := hV.depends
              have hLy := hV.ahead
              have hR1 : rowR ks W (fun k => k.pack.depends) a (b + 1) = rowR ks W (fun k => k.pack.depends) a b ++ colR ks W a b xs xs.length := by
                unfold rowR
                rw [fm_succ, hat]
                dsimp only
                rw [hxs]
              have hR2 : rowR ks W (fun k => k.pack.ahead) a (b + 1) = rowR ks W (fun k => k.pack.ahead) a b ++ colR ks W a b ys ys.length := by
                unfold rowR
                rw [fm_succ, hat]
                dsimp only
                rw [hys]
              rw [hxs] at hsx hLx hq4
              rw [hys] at hsy hLy hq5
              obtain ⟨V, hxn, hxc, hxmx, hxcell, hxT⟩ := lists_at hLx
              obtain ⟨U, hyn, hyc, hymx, hycell, hyT⟩ := lists_at hLy
              have hRl : (rowR ks W (fun k => k.pack.depends) a b).length ≤ 20 * 40 := by
                have h1 : ∀ a b xs j, (colR ks W a b xs j).length ≤ j * 1 := fun a b xs j => fm_len _ _ 1 fun a _ => edgeIf_len _ _ _
                have h2 : (rowR ks W (fun k => k.pack.depends) a b).length ≤ b * (40 * 1) := fm_len _ _ _ fun j _ => Nat.le_trans (h1 _ _ _ _) (Nat.mul_le_mul (H40.out.dep' W j) (Nat.le_refl _))
                have h3 : b * (40 * 1) ≤ 20 * 40 := Nat.mul_le_mul (by omega) (by decide)
                omega
              have hRl2 : (rowR ks W (fun k => k.pack.ahead) a b).length ≤ 20 * 40 := by
                have h1 : ∀ a b xs j, (colR ks W a b xs j).length ≤ j * 1 := fun a b xs j => fm_len _ _ 1 fun a _ => edgeIf_len _ _ _
                have h2 : (rowR ks W (fun k => k.pack.ahead) a b).length ≤ b * (40 * 1) := fm_len _ _ _ fun j _ => Nat.le_trans (h1 _ _ _ _) (Nat.mul_le_mul (H40.out.ah' W j) (Nat.le_refl _))
                have h3 : b * (40 * 1) ≤ 20 * 40 := Nat.mul_le_mul (by omega) (by decide)
                omega
              have hNl : (L ++ rowR ks W (fun k => k.pack.depends) a b).length ≤ 16800 := by rw [List.length_append]; omega
              have hPl : (M ++ rowR ks W (fun k => k.pack.ahead) a b).length ≤ 16800 := by rw [List.length_append]; omega
              obtain ⟨N, hN⟩ : ∃ N, L ++ rowR ks W (fun k => k.pack.depends) a b = N := ⟨_, rfl⟩
              obtain ⟨P, hP⟩ : ∃ P, M ++ rowR ks W (fun k => k.pack.ahead) a b = P := ⟨_, rfl⟩
              have HN1 : Hid (L ++ rowR ks W (fun k => k.pack.depends) a (b + 1) = N ++ colR ks W a b xs xs.length) := by show _ = _; rw [hR1, ← List.append_assoc, hN]
              have HP1 : Hid (M ++ rowR ks W (fun k => k.pack.ahead) a (b + 1) = P ++ colR ks W a b ys ys.length) := by show _ = _; rw [hR2, ← List.append_assoc, hP]
              rw [hN] at HTw hNl
              rw [hP] at HTw hPl
              have Hsx := Lib.hid hsx
              have Hsy := Lib.hid hsy
              have Hxn := Lib.hid hxn
              have Hyn := Lib.hid hyn
              have Hxcell := Lib.hid hxcell
              have Hycell := Lib.hid hycell
              have HxT := Lib.hid hxT
              have HyT := Lib.hid hyT
              have hx40 : y4n ≤ 40 := by omega
              have hy40 : y5n ≤ 40 := by omega
              have hBwr : Below w.heap.size w wr := HBq.out.trans (hB.mono HBq.out.size)
              have cd : wr.cell? ⟨bp, op + y * 20 + 11, none⟩ = some (.slice y4a y4n y4c) := rangeAt_below HRy.out hBwr hbp 11 _ rfl
              have hB0 := hB
              clear hy hq hkn hmem hsm HR0 hat eR hV hxs hys hsx hsy hLx hLy hR1 hR2 hxn hyn hxcell hycell hxT hyT hRl hRl2 hN hP hq4 hq5 hB hBwr
              obtain ⟨wp, rfl⟩ : ∃ wp : World, wp = wr := ⟨_, rfl⟩
              go_wp2_with fail
              clear c2 cd
              go_loopg [6, 58] y4n (fun k v6 v58 wr => ∃ (j : Nat) (z6 : Value), z6 = v6 ∧ v58 = .int .i64 j ∧ j ≤ y4n ∧ k = y4n - j ∧ Two wq.heap.size wr z6 x7 (N ++ colR ks W a b xs j) P ∧ Below wq.heap.size wq wr)
              case atStart => exact ⟨0, _, rfl, rfl, Nat.zero_le _, rfl, by have := HTw.out; rw [show colR ks W a b xs 0 = [] from rfl, List.append_nil]; exact this, hB0⟩
              case round =>
                clear hB0
                obtain ⟨j, z6, rfl, rfl, hj, hk, hTz, hB⟩ := hrel
                have Hk3 := Lib.hid hk
                have HTz := Lib.hid hTz
                clear hk hTz
                by_cases hjl : j < y4n
                · obtain ⟨b2, o2, rfl, hb2, hc2⟩ := Hxcell.out.resolve_left (by omega)
                  have hBwr : Below w.heap.size w wr := HBq.out.trans (hB.mono HBq.out.size)
                  have c3 : wr.cell? ⟨b2, o2 + j, none⟩ = some (V j) := (hBwr.cell (p := ⟨b2, o2 + j, none⟩) hb2).trans (hc2 j hjl)
                  obtain ⟨z, hz⟩ : ∃ z, xs.getD j [] = z := ⟨_, rfl⟩
                  have hT := HxT.out j hjl
                  have hzz : z ∈ xs := by rw [← hz]; exact mem_getD _ (by rw [Hxn.out]; exact hjl)
                  rw [hz] at hT
                  have HSz := Lib.hid (Hsx.out z hzz)
                  obtain ⟨av1, nv1, cv1, hVj⟩ := hT.1.slice
                  rw [hVj] at c3
                  have HTy : Hid (Terms w (.slice av1 nv1 cv1) z) := by have := hT; rwa [hVj] at this
                  have hC1 : colR ks W a b xs (j + 1) = colR ks W a b xs j ++ edgeIf (hitK (atW ks W a) z) a b := by
                    unfold colR
                    rw [fm_succ, hz]
                  rw [HHit.out] at hC1
                  have hCl : (N ++ colR ks W a b xs j).length ≤ 16840 := by
                    have h2 : (colR ks W a b xs j).length ≤ j * 1 := fm_len _ _ _ fun a _ => edgeIf_len _ _ _
                    rw [List.length_append]
                    omega
                  obtain ⟨Q, hQ⟩ : ∃ Q, N ++ colR ks W a b xs j = Q := ⟨_, rfl⟩
                  obtain ⟨h0, hh0⟩ : ∃ h0, (z.any fun t => packB t kp) = h0 := ⟨_, rfl⟩
                  rw [hh0] at hC1
                  have HC1 : Hid (N ++ colR ks W a b xs (j + 1) = Q ++ edgeIf h0 a b) := by show _ = _; rw [hC1, ← List.append_assoc, hQ]
                  rw [hQ] at HTz hCl
                  have HRx : Hid (wr.rangeAt bp (op + x * 20 + 7) [.string kp.name, .int .i64 kp.ep, .string kp.up, .string kp.rv, .slice f4 n4 q4, .slice f5 n5 q5, .slice f6 n6 q6, .slice f7 n7 q7, .slice f8 n8 q8, .slice f9 n9 q9, .slice f10 n10 q10, .slice f11 n11 q11, .slice fa fn fc]) := rangeAt_below HR7.out hBwr hbp
                  have CO1 := Lib.hid (one_calls kp (.slice f4 n4 q4) (.slice f5 n5 q5) (.slice f6 n6 q6) (.slice f7 n7 q7) (.slice f8 n8 q8) (.slice f9 n9 q9) (.slice f10 n10 q10) (.slice f11 n11 q11) fa fn fc (.slice av1 nv1 cv1) z wr (HV.out.provides.below hBwr (Nat.le_refl _)) (HTy.out.below hBwr (Nat.le_refl _)) HSz.out Hsm.out.sm Hsm.out.provides)
                  rw [hh0] at CO1
                  have hszr := hB.size
                  clear hc2 hz hT hzz hVj hC1 hQ hh0
                  go_wp2_with (refine wpList_load_mid (by rfl) 30 _ (by rfl) bp (op + x * 20 + 7) (by rfl) _ _ HRx.out Tryz.underlying30 (by rfl) (by kernel_rfl) ?_)
                  refine CO1.out.mono ?_
                  rintro e3 w3 ⟨rfl, hb3⟩
                  have hB3 := hB.trans (hb3.mono hB.size)
                  have HT3 := Lib.hid (HTz.out.below hb3)
                  have hsz3 : wq.heap.size ≤ w3.heap.size := hB3.size
                  clear hb3 c3 CO1 HRx hBwr
                  cases h0
                  · have HT4 : Hid (Two wq.heap.size w3 z6 x7 (N ++ colR ks W a b xs (j + 1)) P) := by
                      show Two _ _ _ _ _ _
                      rw [HC1.out]
                      have := HT3.out
                      rwa [show Q ++ edgeIf false a b = Q from List.append_nil Q]
                    go_wp2_with fail
                    go_roundg (y4n - (j + 1))
                    case rel => exact ⟨j + 1, _, rfl, by go_num, by omega, rfl, HT4.out, hB3⟩
                    case measure => have := Hk3.out; omega
                  · go_wp2_with (at_builtin; refine wpList_append_own_at _ rfl _ _ 106 rfl wq.heap.size 107 i0 _ 2 16 Tryz.underlying106 Hi0.out.1 Hi0.out.2.1 Hi0.out.2.2.1 Hi0.out.2.2.2 rfl (by decide) z6 Q.length (edgeRows Q) rfl (HT3.out.own1.alloc _) ⟨w3.heap.size, 0, none⟩ 1 1 [.int .i64 ((a : Nat) : Int), .int .i64 ((b : Nat) : Int)] rfl rfl (World.news_of_block (cs := #[.int .i64 ((a : Nat) : Int), .int .i64 ((b : Nat) : Int)]) (t := 107) (fr := (0, 0)) (heap_alloc_new w3 _)) (by simp [Value.oneCell']) (by unfold maxLen; omega) (by omega) (by simp; omega) ?_)
                    intro v' w' hown8 hgrow _ h5
                    have hB4 : Below wq.heap.size wq w' := (hB3.alloc hB3.size _).grown hgrow (by simp; omega) (fun k e => (HT3.out.own1.lt _ e).1)
                    have HT4 : Hid (Two wq.heap.size w' v' x7 (N ++ colR ks W a b xs (j + 1)) P) := by
                      show Two _ _ _ _ _ _
                      rw [HC1.out]
                      refine HT3.out.push ((Below.refl _ _).alloc (Nat.le_refl _) _) ?_ hgrow (by simpa using h5)
                      rw [edgeRows_ifR, List.length_append]
                      exact hown8
                    clear hown8 hgrow h5 hB3
                    go_wp2_with fail
                    go_roundg (y4n - (j + 1))
                    case rel => exact ⟨j + 1, _, rfl, by go_num, by omega, rfl, HT4.out, hB4⟩
                    case measure => have := Hk3.out; omega
                · obtain rfl : y4n = j := by omega
                  obtain ⟨x6, rfl⟩ : ∃ x6, x6 = z6 := ⟨_, rfl⟩
                  have HTx : Hid (Two wq.heap.size wr x6 x7 (N ++ colR ks W a b xs xs.length) P) := by
                    show Two _ _ _ _ _ _
                    rw [Hxn.out]
                    exact HTz.out
                  have hBwr : Below w.heap.size w wr := HBq.out.trans (hB.mono HBq.out.size)
                  have cd : wr.cell? ⟨bp, op + y * 20 + 12, none⟩ = some (.slice y5a y5n y5c) := rangeAt_below HRy.out hBwr hbp 12 _ rfl
                  have hB0 := hB
                  clear hB hBwr Hk3 HTz
                  obtain ⟨wn, rfl⟩ : ∃ wn : World, wn = wr := ⟨_, rfl⟩
                  go_wp2_with fail
                  clear cd
                  go_loopg [7, 83] y5n (fun k v7 v83 wr => ∃ (j : Nat) (z6 : Value), z6 = v7 ∧ v83 = .int .i64 j ∧ j ≤ y5n ∧ k = y5n - j ∧ Two wq.heap.size wr z6 x6 (P ++ colR ks W a b ys j) (N ++ colR ks W a b xs xs.length) ∧ Below wq.heap.size wq wr)
                  case atStart => exact ⟨0, _, rfl, rfl, Nat.zero_le _, rfl, by have := HTx.out.swap; rw [show colR ks W a b ys 0 = [] from rfl, List.append_nil]; exact this, hB0⟩
                  case round =>
                    clear hB0
                    obtain ⟨j, z6, rfl, rfl, hj, hk, hTz, hB⟩ := hrel
                    have Hk3 := Lib.hid hk
                    have HTz := Lib.hid hTz
                    clear hk hTz
                    by_cases hjl : j < y5n
                    · obtain ⟨b2, o2, rfl, hb2, hc2⟩ := Hycell.out.resolve_left (by omega)
                      have hBwr : Below w.heap.size w wr := HBq.out.trans (hB.mono HBq.out.size)
                      have c3 : wr.cell? ⟨b2, o2 + j, none⟩ = some (U j) := (hBwr.cell (p := ⟨b2, o2 + j, none⟩) hb2).trans (hc2 j hjl)
                      obtain ⟨z, hz⟩ : ∃ z, ys.getD j [] = z := ⟨_, rfl⟩
                      have hT := HyT.out j hjl
                      have hzz : z ∈ ys := by rw [← hz]; exact mem_getD _ (by rw [Hyn.out]; exact hjl)
                      rw [hz] at hT
                      have HSz := Lib.hid (Hsy.out z hzz)
                      obtain ⟨av1, nv1, cv1, hVj⟩ := hT.1.slice
                      rw [hVj] at c3
                      have HTy : Hid (Terms w (.slice av1 nv1 cv1) z) := by have := hT; rwa [hVj] at this
                      have hC1 : colR ks W a b ys (j + 1) = colR ks W a b ys j ++ edgeIf (hitK (atW ks W a) z) a b := by
                        unfold colR
                        rw [fm_succ, hz]
                      rw [HHit.out] at hC1
                      have hCl : (P ++ colR ks W a b ys j).length ≤ 16840 := by
                        have h2 : (colR ks W a b ys j).length ≤ j * 1 := fm_len _ _ _ fun a _ => edgeIf_len _ _ _
                        rw [List.length_append]
                        omega
                      obtain ⟨Q, hQ⟩ : ∃ Q, P ++ colR ks W a b ys j = Q := ⟨_, rfl⟩
                      obtain ⟨h0, hh0⟩ : ∃ h0, (z.any fun t => packB t kp) = h0 := ⟨_, rfl⟩
                      rw [hh0] at hC1
                      have HC1 : Hid (P ++ colR ks W a b ys (j + 1) = Q ++ edgeIf h0 a b) := by show _ = _; rw [hC1, ← List.append_assoc, hQ]
                      rw [hQ] at HTz hCl
                      have HRx : Hid (wr.rangeAt bp (op + x * 20 + 7) [.string kp.name, .int .i64 kp.ep, .string kp.up, .string kp.rv, .slice f4 n4 q4, .slice f5 n5 q5, .slice f6 n6 q6, .slice f7 n7 q7, .slice f8 n8 q8, .slice f9 n9 q9, .slice f10 n10 q10, .slice f11 n11 q11, .slice fa fn fc]) := rangeAt_below HR7.out hBwr hbp
                      have CO1 := Lib.hid (one_calls kp (.slice f4 n4 q4) (.slice f5 n5 q5) (.slice f6 n6 q6) (.slice f7 n7 q7) (.slice f8 n8 q8) (.slice f9 n9 q9) (.slice f10 n10 q10) (.slice f11 n11 q11) fa fn fc (.slice av1 nv1 cv1) z wr (HV.out.provides.below hBwr (Nat.le_refl _)) (HTy.out.below hBwr (Nat.le_refl _)) HSz.out Hsm.out.sm Hsm.out.provides)
                      rw [hh0] at CO1
                      have hszr := hB.size
                      clear hc2 hz hT hzz hVj hC1 hQ hh0
                      go_wp2_with (refine wpList_load_mid (by rfl) 30 _ (by rfl) bp (op + x * 20 + 7) (by rfl) _ _ HRx.out Tryz.underlying30 (by rfl) (by kernel_rfl) ?_)
                      refine CO1.out.mono ?_
                      rintro e3 w3 ⟨rfl, hb3⟩
                      have hB3 := hB.trans (hb3.mono hB.size)
                      have HT3 := Lib.hid (HTz.out.below hb3)
                      have hsz3 : wq.heap.size ≤ w3.heap.size := hB3.size
                      clear hb3 c3 CO1 HRx hBwr
                      cases h0
                      · have HT4 : Hid (Two wq.heap.size w3 z6 x6 (P ++ colR ks W a b ys (j + 1)) (N ++ colR ks W a b xs xs.length)) := by
                          show Two _ _ _ _ _ _
                          rw [HC1.out]
                          have := HT3.out
                          rwa [show Q ++ edgeIf false a b = Q from List.append_nil Q]
                        go_wp2_with fail
                        go_roundg (y5n - (j + 1))
                        case rel => exact ⟨j + 1, _, rfl, by go_num, by omega, rfl, HT4.out, hB3⟩
                        case measure => have := Hk3.out; omega
                      · go_wp2_with (at_builtin; refine wpList_append_own_at _ rfl _ _ 106 rfl wq.heap.size 107 i0 _ 2 16 Tryz.underlying106 Hi0.out.1 Hi0.out.2.1 Hi0.out.2.2.1 Hi0.out.2.2.2 rfl (by decide) z6 Q.length (edgeRows Q) rfl (HT3.out.own1.alloc _) ⟨w3.heap.size, 0, none⟩ 1 1 [.int .i64 ((a : Nat) : Int), .int .i64 ((b : Nat) : Int)] rfl rfl (World.news_of_block (cs := #[.int .i64 ((a : Nat) : Int), .int .i64 ((b : Nat) : Int)]) (t := 107) (fr := (0, 0)) (heap_alloc_new w3 _)) (by simp [Value.oneCell']) (by unfold maxLen; omega) (by omega) (by simp; omega) ?_)
                        intro v' w' hown8 hgrow _ h5
                        have hB4 : Below wq.heap.size wq w' := (hB3.alloc hB3.size _).grown hgrow (by simp; omega) (fun k e => (HT3.out.own1.lt _ e).1)
                        have HT4 : Hid (Two wq.heap.size w' v' x6 (P ++ colR ks W a b ys (j + 1)) (N ++ colR ks W a b xs xs.length)) := by
                          show Two _ _ _ _ _ _
                          rw [HC1.out]
                          refine HT3.out.push ((Below.refl _ _).alloc (Nat.le_refl _) _) ?_ hgrow (by simpa using h5)
                          rw [edgeRows_ifR, List.length_append]
                          exact hown8
                        clear hown8 hgrow h5 hB3
                        go_wp2_with fail
                        go_roundg (y5n - (j + 1))
                        case rel => exact ⟨j + 1, _, rfl, by go_num, by omega, rfl, HT4.out, hB4⟩
                        case measure => have := Hk3.out; omega
                    · obtain rfl : y5n = j := by omega
                      have HT6 : Hid (Two wq.heap.size wr x6 z6 (L ++ rowR ks W (fun k => k.pack.depends) a (b + 1)) (M ++ rowR ks W (fun k => k.pack.ahead) a (b + 1))) := by
                        show Two _ _ _ _ _ _
                        rw [HN1.out, HP1.out, Hyn.out]
                        exact HTz.out.swap
                      go_wp2_with fail
                      go_roundg (n - (b + 1))
                      case rel => exact ⟨b + 1, _, _, rfl, rfl, by go_num, by omega, rfl, HT6.out, hB⟩
                      case measure => have := Hk2.out; omega
            · obtain rfl : n = b := by omega
              have HT2 : Hid (Two wq.heap.size wr x6 x7 (edgesR ks W (fun k => k.pack.depends) (a + 1)) (edgesR ks W (fun k => k.pack.ahead) (a + 1))) := by
                show Two _ _ _ _ _ _
                rw [HE1.out, HE2.out]
                exact HTw.out
              go_wp2_with fail
              go_roundg (n - (a + 1))
              case rel => exact ⟨a + 1, _, _, rfl, rfl, by go_num, by omega, rfl, HT2.out, hB⟩
              case measure => have := Hk.out; omega
        · obtain rfl : n = a := by omega
          have Hbq := Lib.hid hB
          have HBz : Hid (Below w.heap.size w wr) := HBq.out.trans (hB.mono HBq.out.size)
          have HE6 : Hid (Edges wr x6 (edgesR ks W (fun k => k.pack.depends) W.length)) := by have := edges_owned HTw.out.own1; rw [← Hn.out] at this; exact this
          have HE7 : Hid (Edges wr x7 (edgesR ks W (fun k => k.pack.ahead) W.length)) := by have := edges_owned HTw.out.own2; rw [← Hn.out] at this; exact this
          obtain ⟨a6, m6, c6, rfl⟩ : ∃ a m c, x6 = .slice a m c := by
            obtain ⟨a, c, e, _⟩ := HE6.out
            exact ⟨_, _, _, e⟩
          obtain ⟨a7, m7, c7, rfl⟩ : ∃ a m c, x7 = .slice a m c := by
            obtain ⟨a, c, e, _⟩ := HE7.out
            exact ⟨_, _, _, e⟩
          have HL5 : Hid ((edgesR ks W (fun k => k.pack.depends) W.length).length ≤ 50000) := by have := edgesR_len (ks := ks) (sel := fun k => k.pack.depends) HW20.out (H40.out.dep' W) (Nat.le_refl W.length); show _ ≤ _; omega
          have HL6 : Hid ((edgesR ks W (fun k => k.pack.ahead) W.length).length ≤ 50000) := by have := edgesR_len (ks := ks) (sel := fun k => k.pack.ahead) HW20.out (H40.out.ah' W) (Nat.le_refl W.length); show _ ≤ _; omega
          have hr1 : rightR ((n : Nat) : Int) (edgesR ks W (fun k => k.pack.depends) W.length) = (0, -1) := by rw [← Hn.out]; exact edgesR_right HW20.out
          have hr2 : rightR ((n : Nat) : Int) (edgesR ks W (fun k => k.pack.ahead) W.length) = (0, -1) := by rw [← Hn.out]; exact edgesR_right HW20.out
          have HLR : Hid (lineR ((n : Nat) : Int) (edgesR ks W (fun k => k.pack.depends) W.length) (edgesR ks W (fun k => k.pack.ahead) W.length) = (0, -1)) := by
            show _ = _
            unfold lineR
            rw [if_pos hr1]
            exact hr2
          have CL := Lib.hid (refLine_good (.slice a6 m6 c6) (.slice a7 m7 c7) _ _ n wr HE6.out HE7.out (HN.out.below HBz.out (Nat.le_refl _)) hr1 hr2 HL5.out HL6.out)
          have hneq0 := neq_fine
          clear hr1 hr2 HL5 HL6 HTw hB Hk
          go_wp2_with fail
          refine CL.out.mono ?_
          rintro e7 w7 ⟨lv, xs, rfl, hR7, -, hg7, hb7⟩
          rw [HLR.out]
          obtain ⟨la, ln0, lc, rfl⟩ : ∃ a m c, lv = .slice a m c := by
            obtain ⟨a, c, e, _⟩ := hR7
            exact ⟨_, _, _, e⟩
          have HG7 := Lib.hid (hg7 HLR.out n rfl)
          have hB7 : Below w.heap.size w w7 := HBz.out.trans (hb7.mono HBz.out.size)
          have hfn := HN.out.below (hB7.alloc hB7.size (.cells #[.int .i64 0, .int .i64 (-1)] 42)) (Nat.le_refl _)
          have f0 := hfn.c0
          have f1 := hfn.c1
          have fl := hfn.lt
          obtain ⟨w8, hw8⟩ : ∃ w8 : World, w8 = w7.alloc (.cells #[.int .i64 0, .int .i64 (-1)] 42) := ⟨_, rfl⟩
          have hb8 : Below w7.heap.size w7 w8 := by rw [hw8]; exact (Below.refl _ _).alloc (Nat.le_refl _) _
          have HB8 : Hid (Below w.heap.size w w8) := hB7.trans (hb8.mono hB7.size)
          have hR8 := hR7.below hb8 (Nat.le_refl _)
          have HLK : Hid (LineK ks W xs) := LineK.of_doc (by have := HG7.out; rwa [← Hn.out] at this)
          have HXlt : Hid (∀ x ∈ xs, x < n) := fun x hx => by have := HLK.out.lt x hx; rwa [Hn.out] at this
          obtain ⟨hxn, hxc, hxm, hxcell⟩ := row_at hR8
          have Hxn := Lib.hid hxn
          have Hxcell := Lib.hid hxcell
          have hln40 : ln0 ≤ 40 := by
            have h4 := line_len HLK.out
            rw [Hn.out] at h4
            rw [← Hxn.out]
            omega
          have h8w : w.heap.size ≤ w8.heap.size := HB8.out.size
          have Hw8 := Lib.hid hw8
          have HBq8 : Hid (Below wq.heap.size wq w8) := Hbq.out.trans ((hb7.trans (hb8.mono hb7.size)).mono Hbq.out.size)
          clear hxn hxcell hR7 hR8 hg7 hb7 hb8 hw8 hfn hB7 CL
          go_wp2_with fail
          rw [show w7.alloc (.cells _ _) = w8 from Hw8.out.symm]
          go_wp2_with fail
          clear f0 f1 fl hneq0
          go_loopg [18, 116] ln0 (fun k v9 v43 wr => ∃ (i : Nat) (ov : Value), ov = v9 ∧ v43 = .int .i64 i ∧ i ≤ ln0 ∧ k = ln0 - i ∧ wr.ownsRow w8.heap.size 3 1 ov (castN ((xs.take i).map fun x => W.getD x 0)).length ((castN ((xs.take i).map fun x => W.getD x 0)).map (Value.int .i64)) ∧ Below w8.heap.size w8 wr)
          case atStart => exact ⟨0, _, rfl, rfl, Nat.zero_le _, rfl, World.ownsRow_nil _ _ _ _, Below.refl _ _⟩
          case round =>
            obtain ⟨i, ov, rfl, rfl, hi, hk, hown, hB⟩ := hrel
            have Hk := Lib.hid hk
            have Hown := Lib.hid hown
            clear hk hown
            by_cases hlt : i < ln0
            · obtain ⟨b1, o1, rfl, hb1, hc1⟩ := Hxcell.out.resolve_left (by omega)
              obtain ⟨x, hx⟩ : ∃ x, xs.getD i 0 = x := ⟨_, rfl⟩
              have hxlt : x < n := by rw [← hx]; exact HXlt.out _ (mem_getD_nat (by rw [Hxn.out]; exact hlt))
              obtain ⟨b2, o2, rfl, hb2, hc2⟩ := Hwcell.out.resolve_left (by omega)
              obtain ⟨y, hy⟩ : ∃ y, W.getD x 0 = y := ⟨_, rfl⟩
              have hBq : Below wq.heap.size wq wr := HBq8.out.trans (hB.mono HBq8.out.size)
              have c1 : wr.cell? ⟨b1, o1 + i, none⟩ = some (.int .i64 ((x : Nat) : Int)) := (hB.cell (p := ⟨b1, o1 + i, none⟩) hb1).trans (by rw [hc1 i hlt, hx])
              have c2 : wr.cell? ⟨b2, o2 + x, none⟩ = some (.int .i64 ((y : Nat) : Int)) := (hBq.cell (p := ⟨b2, o2 + x, none⟩) hb2).trans (by rw [hc2 x hxlt, hy])
              have HS1 : Hid (castN ((xs.take (i + 1)).map fun x => W.getD x 0) = castN ((xs.take i).map fun x => W.getD x 0) ++ [((y : Nat) : Int)]) := by
                show _ = _
                rw [map_take_snoc (fun x => W.getD x 0) (by rw [Hxn.out]; exact hlt), castN_snoc, hx, hy]
              have hol : (castN ((xs.take i).map fun x => W.getD x 0)).length ≤ 40 := by rw [castN_len, List.length_map, List.length_take]; omega
              obtain ⟨Z, hZ⟩ : ∃ Z, castN ((xs.take i).map fun x => W.getD x 0) = Z := ⟨_, rfl⟩
              rw [hZ] at HS1 hol
              have Hown2 : Hid (wr.ownsRow w8.heap.size 3 1 ov Z.length (Z.map (Value.int .i64))) := by have := Hown.out; rwa [hZ] at this
              have hsz := hB.size
              clear hx hy hc1 hc2 hZ Hown
              go_wp2_with (at_builtin; refine wpList_append_own _ rfl _ _ 31 rfl w8.heap.size 3 i1 _ 1 8 Tryz.underlying31 Hi1.out.1 Hi1.out.2.1 Hi1.out.2.2.1 Hi1.out.2.2.2 rfl (by decide) ov Z.length (Z.map (Value.int .i64)) rfl (Hown2.out.alloc _) ⟨wr.heap.size, 0, none⟩ 1 1 [.int .i64 ((y : Nat) : Int)] rfl rfl (World.news_of_block (cs := #[.int .i64 ((y : Nat) : Int)]) (t := 3) (fr := (0, 0)) (heap_alloc_new wr _)) (by simp [Value.oneCell']) (by unfold maxLen; omega) (by omega) (by simp; omega) ?_)
              intro v' w' hown3 hgrow _
              have hB2 : Below w8.heap.size w8 w' := (hB.alloc hB.size _).grown hgrow (by simp; omega) (fun k e => (Hown2.out.lt _ e).1)
              have Hown3 : Hid (w'.ownsRow w8.heap.size 3 1 v' (castN ((xs.take (i + 1)).map fun x => W.getD x 0)).length ((castN ((xs.take (i + 1)).map fun x => W.getD x 0)).map (Value.int .i64))) := by
                show World.ownsRow _ _ _ _ _ _ _
                rw [HS1.out, castN_rows, List.length_append]
                exact hown3
              clear hown3 hgrow c1 c2
              go_wp2_with fail
              go_roundg (ln0 - (i + 1))
              case rel => exact ⟨i + 1, _, rfl, by go_num, by omega, rfl, Hown3.out, hB2⟩
              case measure => have := Hk.out; omega
            · obtain rfl : ln0 = i := by omega
              have HI : Hid (Ints wr ov (castN (xs.map fun x => W.getD x 0))) := by
                have := ints_owned Hown.out
                rwa [List.take_of_length_le (by rw [Hxn.out]; exact Nat.le_refl _)] at this
              go_wp2_with fail
              go_ret
              exact ⟨ov, xs, rfl, by rw [Hm.out, HWW.out]; exact HLK.out, by rw [Hm.out, HWW.out]; exact HI.out, HB8.out.trans (hB.mono HB8.out.size)⟩
end Go.Proofs.YtnfnebfioibndaaGreatDoor
