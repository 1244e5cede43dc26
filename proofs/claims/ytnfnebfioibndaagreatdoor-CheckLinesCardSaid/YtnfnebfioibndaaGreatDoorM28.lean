/- check.Line: the closure that lists edges. -/
import Derived.Test.YtnfnebfioibndaaGreatDoorM21
import Derived.Test.YtnfnebfioibndaaGreatDoorM27
namespace Go.Proofs.YtnfnebfioibndaaGreatDoor
open Go.RowKit
set_option maxRecDepth 100000
set_option maxHeartbeats 4000000

theorem edgeRows_if (L : List EdgeD) (a b : Nat) : edgeRows (L ++ edgeIf true a b) = edgeRows L ++ [.int .i64 ((a : Nat) : Int), .int .i64 ((b : Nat) : Int)] := edgeRows_snoc L _
theorem row_at {w : World} {xs : List Nat} {a : Option Addr} {n cap : Nat} (h : Row w (.slice a n cap) xs) : xs.length = n ∧ n ≤ cap ∧ cap ≤ 9223372036854775807 ∧ (n = 0 ∨ ∃ b o, a = some ⟨b, o, none⟩ ∧ b < w.heap.size ∧ ∀ i, i < n → w.cell? ⟨b, o + i, none⟩ = some (.int .i64 ((xs.getD i 0 : Nat) : Int))) := by
  obtain ⟨a', c, e, h1, h2, h3⟩ := h
  injection e with e1 e2 e3
  subst e1 e2 e3
  unfold maxLen at h2
  refine ⟨rfl, h1, by omega, h3.imp id fun ⟨b, o, e, hb, hc⟩ => ⟨b, o, e, hb, fun i hi => ?_⟩⟩
  have := hc i 0 hi (by decide)
  rwa [Nat.mul_one, Nat.add_zero] at this
theorem lists_at {w : World} {ls : List (List TermD)} {a : Option Addr} {n cap : Nat} (h : Lists w (.slice a n cap) ls) : ∃ V : Nat → Value, ls.length = n ∧ n ≤ cap ∧ cap ≤ 9223372036854775807 ∧ (n = 0 ∨ ∃ b o, a = some ⟨b, o, none⟩ ∧ b < w.heap.size ∧ ∀ i, i < n → w.cell? ⟨b, o + i, none⟩ = some (V i)) ∧ ∀ i, i < n → Terms w (V i) (ls.getD i []) := by
  obtain ⟨V, ⟨a', c, e, h1, h2, h3⟩, h4⟩ := h
  injection e with e1 e2 e3
  subst e1 e2 e3
  unfold maxLen at h2
  refine ⟨V, rfl, h1, by omega, h3.imp id fun ⟨b, o, e, hb, hc⟩ => ⟨b, o, e, hb, fun i hi => ?_⟩, h4⟩
  have := hc i 0 hi (by decide)
  rwa [Nat.mul_one, Nat.add_zero] at this
theorem mem_getD_nat {l : List Nat} {i : Nat} (h : i < l.length) : l.getD i 0 ∈ l := by simp [List.getD, List.getElem?_eq_getElem h]

theorem edges2_calls (ks : List KnownD) (W : List Nat) (kv wv : Value) (Bw Bl : Nat) (w : World) (hw : w.cell? ⟨Bw, 0, none⟩ = some wv) (hl : w.cell? ⟨Bl, 0, none⟩ = some kv) (hW : Row w wv W) (hK : Knowns w kv ks) (hF : FitK ks) (hWk : ∀ x ∈ W, x < ks.length) (hW20 : W.length ≤ 20) (hs40 : ∀ a, (atW ks W a).pack.depends.length ≤ 40) :
    Calls Tryz.prog 45 #[.func (.func 50) #[] #[], .pointer (some ⟨Bw, 0, none⟩), .pointer (some ⟨Bl, 0, none⟩)] w fun e w' => ∃ ov, e = .returned ov ∧ Edges w' ov (edgesE ks W (fun k => k.pack.depends) W.length) ∧ Below w.heap.size w w' := by
  have lBw := World.block_lt_of_cell? w _ hw
  have lBl := World.block_lt_of_cell? w _ hl
  have HK := Lib.hid hK
  have HWr := Lib.hid hW
  obtain ⟨R, ⟨a, cap, rfl, hcap, hmax, hcell⟩, hO⟩ := hK
  unfold maxLen at hmax
  obtain ⟨aw, nw0, cw, rfl⟩ : ∃ a m c, wv = .slice a m c := by
    obtain ⟨a, c, e, _⟩ := hW
    exact ⟨_, _, _, e⟩
  obtain ⟨hwn, hwc, hwm, hwcell⟩ := row_at hW
  obtain ⟨m, hm⟩ : ∃ m, ks.length = m := ⟨_, rfl⟩
  rw [hm] at hcap hcell hO hWk hl HK
  obtain ⟨i0, hi0, hz0, hz1, hz2⟩ := info_parts info_edge
  have Hi0 := Lib.hid (And.intro hi0 (And.intro hz0 (And.intro hz1 hz2)))
  have Hcell := Lib.hid hcell
  have HO := Lib.hid hO
  have Hwcell := Lib.hid hwcell
  have Hwn := Lib.hid hwn
  have HWk := Lib.hid hWk
  have HF := Lib.hid hF
  have Hm := Lib.hid hm
  have Hl := Lib.hid hl
  have Hcw := Lib.hid hw
  have Hs40 := Lib.hid hs40
  have HW20 := Lib.hid hW20
  have hn20 : nw0 ≤ 20 := by omega
  clear hcell hO hwcell hwn hWk hF hm hs40 hW20 hi0 hz0 hz1 hz2 hW
  go_enter Tryz.func45, Tryz.ntmps45
  go_wp2_with fail
  clear hl hw
  go_loopg [5, 14] nw0 (fun k v5 v14 wr => ∃ (b : Nat) (ov : Value), ov = v5 ∧ v14 = .int .i64 b ∧ b ≤ nw0 ∧ k = nw0 - b ∧ wr.ownsRow w.heap.size 102 2 ov (edgesE ks W (fun k => k.pack.depends) b).length (edgeRows (edgesE ks W (fun k => k.pack.depends) b)) ∧ Below w.heap.size w wr)
  case atStart => exact ⟨0, _, rfl, rfl, Nat.zero_le _, rfl, World.ownsRow_nil _ _ _ _, Below.refl _ _⟩
  case round =>
    obtain ⟨b, ov, rfl, rfl, hb', hk, hown, hB⟩ := hrel
    have Hk := Lib.hid hk
    have Hown := Lib.hid hown
    clear hk hown
    by_cases hlt : b < nw0
    · obtain ⟨b1, o1, rfl, hb1, hc1⟩ := Hwcell.out.resolve_left (by omega)
      obtain ⟨y, hy⟩ : ∃ y, W.getD b 0 = y := ⟨_, rfl⟩
      have hym : y < m := by rw [← hy]; exact HWk.out _ (mem_getD_nat (by rw [Hwn.out]; exact hlt))
      have c1 : wr.cell? ⟨b1, o1 + b, none⟩ = some (.int .i64 ((y : Nat) : Int)) := (hB.cell (p := ⟨b1, o1 + b, none⟩) hb1).trans (by rw [hc1 b hlt, hy])
      have cl : wr.cell? ⟨Bl, 0, none⟩ = some (.slice a m cap) := (hB.cell (p := ⟨Bl, 0, none⟩) lBl).trans Hl.out
      obtain ⟨bp, op, rfl, hbp, hcp⟩ := Hcell.out.resolve_left (by omega)
      obtain ⟨q, hq⟩ : ∃ q, ks.getD y KnownD.none = q := ⟨_, rfl⟩
      have hkn := HO.out y hym
      have hmem : ks.getD y KnownD.none ∈ ks := mem_getD _ (by rw [Hm.out]; exact hym)
      rw [hq] at hkn hmem
      have HR0 : wr.rangeAt bp (op + y * 20) (row20 (R y)) := rangeAt_row20 fun j hj => (hB.cell (p := ⟨bp, op + y * 20 + j, none⟩) hbp).trans (hcp y j hym hj)
      have hat : atW ks W b = q := by unfold atW; rw [hy, hq]
      obtain ⟨s, e, u, r, hd, wl, tl, kp⟩ := q
      obtain ⟨fw, nw, qw, ft, nt, qt, f4, n4, q4, f5, n5, q5, f6, n6, q6, f7, n7, q7, f8, n8, q8, f9, n9, q9, f10, n10, q10, f11, n11, q11, fa, fn, fc, eR, hV, -, -⟩ := hkn.cells
      dsimp only at eR hV
      rw [eR] at HR0
      have HR7 := Lib.hid (rangeAt_at7 HR0)
      obtain ⟨xs, hxs⟩ : ∃ xs, kp.depends = xs := ⟨_, rfl⟩
      have hLx : Lists w (.slice f4 n4 q4) xs := by rw [← hxs]; exact hV.depends
      have hsm := (HF.out.small _ hmem).depends
      dsimp only at hsm
      rw [hxs] at hsm
      have h40 := Hs40.out b
      rw [hat] at h40
      dsimp only at h40
      rw [hxs] at h40
      obtain ⟨V, hxn, hxc, hxm, hxcell, hxT⟩ := lists_at hLx
      have hE1 : edgesE ks W (fun k => k.pack.depends) (b + 1) = edgesE ks W (fun k => k.pack.depends) b ++ colE ks W b xs xs.length := by
        unfold edgesE
        rw [fm_succ, hat]
        dsimp only
        rw [hxs]
      have HE1 := Lib.hid hE1
      have Hxcell := Lib.hid hxcell
      have HxT := Lib.hid hxT
      have Hxn := Lib.hid hxn
      have Hsm := Lib.hid hsm
      have HWn : Hid (W.length = nw0) := Hwn.out
      have hx40 : n4 ≤ 40 := by omega
      have hLlen : (edgesE ks W (fun k => k.pack.depends) b).length ≤ 16000 := edgesE_len (by rw [Hwn.out]; omega) (fun a => Hs40.out a) (by rw [Hwn.out]; omega)
      obtain ⟨L, hL⟩ : ∃ L, edgesE ks W (fun k => k.pack.depends) b = L := ⟨_, rfl⟩
      have HL := Lib.hid hL
      have Hown0 : Hid (wr.ownsRow w.heap.size 102 2 ov (L).length (edgeRows (L))) := by have := Hown.out; rwa [hL] at this
      rw [hL] at hLlen
      clear hc1 hcp hq hkn hmem HR0 hat eR hV hxs hLx hsm h40 hxn hxcell hxT hE1 hL Hown
      have C0 := fun W => depsOf_calls kp (.slice f4 n4 q4) (.slice f5 n5 q5) (.slice f6 n6 q6) (.slice f7 n7 q7) (.slice f8 n8 q8) (.slice f9 n9 q9) (.slice f10 n10 q10) (.slice f11 n11 q11) fa fn fc W ⟨_, _, _, rfl⟩
      have HC0 := Lib.hid C0
      clear C0
      go_wp2_with (refine wpList_load_mid (by rfl) 30 _ (by rfl) bp (op + y * 20 + 7) (by rfl) _ _ HR7.out Tryz.underlying30 (by rfl) (by kernel_rfl) ?_)
      refine (HC0.out _).mono ?_
      rintro e1 w1 ⟨rfl, hb2⟩
      have hB1 := hB.trans (hb2.mono hB.size)
      have Hown1 := Lib.hid (owns_below Hown0.out hb2)
      clear hb2 hB c1 cl Hown0
      obtain ⟨wo, rfl⟩ : ∃ wo : World, wo = wr := ⟨_, rfl⟩
      go_wp2_with fail
      go_loopg [5, 27] n4 (fun k v5 v27 wr => ∃ (j : Nat) (ov : Value), ov = v5 ∧ v27 = .int .i64 j ∧ j ≤ n4 ∧ k = n4 - j ∧ wr.ownsRow w.heap.size 102 2 ov (L ++ colE ks W b xs j).length (edgeRows (L ++ colE ks W b xs j)) ∧ Below w.heap.size w wr)
      case atStart => exact ⟨0, _, rfl, rfl, Nat.zero_le _, rfl, by have := Hown1.out; rw [show colE ks W b xs 0 = [] from rfl, List.append_nil]; exact this, hB1⟩
      case round =>
        clear hB1
        obtain ⟨j, ov2, rfl, rfl, hj', hk2, hown2, hB⟩ := hrel
        have Hk2 := Lib.hid hk2
        have Hown2 := Lib.hid hown2
        clear hk2 hown2
        by_cases hjl : j < n4
        · obtain ⟨b2, o2, rfl, hb2, hc2⟩ := Hxcell.out.resolve_left (by omega)
          have c2 : wr.cell? ⟨b2, o2 + j, none⟩ = some (V j) := (hB.cell (p := ⟨b2, o2 + j, none⟩) hb2).trans (hc2 j hjl)
          have cw' : wr.cell? ⟨Bw, 0, none⟩ = some (.slice (some ⟨b1, o1, none⟩) nw0 cw) := (hB.cell (p := ⟨Bw, 0, none⟩) lBw).trans Hcw.out
          obtain ⟨x, hx⟩ : ∃ x, xs.getD j [] = x := ⟨_, rfl⟩
          have hT := HxT.out j hjl
          have hxx : x ∈ xs := by rw [← hx]; exact mem_getD _ (by rw [Hxn.out]; exact hjl)
          rw [hx] at hT
          have HTx := Lib.hid hT
          have HSx := Lib.hid (Hsm.out x hxx)
          obtain ⟨av1, nv1, cv1, hVj⟩ := hT.1.slice
          rw [hVj] at c2
          have HTy : Hid (Terms w (.slice av1 nv1 cv1) x) := by have := HTx.out; rwa [hVj] at this
          have hC1 : colE ks W b xs (j + 1) = colE ks W b xs j ++ rowE ks W b x W.length := by
            unfold colE
            rw [fm_succ, hx]
          have HC1 := Lib.hid hC1
          have hCl : (L ++ colE ks W b xs j).length ≤ 16000 + 800 := by
            have h1 : ∀ b x m, (rowE ks W b x m).length ≤ m * 1 := fun b x m => fm_len _ _ 1 fun a _ => edgeIf_len _ _ _
            have h2 : (colE ks W b xs j).length ≤ j * (W.length * 1) := fm_len _ _ _ fun j _ => h1 _ _ _
            have h3 : j * (W.length * 1) ≤ 40 * (20 * 1) := Nat.mul_le_mul (by omega) (by rw [HWn.out]; omega)
            rw [List.length_append]
            omega
          obtain ⟨M, hM⟩ : ∃ M, L ++ colE ks W b xs j = M := ⟨_, rfl⟩
          have HM := Lib.hid hM
          have Hown3 : Hid (wr.ownsRow w.heap.size 102 2 ov2 (M).length (edgeRows (M))) := by have := Hown2.out; rwa [hM] at this
          rw [hM] at hCl
          have hB1 := hB
          clear hc2 hx hT hxx hVj hC1 hM Hown2 hB HTx
          obtain ⟨wp, rfl⟩ : ∃ wp : World, wp = wr := ⟨_, rfl⟩
          go_wp2_with fail
          go_loopg [5, 33] nw0 (fun k v5 v33 wr => ∃ (z : Nat) (ov : Value), ov = v5 ∧ v33 = .int .i64 z ∧ z ≤ nw0 ∧ k = nw0 - z ∧ wr.ownsRow w.heap.size 102 2 ov (M ++ rowE ks W b x z).length (edgeRows (M ++ rowE ks W b x z)) ∧ Below w.heap.size w wr)
          case atStart => exact ⟨0, _, rfl, rfl, Nat.zero_le _, rfl, by have := Hown3.out; rw [show rowE ks W b x 0 = [] from rfl, List.append_nil]; exact this, hB1⟩
          case round =>
            clear hB1
            obtain ⟨z, ov3, rfl, rfl, hz', hk3, hown4, hB⟩ := hrel
            have Hk3 := Lib.hid hk3
            have Hown4 := Lib.hid hown4
            clear hk3 hown4 c2 cw'
            by_cases hzl : z < nw0
            · obtain ⟨g, hg⟩ : ∃ g, W.getD z 0 = g := ⟨_, rfl⟩
              obtain ⟨b1', o1', hab, hb1', hc1'⟩ := Hwcell.out.resolve_left (by omega)
              obtain ⟨rfl, rfl⟩ : b1 = b1' ∧ o1 = o1' := by simpa using hab
              have hgm : g < m := by rw [← hg]; exact HWk.out _ (mem_getD_nat (by rw [Hwn.out]; exact hzl))
              have c3 : wr.cell? ⟨b1, o1 + z, none⟩ = some (.int .i64 ((g : Nat) : Int)) := (hB.cell (p := ⟨b1, o1 + z, none⟩) hb1).trans (by rw [hc1' z hzl, hg])
              obtain ⟨wx, hwx⟩ : ∃ wx : World, wx = wr.alloc (.cells #[.int .i64 ((g : Nat) : Int)] 3) := ⟨_, rfl⟩
              have hBx : Below w.heap.size w wx := by rw [hwx]; exact hB.alloc hB.size _
              have cg : wx.cell? ⟨wr.heap.size, 0, none⟩ = some (.int .i64 ((g : Nat) : Int)) := by rw [hwx]; simp [go_sem]
              have lgx : wr.heap.size < wx.heap.size := by rw [hwx]; simp
              have hlx : wx.cell? ⟨Bl, 0, none⟩ = some (.slice (some ⟨bp, op, none⟩) m cap) := (hBx.cell (p := ⟨Bl, 0, none⟩) lBl).trans Hl.out
              have hown5 : wx.ownsRow w.heap.size 102 2 ov3 (M ++ rowE ks W b x z).length (edgeRows (M ++ rowE ks W b x z)) := by rw [hwx]; exact Hown4.out.alloc _
              have Hown5 := Lib.hid hown5
              have CC : Hid (Calls Tryz.prog 46 #[.slice av1 nv1 cv1, .func (.func 47) #[] #[.pointer (some ⟨Bl, 0, none⟩), .pointer (some ⟨wr.heap.size, 0, none⟩)]] wx fun e w' => e = .returned (.bool (hitK (atW ks W z) x)) ∧ Below wx.heap.size wx w') := by
                refine (containsTerm_calls (.slice av1 nv1 cv1) x _ _ (fun t => bareB t (ks.getD g KnownD.none).bare) wx (HTy.out.below hBx (Nat.le_refl _)) enters_hit ?_).mono ?_
                · intro t ht w2 hb2
                  have hb3 := hBx.trans (hb2.mono hBx.size)
                  have lBx : Bl < wx.heap.size := Nat.lt_of_lt_of_le lBl hBx.size
                  exact hit_calls t g ks (.slice (some ⟨bp, op, none⟩) m cap) Bl wr.heap.size w2 ((hb2.cell (p := ⟨Bl, 0, none⟩) lBx).trans hlx) ((hb2.cell (p := ⟨wr.heap.size, 0, none⟩) lgx).trans cg) (HK.out.below hb3 (Nat.le_refl _)) (by rw [Hm.out]; exact hgm) HF.out (HSx.out t ht)
                · rintro e w' ⟨rfl, hb⟩
                  refine ⟨?_, hb⟩
                  unfold hitK atW
                  rw [hg]
              have hR1 : rowE ks W b x (z + 1) = rowE ks W b x z ++ edgeIf (hitK (atW ks W z) x) z b := by
                unfold rowE
                rw [fm_succ]
              have HR1 := Lib.hid hR1
              have hRl : (M ++ rowE ks W b x z).length ≤ 16000 + 800 + 20 := by
                have h2 : (rowE ks W b x z).length ≤ z * 1 := fm_len _ _ _ fun a _ => edgeIf_len _ _ _
                rw [List.length_append]
                omega
              obtain ⟨N, hN⟩ : ∃ N, M ++ rowE ks W b x z = N := ⟨_, rfl⟩
              have HN : Hid (M ++ rowE ks W b x (z + 1) = N ++ edgeIf (hitK (atW ks W z) x) z b) := by show _ = _; rw [HR1.out, ← List.append_assoc, hN]
              have Hown6 : Hid (wx.ownsRow w.heap.size 102 2 ov3 (N).length (edgeRows (N))) := by have := Hown5.out; rwa [hN] at this
              rw [hN] at hRl
              have HBx := Lib.hid hBx
              have Hwx := Lib.hid hwx
              clear hg hab hc1' hwx hBx hown5 hR1 hN Hown5 Hown4
              obtain ⟨h0, hh0⟩ : ∃ h0, hitK (atW ks W z) x = h0 := ⟨_, rfl⟩
              rw [hh0] at CC HN
              clear hh0
              cases h0
              · go_wp2_with fail
                rw [show wr.alloc (.cells _ _) = wx from Hwx.out.symm]
                go_wp2_with fail
                refine CC.out.mono ?_
                rintro e2 w2 ⟨rfl, hb2⟩
                have hB2 := HBx.out.trans (hb2.mono HBx.out.size)
                have Hown7 : Hid (w2.ownsRow w.heap.size 102 2 ov3 (M ++ rowE ks W b x (z + 1)).length (edgeRows (M ++ rowE ks W b x (z + 1)))) := by
                  show World.ownsRow _ _ _ _ _ _ _
                  rw [HN.out]
                  exact owns_below (by have := Hown6.out; rwa [show N ++ edgeIf false z b = N from List.append_nil N]) hb2
                clear hb2 c3 cg hlx CC
                go_wp2_with fail
                go_roundg (nw0 - (z + 1))
                case rel => exact ⟨z + 1, _, rfl, by go_num, by omega, rfl, Hown7.out, hB2⟩
                case measure => have := Hk3.out; omega
              · go_wp2_with fail
                rw [show wr.alloc (.cells _ _) = wx from Hwx.out.symm]
                go_wp2_with fail
                refine CC.out.mono ?_
                rintro e2 w2 ⟨rfl, hb2⟩
                have hB2 := HBx.out.trans (hb2.mono HBx.out.size)
                have Hown7 : Hid (w2.ownsRow w.heap.size 102 2 ov3 (N).length (edgeRows (N))) := owns_below Hown6.out hb2
                have hsz2 : w.heap.size ≤ w2.heap.size := hB2.size
                clear hb2 c3 cg hlx CC
                go_wp2_with (at_builtin; refine wpList_append_own _ rfl _ _ 95 rfl w.heap.size 102 i0 _ 2 16 Tryz.underlying95 Hi0.out.1 Hi0.out.2.1 Hi0.out.2.2.1 Hi0.out.2.2.2 rfl (by decide) ov3 N.length (edgeRows N) rfl (Hown7.out.alloc _) ⟨w2.heap.size, 0, none⟩ 1 1 [.int .i64 ((z : Nat) : Int), .int .i64 ((b : Nat) : Int)] rfl rfl (World.news_of_block (cs := #[.int .i64 ((z : Nat) : Int), .int .i64 ((b : Nat) : Int)]) (t := 102) (fr := (0, 0)) (heap_alloc_new w2 _)) (by simp [Value.oneCell']) (by unfold maxLen; omega) (by omega) (by simp; omega) ?_)
                intro v' w' hown8 hgrow _
                have hB3 : Below w.heap.size w w' := (hB2.alloc hB2.size _).grown hgrow (by simp; have := hB2.size; omega) (fun k e => (Hown7.out.lt _ e).1)
                have Hown8 : Hid (w'.ownsRow w.heap.size 102 2 v' (M ++ rowE ks W b x (z + 1)).length (edgeRows (M ++ rowE ks W b x (z + 1)))) := by
                  show World.ownsRow _ _ _ _ _ _ _
                  rw [HN.out, edgeRows_if, List.length_append]
                  exact hown8
                clear hown8 hgrow hB2
                go_wp2_with fail
                go_roundg (nw0 - (z + 1))
                case rel => exact ⟨z + 1, _, rfl, by go_num, by omega, rfl, Hown8.out, hB3⟩
                case measure => have := Hk3.out; omega
            · obtain rfl : nw0 = z := by omega
              have Hown5 : Hid (wr.ownsRow w.heap.size 102 2 ov3 (L ++ colE ks W b xs (j + 1)).length (edgeRows (L ++ colE ks W b xs (j + 1)))) := by
                show World.ownsRow _ _ _ _ _ _ _
                have := Hown4.out
                rwa [HC1.out, HWn.out, ← List.append_assoc, HM.out]
              go_wp2_with fail
              go_roundg (n4 - (j + 1))
              case rel => exact ⟨j + 1, _, rfl, by go_num, by omega, rfl, Hown5.out, hB⟩
              case measure => have := Hk2.out; omega
        · obtain rfl : n4 = j := by omega
          have Hown5 : Hid (wr.ownsRow w.heap.size 102 2 ov2 (edgesE ks W (fun k => k.pack.depends) (b + 1)).length (edgeRows (edgesE ks W (fun k => k.pack.depends) (b + 1)))) := by
            show World.ownsRow _ _ _ _ _ _ _
            have := Hown2.out
            rwa [HE1.out, HL.out, Hxn.out]
          go_wp2_with fail
          go_roundg (nw0 - (b + 1))
          case rel => exact ⟨b + 1, _, rfl, by go_num, by omega, rfl, Hown5.out, hB⟩
          case measure => have := Hk.out; omega
    · obtain rfl : nw0 = b := by omega
      have HE : Hid (Edges wr ov (edgesE ks W (fun k => k.pack.depends) W.length)) := by
        have := edges_owned Hown.out
        rwa [Hwn.out]
      go_wp2_with fail
      go_ret
      exact ⟨_, rfl, HE.out, hB⟩

theorem edges3_calls (ks : List KnownD) (W : List Nat) (kv wv : Value) (Bw Bl : Nat) (w : World) (hw : w.cell? ⟨Bw, 0, none⟩ = some wv) (hl : w.cell? ⟨Bl, 0, none⟩ = some kv) (hW : Row w wv W) (hK : Knowns w kv ks) (hF : FitK ks) (hWk : ∀ x ∈ W, x < ks.length) (hW20 : W.length ≤ 20) (hs40 : ∀ a, (atW ks W a).pack.ahead.length ≤ 40) :
    Calls Tryz.prog 45 #[.func (.func 51) #[] #[], .pointer (some ⟨Bw, 0, none⟩), .pointer (some ⟨Bl, 0, none⟩)] w fun e w' => ∃ ov, e = .returned ov ∧ Edges w' ov (edgesE ks W (fun k => k.pack.ahead) W.length) ∧ Below w.heap.size w w' := by
  have lBw := World.block_lt_of_cell? w _ hw
  have lBl := World.block_lt_of_cell? w _ hl
  have HK := Lib.hid hK
  have HWr := Lib.hid hW
  obtain ⟨R, ⟨a, cap, rfl, hcap, hmax, hcell⟩, hO⟩ := hK
  unfold maxLen at hmax
  obtain ⟨aw, nw0, cw, rfl⟩ : ∃ a m c, wv = .slice a m c := by
    obtain ⟨a, c, e, _⟩ := hW
    exact ⟨_, _, _, e⟩
  obtain ⟨hwn, hwc, hwm, hwcell⟩ := row_at hW
  obtain ⟨m, hm⟩ : ∃ m, ks.length = m := ⟨_, rfl⟩
  rw [hm] at hcap hcell hO hWk hl HK
  obtain ⟨i0, hi0, hz0, hz1, hz2⟩ := info_parts info_edge
  have Hi0 := Lib.hid (And.intro hi0 (And.intro hz0 (And.intro hz1 hz2)))
  have Hcell := Lib.hid hcell
  have HO := Lib.hid hO
  have Hwcell := Lib.hid hwcell
  have Hwn := Lib.hid hwn
  have HWk := Lib.hid hWk
  have HF := Lib.hid hF
  have Hm := Lib.hid hm
  have Hl := Lib.hid hl
  have Hcw := Lib.hid hw
  have Hs40 := Lib.hid hs40
  have HW20 := Lib.hid hW20
  have hn20 : nw0 ≤ 20 := by omega
  clear hcell hO hwcell hwn hWk hF hm hs40 hW20 hi0 hz0 hz1 hz2 hW
  go_enter Tryz.func45, Tryz.ntmps45
  go_wp2_with fail
  clear hl hw
  go_loopg [5, 14] nw0 (fun k v5 v14 wr => ∃ (b : Nat) (ov : Value), ov = v5 ∧ v14 = .int .i64 b ∧ b ≤ nw0 ∧ k = nw0 - b ∧ wr.ownsRow w.heap.size 102 2 ov (edgesE ks W (fun k => k.pack.ahead) b).length (edgeRows (edgesE ks W (fun k => k.pack.ahead) b)) ∧ Below w.heap.size w wr)
  case atStart => exact ⟨0, _, rfl, rfl, Nat.zero_le _, rfl, World.ownsRow_nil _ _ _ _, Below.refl _ _⟩
  case round =>
    obtain ⟨b, ov, rfl, rfl, hb', hk, hown, hB⟩ := hrel
    have Hk := Lib.hid hk
    have Hown := Lib.hid hown
    clear hk hown
    by_cases hlt : b < nw0
    · obtain ⟨b1, o1, rfl, hb1, hc1⟩ := Hwcell.out.resolve_left (by omega)
      obtain ⟨y, hy⟩ : ∃ y, W.getD b 0 = y := ⟨_, rfl⟩
      have hym : y < m := by rw [← hy]; exact HWk.out _ (mem_getD_nat (by rw [Hwn.out]; exact hlt))
      have c1 : wr.cell? ⟨b1, o1 + b, none⟩ = some (.int .i64 ((y : Nat) : Int)) := (hB.cell (p := ⟨b1, o1 + b, none⟩) hb1).trans (by rw [hc1 b hlt, hy])
      have cl : wr.cell? ⟨Bl, 0, none⟩ = some (.slice a m cap) := (hB.cell (p := ⟨Bl, 0, none⟩) lBl).trans Hl.out
      obtain ⟨bp, op, rfl, hbp, hcp⟩ := Hcell.out.resolve_left (by omega)
      obtain ⟨q, hq⟩ : ∃ q, ks.getD y KnownD.none = q := ⟨_, rfl⟩
      have hkn := HO.out y hym
      have hmem : ks.getD y KnownD.none ∈ ks := mem_getD _ (by rw [Hm.out]; exact hym)
      rw [hq] at hkn hmem
      have HR0 : wr.rangeAt bp (op + y * 20) (row20 (R y)) := rangeAt_row20 fun j hj => (hB.cell (p := ⟨bp, op + y * 20 + j, none⟩) hbp).trans (hcp y j hym hj)
      have hat : atW ks W b = q := by unfold atW; rw [hy, hq]
      obtain ⟨s, e, u, r, hd, wl, tl, kp⟩ := q
      obtain ⟨fw, nw, qw, ft, nt, qt, f4, n4, q4, f5, n5, q5, f6, n6, q6, f7, n7, q7, f8, n8, q8, f9, n9, q9, f10, n10, q10, f11, n11, q11, fa, fn, fc, eR, hV, -, -⟩ := hkn.cells
      dsimp only at eR hV
      rw [eR] at HR0
      have HR7 := Lib.hid (rangeAt_at7 HR0)
      obtain ⟨xs, hxs⟩ : ∃ xs, kp.ahead = xs := ⟨_, rfl⟩
      have hLx : Lists w (.slice f5 n5 q5) xs := by rw [← hxs]; exact hV.ahead
      have hsm := (HF.out.small _ hmem).ahead
      dsimp only at hsm
      rw [hxs] at hsm
      have h40 := Hs40.out b
      rw [hat] at h40
      dsimp only at h40
      rw [hxs] at h40
      obtain ⟨V, hxn, hxc, hxm, hxcell, hxT⟩ := lists_at hLx
      have hE1 : edgesE ks W (fun k => k.pack.ahead) (b + 1) = edgesE ks W (fun k => k.pack.ahead) b ++ colE ks W b xs xs.length := by
        unfold edgesE
        rw [fm_succ, hat]
        dsimp only
        rw [hxs]
      have HE1 := Lib.hid hE1
      have Hxcell := Lib.hid hxcell
      have HxT := Lib.hid hxT
      have Hxn := Lib.hid hxn
      have Hsm := Lib.hid hsm
      have HWn : Hid (W.length = nw0) := Hwn.out
      have hx40 : n5 ≤ 40 := by omega
      have hLlen : (edgesE ks W (fun k => k.pack.ahead) b).length ≤ 16000 := edgesE_len (by rw [Hwn.out]; omega) (fun a => Hs40.out a) (by rw [Hwn.out]; omega)
      obtain ⟨L, hL⟩ : ∃ L, edgesE ks W (fun k => k.pack.ahead) b = L := ⟨_, rfl⟩
      have HL := Lib.hid hL
      have Hown0 : Hid (wr.ownsRow w.heap.size 102 2 ov (L).length (edgeRows (L))) := by have := Hown.out; rwa [hL] at this
      rw [hL] at hLlen
      clear hc1 hcp hq hkn hmem HR0 hat eR hV hxs hLx hsm h40 hxn hxcell hxT hE1 hL Hown
      have C0 := fun W => aheadOf_calls kp (.slice f4 n4 q4) (.slice f5 n5 q5) (.slice f6 n6 q6) (.slice f7 n7 q7) (.slice f8 n8 q8) (.slice f9 n9 q9) (.slice f10 n10 q10) (.slice f11 n11 q11) fa fn fc W ⟨_, _, _, rfl⟩
      have HC0 := Lib.hid C0
      clear C0
      go_wp2_with (refine wpList_load_mid (by rfl) 30 _ (by rfl) bp (op + y * 20 + 7) (by rfl) _ _ HR7.out Tryz.underlying30 (by rfl) (by kernel_rfl) ?_)
      refine (HC0.out _).mono ?_
      rintro e1 w1 ⟨rfl, hb2⟩
      have hB1 := hB.trans (hb2.mono hB.size)
      have Hown1 := Lib.hid (owns_below Hown0.out hb2)
      clear hb2 hB c1 cl Hown0
      obtain ⟨wo, rfl⟩ : ∃ wo : World, wo = wr := ⟨_, rfl⟩
      go_wp2_with fail
      go_loopg [5, 27] n5 (fun k v5 v27 wr => ∃ (j : Nat) (ov : Value), ov = v5 ∧ v27 = .int .i64 j ∧ j ≤ n5 ∧ k = n5 - j ∧ wr.ownsRow w.heap.size 102 2 ov (L ++ colE ks W b xs j).length (edgeRows (L ++ colE ks W b xs j)) ∧ Below w.heap.size w wr)
      case atStart => exact ⟨0, _, rfl, rfl, Nat.zero_le _, rfl, by have := Hown1.out; rw [show colE ks W b xs 0 = [] from rfl, List.append_nil]; exact this, hB1⟩
      case round =>
        clear hB1
        obtain ⟨j, ov2, rfl, rfl, hj', hk2, hown2, hB⟩ := hrel
        have Hk2 := Lib.hid hk2
        have Hown2 := Lib.hid hown2
        clear hk2 hown2
        by_cases hjl : j < n5
        · obtain ⟨b2, o2, rfl, hb2, hc2⟩ := Hxcell.out.resolve_left (by omega)
          have c2 : wr.cell? ⟨b2, o2 + j, none⟩ = some (V j) := (hB.cell (p := ⟨b2, o2 + j, none⟩) hb2).trans (hc2 j hjl)
          have cw' : wr.cell? ⟨Bw, 0, none⟩ = some (.slice (some ⟨b1, o1, none⟩) nw0 cw) := (hB.cell (p := ⟨Bw, 0, none⟩) lBw).trans Hcw.out
          obtain ⟨x, hx⟩ : ∃ x, xs.getD j [] = x := ⟨_, rfl⟩
          have hT := HxT.out j hjl
          have hxx : x ∈ xs := by rw [← hx]; exact mem_getD _ (by rw [Hxn.out]; exact hjl)
          rw [hx] at hT
          have HTx := Lib.hid hT
          have HSx := Lib.hid (Hsm.out x hxx)
          obtain ⟨av1, nv1, cv1, hVj⟩ := hT.1.slice
          rw [hVj] at c2
          have HTy : Hid (Terms w (.slice av1 nv1 cv1) x) := by have := HTx.out; rwa [hVj] at this
          have hC1 : colE ks W b xs (j + 1) = colE ks W b xs j ++ rowE ks W b x W.length := by
            unfold colE
            rw [fm_succ, hx]
          have HC1 := Lib.hid hC1
          have hCl : (L ++ colE ks W b xs j).length ≤ 16000 + 800 := by
            have h1 : ∀ b x m, (rowE ks W b x m).length ≤ m * 1 := fun b x m => fm_len _ _ 1 fun a _ => edgeIf_len _ _ _
            have h2 : (colE ks W b xs j).length ≤ j * (W.length * 1) := fm_len _ _ _ fun j _ => h1 _ _ _
            have h3 : j * (W.length * 1) ≤ 40 * (20 * 1) := Nat.mul_le_mul (by omega) (by rw [HWn.out]; omega)
            rw [List.length_append]
            omega
          obtain ⟨M, hM⟩ : ∃ M, L ++ colE ks W b xs j = M := ⟨_, rfl⟩
          have HM := Lib.hid hM
          have Hown3 : Hid (wr.ownsRow w.heap.size 102 2 ov2 (M).length (edgeRows (M))) := by have := Hown2.out; rwa [hM] at this
          rw [hM] at hCl
          have hB1 := hB
          clear hc2 hx hT hxx hVj hC1 hM Hown2 hB HTx
          obtain ⟨wp, rfl⟩ : ∃ wp : World, wp = wr := ⟨_, rfl⟩
          go_wp2_with fail
          go_loopg [5, 33] nw0 (fun k v5 v33 wr => ∃ (z : Nat) (ov : Value), ov = v5 ∧ v33 = .int .i64 z ∧ z ≤ nw0 ∧ k = nw0 - z ∧ wr.ownsRow w.heap.size 102 2 ov (M ++ rowE ks W b x z).length (edgeRows (M ++ rowE ks W b x z)) ∧ Below w.heap.size w wr)
          case atStart => exact ⟨0, _, rfl, rfl, Nat.zero_le _, rfl, by have := Hown3.out; rw [show rowE ks W b x 0 = [] from rfl, List.append_nil]; exact this, hB1⟩
          case round =>
            clear hB1
            obtain ⟨z, ov3, rfl, rfl, hz', hk3, hown4, hB⟩ := hrel
            have Hk3 := Lib.hid hk3
            have Hown4 := Lib.hid hown4
            clear hk3 hown4 c2 cw'
            by_cases hzl : z < nw0
            · obtain ⟨g, hg⟩ : ∃ g, W.getD z 0 = g := ⟨_, rfl⟩
              obtain ⟨b1', o1', hab, hb1', hc1'⟩ := Hwcell.out.resolve_left (by omega)
              obtain ⟨rfl, rfl⟩ : b1 = b1' ∧ o1 = o1' := by simpa using hab
              have hgm : g < m := by rw [← hg]; exact HWk.out _ (mem_getD_nat (by rw [Hwn.out]; exact hzl))
              have c3 : wr.cell? ⟨b1, o1 + z, none⟩ = some (.int .i64 ((g : Nat) : Int)) := (hB.cell (p := ⟨b1, o1 + z, none⟩) hb1).trans (by rw [hc1' z hzl, hg])
              obtain ⟨wx, hwx⟩ : ∃ wx : World, wx = wr.alloc (.cells #[.int .i64 ((g : Nat) : Int)] 3) := ⟨_, rfl⟩
              have hBx : Below w.heap.size w wx := by rw [hwx]; exact hB.alloc hB.size _
              have cg : wx.cell? ⟨wr.heap.size, 0, none⟩ = some (.int .i64 ((g : Nat) : Int)) := by rw [hwx]; simp [go_sem]
              have lgx : wr.heap.size < wx.heap.size := by rw [hwx]; simp
              have hlx : wx.cell? ⟨Bl, 0, none⟩ = some (.slice (some ⟨bp, op, none⟩) m cap) := (hBx.cell (p := ⟨Bl, 0, none⟩) lBl).trans Hl.out
              have hown5 : wx.ownsRow w.heap.size 102 2 ov3 (M ++ rowE ks W b x z).length (edgeRows (M ++ rowE ks W b x z)) := by rw [hwx]; exact Hown4.out.alloc _
              have Hown5 := Lib.hid hown5
              have CC : Hid (Calls Tryz.prog 46 #[.slice av1 nv1 cv1, .func (.func 47) #[] #[.pointer (some ⟨Bl, 0, none⟩), .pointer (some ⟨wr.heap.size, 0, none⟩)]] wx fun e w' => e = .returned (.bool (hitK (atW ks W z) x)) ∧ Below wx.heap.size wx w') := by
                refine (containsTerm_calls (.slice av1 nv1 cv1) x _ _ (fun t => bareB t (ks.getD g KnownD.none).bare) wx (HTy.out.below hBx (Nat.le_refl _)) enters_hit ?_).mono ?_
                · intro t ht w2 hb2
                  have hb3 := hBx.trans (hb2.mono hBx.size)
                  have lBx : Bl < wx.heap.size := Nat.lt_of_lt_of_le lBl hBx.size
                  exact hit_calls t g ks (.slice (some ⟨bp, op, none⟩) m cap) Bl wr.heap.size w2 ((hb2.cell (p := ⟨Bl, 0, none⟩) lBx).trans hlx) ((hb2.cell (p := ⟨wr.heap.size, 0, none⟩) lgx).trans cg) (HK.out.below hb3 (Nat.le_refl _)) (by rw [Hm.out]; exact hgm) HF.out (HSx.out t ht)
                · rintro e w' ⟨rfl, hb⟩
                  refine ⟨?_, hb⟩
                  unfold hitK atW
                  rw [hg]
              have hR1 : rowE ks W b x (z + 1) = rowE ks W b x z ++ edgeIf (hitK (atW ks W z) x) z b := by
                unfold rowE
                rw [fm_succ]
              have HR1 := Lib.hid hR1
              have hRl : (M ++ rowE ks W b x z).length ≤ 16000 + 800 + 20 := by
                have h2 : (rowE ks W b x z).length ≤ z * 1 := fm_len _ _ _ fun a _ => edgeIf_len _ _ _
                rw [List.length_append]
                omega
              obtain ⟨N, hN⟩ : ∃ N, M ++ rowE ks W b x z = N := ⟨_, rfl⟩
              have HN : Hid (M ++ rowE ks W b x (z + 1) = N ++ edgeIf (hitK (atW ks W z) x) z b) := by show _ = _; rw [HR1.out, ← List.append_assoc, hN]
              have Hown6 : Hid (wx.ownsRow w.heap.size 102 2 ov3 (N).length (edgeRows (N))) := by have := Hown5.out; rwa [hN] at this
              rw [hN] at hRl
              have HBx := Lib.hid hBx
              have Hwx := Lib.hid hwx
              clear hg hab hc1' hwx hBx hown5 hR1 hN Hown5 Hown4
              obtain ⟨h0, hh0⟩ : ∃ h0, hitK (atW ks W z) x = h0 := ⟨_, rfl⟩
              rw [hh0] at CC HN
              clear hh0
              cases h0
              · go_wp2_with fail
                rw [show wr.alloc (.cells _ _) = wx from Hwx.out.symm]
                go_wp2_with fail
                refine CC.out.mono ?_
                rintro e2 w2 ⟨rfl, hb2⟩
                have hB2 := HBx.out.trans (hb2.mono HBx.out.size)
                have Hown7 : Hid (w2.ownsRow w.heap.size 102 2 ov3 (M ++ rowE ks W b x (z + 1)).length (edgeRows (M ++ rowE ks W b x (z + 1)))) := by
                  show World.ownsRow _ _ _ _ _ _ _
                  rw [HN.out]
                  exact owns_below (by have := Hown6.out; rwa [show N ++ edgeIf false z b = N from List.append_nil N]) hb2
                clear hb2 c3 cg hlx CC
                go_wp2_with fail
                go_roundg (nw0 - (z + 1))
                case rel => exact ⟨z + 1, _, rfl, by go_num, by omega, rfl, Hown7.out, hB2⟩
                case measure => have := Hk3.out; omega
              · go_wp2_with fail
                rw [show wr.alloc (.cells _ _) = wx from Hwx.out.symm]
                go_wp2_with fail
                refine CC.out.mono ?_
                rintro e2 w2 ⟨rfl, hb2⟩
                have hB2 := HBx.out.trans (hb2.mono HBx.out.size)
                have Hown7 : Hid (w2.ownsRow w.heap.size 102 2 ov3 (N).length (edgeRows (N))) := owns_below Hown6.out hb2
                have hsz2 : w.heap.size ≤ w2.heap.size := hB2.size
                clear hb2 c3 cg hlx CC
                go_wp2_with (at_builtin; refine wpList_append_own _ rfl _ _ 95 rfl w.heap.size 102 i0 _ 2 16 Tryz.underlying95 Hi0.out.1 Hi0.out.2.1 Hi0.out.2.2.1 Hi0.out.2.2.2 rfl (by decide) ov3 N.length (edgeRows N) rfl (Hown7.out.alloc _) ⟨w2.heap.size, 0, none⟩ 1 1 [.int .i64 ((z : Nat) : Int), .int .i64 ((b : Nat) : Int)] rfl rfl (World.news_of_block (cs := #[.int .i64 ((z : Nat) : Int), .int .i64 ((b : Nat) : Int)]) (t := 102) (fr := (0, 0)) (heap_alloc_new w2 _)) (by simp [Value.oneCell']) (by unfold maxLen; omega) (by omega) (by simp; omega) ?_)
                intro v' w' hown8 hgrow _
                have hB3 : Below w.heap.size w w' := (hB2.alloc hB2.size _).grown hgrow (by simp; have := hB2.size; omega) (fun k e => (Hown7.out.lt _ e).1)
                have Hown8 : Hid (w'.ownsRow w.heap.size 102 2 v' (M ++ rowE ks W b x (z + 1)).length (edgeRows (M ++ rowE ks W b x (z + 1)))) := by
                  show World.ownsRow _ _ _ _ _ _ _
                  rw [HN.out, edgeRows_if, List.length_append]
                  exact hown8
                clear hown8 hgrow hB2
                go_wp2_with fail
                go_roundg (nw0 - (z + 1))
                case rel => exact ⟨z + 1, _, rfl, by go_num, by omega, rfl, Hown8.out, hB3⟩
                case measure => have := Hk3.out; omega
            · obtain rfl : nw0 = z := by omega
              have Hown5 : Hid (wr.ownsRow w.heap.size 102 2 ov3 (L ++ colE ks W b xs (j + 1)).length (edgeRows (L ++ colE ks W b xs (j + 1)))) := by
                show World.ownsRow _ _ _ _ _ _ _
                have := Hown4.out
                rwa [HC1.out, HWn.out, ← List.append_assoc, HM.out]
              go_wp2_with fail
              go_roundg (n5 - (j + 1))
              case rel => exact ⟨j + 1, _, rfl, by go_num, by omega, rfl, Hown5.out, hB⟩
              case measure => have := Hk2.out; omega
        · obtain rfl : n5 = j := by omega
          have Hown5 : Hid (wr.ownsRow w.heap.size 102 2 ov2 (edgesE ks W (fun k => k.pack.ahead) (b + 1)).length (edgeRows (edgesE ks W (fun k => k.pack.ahead) (b + 1)))) := by
            show World.ownsRow _ _ _ _ _ _ _
            have := Hown2.out
            rwa [HE1.out, HL.out, Hxn.out]
          go_wp2_with fail
          go_roundg (nw0 - (b + 1))
          case rel => exact ⟨b + 1, _, rfl, by go_num, by omega, rfl, Hown5.out, hB⟩
          case measure => have := Hk.out; omega
    · obtain rfl : nw0 = b := by omega
      have HE : Hid (Edges wr ov (edgesE ks W (fun k => k.pack.ahead) W.length)) := by
        have := edges_owned Hown.out
        rwa [Hwn.out]
      go_wp2_with fail
      go_ret
      exact ⟨_, rfl, HE.out, hB⟩
end Go.Proofs.YtnfnebfioibndaaGreatDoor
