/- check.Line: in which order those that are about to may do what they are there for. · The document's Bare, the variable Fine, a result that lies in a variable: on this seat XFit has them. · stevedoreref.edges: what is wrong with edges. -/
import Derived.Test.YtnfnebfioibndaaGreatDoorM28
import Derived.Test.YtnfnebfioibndaaGreatDoorM15
import Derived.Test.YtnfnebfioibndaaGreatDoorM11
import Derived.Test.YtnfnebfioibndaaGreatDoorM17
namespace Go.Proofs.YtnfnebfioibndaaGreatDoor
open Go.RowKit
set_option maxRecDepth 100000
set_option maxHeartbeats 4000000

def castN (xs : List Nat) : List Int := xs.map fun x => ((x : Nat) : Int)
def CheckLineR (w : World) (ks : List KnownD) (e : Ending) (w' : World) : Prop :=
  ∃ (ov : Value) (xs : List Nat), e = .returned ov ∧ LineK ks (whichK ks ks.length) xs ∧ Ints w' ov (castN (xs.map fun x => (whichK ks ks.length).getD x 0)) ∧ Below w.heap.size w w'
structure FortyK (ks : List KnownD) : Prop where
  dep : ∀ k ∈ ks, k.pack.depends.length ≤ 40
  ah : ∀ k ∈ ks, k.pack.ahead.length ≤ 40
theorem FortyK.dep' {ks : List KnownD} (h : FortyK ks) (W : List Nat) (a : Nat) : (atW ks W a).pack.depends.length ≤ 40 := by
  unfold atW
  rcases Nat.lt_or_ge (W.getD a 0) ks.length with hl | hl
  · exact h.dep _ (mem_getD _ hl)
  · have e : ks[W.getD a 0]? = none := List.getElem?_eq_none hl
    rw [show ks.getD (W.getD a 0) KnownD.none = KnownD.none by show (ks[W.getD a 0]?).getD _ = _; rw [e]; rfl]
    exact Nat.zero_le _
theorem FortyK.ah' {ks : List KnownD} (h : FortyK ks) (W : List Nat) (a : Nat) : (atW ks W a).pack.ahead.length ≤ 40 := by
  unfold atW
  rcases Nat.lt_or_ge (W.getD a 0) ks.length with hl | hl
  · exact h.ah _ (mem_getD _ hl)
  · have e : ks[W.getD a 0]? = none := List.getElem?_eq_none hl
    rw [show ks.getD (W.getD a 0) KnownD.none = KnownD.none by show (ks[W.getD a 0]?).getD _ = _; rw [e]; rfl]
    exact Nat.zero_le _
theorem castN_snoc (xs : List Nat) (x : Nat) : castN (xs ++ [x]) = castN xs ++ [((x : Nat) : Int)] := by simp [castN]
theorem castN_len (xs : List Nat) : (castN xs).length = xs.length := by simp [castN]
theorem map_take_snoc {α : Type} (f : Nat → α) {xs : List Nat} {i : Nat} (h : i < xs.length) : (xs.take (i + 1)).map f = (xs.take i).map f ++ [f (xs.getD i 0)] := by
  rw [take_snoc' 0 h, List.map_append]
  rfl
theorem castN_rows (xs : List Int) (x : Int) : (xs ++ [x]).map (Value.int .i64) = xs.map (Value.int .i64) ++ [.int .i64 x] := by simp

theorem checkLine_calls (kv : Value) (ks : List KnownD) (w : World) (hK : Knowns w kv ks) (hF : FitK ks) (h40 : FortyK ks) (hT : TabA w) :
    Calls Tryz.prog 15 #[kv] w (CheckLineR w ks) := by
  have HK00 := Lib.hid hK
  obtain ⟨R, ⟨a, cap, rfl, hcap, hmax, hcell⟩, hO⟩ := hK
  unfold maxLen at hmax
  obtain ⟨m, hm⟩ : ∃ m, ks.length = m := ⟨_, rfl⟩
  have hm20 := hF.len
  rw [hm] at hcap hcell hO hm20 ⊢
  have HK : Hid (Knowns w (.slice a m cap) ks) := by have := HK00; rwa [hm] at this
  obtain ⟨i1, hi1, hy0, hy1, hy2⟩ := info_parts info_int
  have Hi1 := Lib.hid (And.intro hi1 (And.intro hy0 (And.intro hy1 hy2)))
  obtain ⟨w0, hw0⟩ : ∃ w0 : World, w0 = (w.alloc (.cells #[.slice a m cap] 32)).alloc (.cells #[.slice none 0 0] 31) := ⟨_, rfl⟩
  obtain ⟨Bw, hBw⟩ : ∃ Bw, w.heap.size + 1 = Bw := ⟨_, rfl⟩
  have hB0 : Below w.heap.size w w0 := by rw [hw0]; go_grown
  have hzw : w0.heap.size = w.heap.size + 2 := by rw [hw0]; simp
  have hl0 : w0.cell? ⟨w.heap.size, 0, none⟩ = some (.slice a m cap) := by rw [hw0]; simp [go_sem]
  have hbx : GoneW Bw w0 Bw (.slice none 0 0) (castN (whichK ks 0)) := by
    refine ⟨?_, World.ownsRow_nil _ _ _ _⟩
    rw [hw0, ← hBw]
    have := heap_alloc_new (w.alloc (.cells #[.slice a m cap] 32)) (.cells #[.slice none 0 0] 31)
    simpa using this
  have Hcell := Lib.hid hcell
  have HO := Lib.hid hO
  have HT := Lib.hid hT
  have Hl0 := Lib.hid hl0
  have Hbx := Lib.hid hbx
  have HB0 := Lib.hid hB0
  have Hw0 := Lib.hid hw0
  have HF := Lib.hid hF
  have H40 := Lib.hid h40
  have Hm := Lib.hid hm
  have HBw := Lib.hid hBw
  have hBw0 : Bw < w0.heap.size := by omega
  have hlBw : w.heap.size < Bw := by omega
  clear hcell hO hm hi1 hy0 hy1 hy2 hl0 hbx hB0 hw0 hF HK00 hT h40
  go_enter Tryz.func15, Tryz.ntmps15
  go_wp2_with fail
  rw [show (w.alloc (.cells #[.slice a m cap] 32)).alloc (.cells #[.slice none 0 0] 31) = w0 from Hw0.out.symm]
  clear hBw hzw
  go_loopg [14] m (fun k v14 wr => ∃ (i : Nat) (gv : Value), v14 = .int .i64 i ∧ i ≤ m ∧ k = m - i ∧ GoneW Bw wr Bw gv (castN (whichK ks i)) ∧ Below Bw w0 wr)
  case atStart => exact ⟨0, _, rfl, Nat.zero_le _, rfl, Hbx.out, Below.refl _ _⟩
  case round =>
    clear Hbx
    obtain ⟨i, gv, rfl, hi, hk, hW, hBB⟩ := hrel
    have Hk := Lib.hid hk
    have HW := Lib.hid hW
    have HBB := Lib.hid hBB
    have hB : Below w.heap.size w wr := HB0.out.trans (hBB.mono (Nat.le_of_lt hlBw))
    have hBwr := hW.lt
    clear hk hW hBB
    by_cases hlt : i < m
    · obtain ⟨bp, op, rfl, hbp, hcp⟩ := Hcell.out.resolve_left (by omega)
      obtain ⟨q, hq⟩ : ∃ q, ks.getD i KnownD.none = q := ⟨_, rfl⟩
      have hkn := HO.out i hlt
      rw [hq] at hkn
      have HR0 : wr.rangeAt bp (op + i * 20) (row20 (R i)) := rangeAt_row20 fun j hj => (hB.cell (p := ⟨bp, op + i * 20 + j, none⟩) hbp).trans (hcp i j hlt hj)
      obtain ⟨s, e, u, r, hd, wl, tl, kp⟩ := q
      obtain ⟨fw, nw, qw, ft, nt, qt, f4, n4, q4, f5, n5, q5, f6, n6, q6, f7, n7, q7, f8, n8, q8, f9, n9, q9, f10, n10, q10, f11, n11, q11, fa, fn, fc, eR, hV, -, -⟩ := hkn.cells
      dsimp only at eR hV
      rw [eR] at HR0
      have HR := Lib.hid HR0
      have Hq := Lib.hid hq
      obtain ⟨wt, hwt⟩ : ∃ wt : World, wt = wr.alloc (.cells #[.int .i64 s, .int .i64 e, .string u, .string r, .bool hd, .slice fw nw qw, .slice ft nt qt, .string kp.name, .int .i64 kp.ep, .string kp.up, .string kp.rv, .slice f4 n4 q4, .slice f5 n5 q5, .slice f6 n6 q6, .slice f7 n7 q7, .slice f8 n8 q8, .slice f9 n9 q9, .slice f10 n10 q10, .slice f11 n11 q11, .slice fa fn fc] 61) := ⟨_, rfl⟩
      have hbt : Below wr.heap.size wr wt := by rw [hwt]; exact (Below.refl _ _).alloc (Nat.le_refl _) _
      have hRn : wt.rangeAt wr.heap.size 0 [.int .i64 s, .int .i64 e, .string u, .string r, .bool hd, .slice fw nw qw, .slice ft nt qt, .string kp.name, .int .i64 kp.ep, .string kp.up, .string kp.rv, .slice f4 n4 q4, .slice f5 n5 q5, .slice f6 n6 q6, .slice f7 n7 q7, .slice f8 n8 q8, .slice f9 n9 q9, .slice f10 n10 q10, .slice f11 n11 q11, .slice fa fn fc] := by rw [hwt]; exact rangeAt_new _ _ _
      have g0 : wt.cell? ⟨wr.heap.size, 0, none⟩ = some (.int .i64 s) := hRn 0 _ rfl
      have hlt2 : wr.heap.size < wt.heap.size := by rw [hwt]; simp
      have hszr := hB.size
      have Hwt := Lib.hid hwt
      have Hbt := Lib.hid hbt
      have MAY := Lib.hid (may_calls s 3 wt (HT.out.below (hB.trans (hbt.mono hB.size))))
      clear HR0 eR hV hkn hcp hq hwt hbt hRn
      cases hmk : mayK ⟨s, e, u, r, hd, wl, tl, kp⟩
      · have HWN : Hid (whichK ks (i + 1) = whichK ks i) := whichK_no (by rw [Hq.out]; exact hmk)
        have hmk' : (nextE s 3 == 0) = false := hmk
        rw [hmk'] at MAY
        clear hmk hmk'
        go_wp2_with (first
          | (refine wpList_load_mid (by rfl) 61 _ (by rfl) bp (op + i * 20) (by rfl) _ _ HR.out Tryz.underlying61 (by rfl) (by kernel_rfl) ?_)
          | (refine wpList_store_mid (by rfl) 61 _ _ (by rfl) wr.heap.size 0 #[.int .i64 s, .int .i64 e, .string u, .string r, .bool hd, .slice fw nw qw, .slice ft nt qt, .string kp.name, .int .i64 kp.ep, .string kp.up, .string kp.rv, .slice f4 n4 q4, .slice f5 n5 q5, .slice f6 n6 q6, .slice f7 n7 q7, .slice f8 n8 q8, .slice f9 n9 q9, .slice f10 n10 q10, .slice f11 n11 q11, .slice fa fn fc] (by rfl) (by rfl) (there_new _ _ _ _ (by rfl)) (by kernel_rfl) (by simp [Value.oneCell']) ?_; rw [setCells_new _ _ _ _ (by rfl)]; rw [show wr.alloc (.cells _ _) = wt from Hwt.out.symm]))
        refine MAY.out.mono ?_
        rintro e1 w1 ⟨rfl, rfl⟩
        have HW1 := Lib.hid (HW.out.below Hbt.out)
        rw [← HWN.out] at HW1
        have HB1 := Lib.hid (HBB.out.trans (Hbt.out.mono (Nat.le_of_lt hBwr)))
        clear g0 MAY
        go_wp2_with fail
        go_roundg (m - (i + 1))
        case rel => exact ⟨i + 1, gv, by go_num, by omega, rfl, HW1.out, HB1.out⟩
        case measure => have := Hk.out; omega
      · have HWN : Hid (whichK ks (i + 1) = whichK ks i ++ [i]) := whichK_yes (by rw [Hq.out]; exact hmk)
        have hmk' : (nextE s 3 == 0) = true := hmk
        rw [hmk'] at MAY
        clear hmk hmk'
        go_wp2_with (first
          | (refine wpList_load_mid (by rfl) 61 _ (by rfl) bp (op + i * 20) (by rfl) _ _ HR.out Tryz.underlying61 (by rfl) (by kernel_rfl) ?_)
          | (refine wpList_store_mid (by rfl) 61 _ _ (by rfl) wr.heap.size 0 #[.int .i64 s, .int .i64 e, .string u, .string r, .bool hd, .slice fw nw qw, .slice ft nt qt, .string kp.name, .int .i64 kp.ep, .string kp.up, .string kp.rv, .slice f4 n4 q4, .slice f5 n5 q5, .slice f6 n6 q6, .slice f7 n7 q7, .slice f8 n8 q8, .slice f9 n9 q9, .slice f10 n10 q10, .slice f11 n11 q11, .slice fa fn fc] (by rfl) (by rfl) (there_new _ _ _ _ (by rfl)) (by kernel_rfl) (by simp [Value.oneCell']) ?_; rw [setCells_new _ _ _ _ (by rfl)]; rw [show wr.alloc (.cells _ _) = wt from Hwt.out.symm]))
        refine MAY.out.mono ?_
        rintro e1 w1 ⟨rfl, rfl⟩
        obtain ⟨wt2, rfl⟩ : ∃ wt2 : World, wt2 = wt := ⟨_, rfl⟩
        have HW1 := Lib.hid (HW.out.below Hbt.out)
        have HB1 := Lib.hid (HBB.out.trans (Hbt.out.mono (Nat.le_of_lt hBwr)))
        have cg := HW1.out.cell
        have fg := HW1.out.free
        have hg1 := HW1.out.lt
        have hs1 : Bw ≤ wt2.heap.size := Nat.le_of_lt HW1.out.lt
        obtain ⟨ga, gn, gc, rfl⟩ := HW1.out.ints.1.slice
        have hgn : (castN (whichK ks i)).length = gn := by
          obtain ⟨a', c', e', -⟩ := HW1.out.ints.1
          injection e' with _ e' _
          exact e'.symm
        have hgn20 : gn ≤ 20 := by
          have := whichK_len ks i
          rw [← hgn, castN_len]
          omega
        have Hgn := Lib.hid hgn
        have Hrow1 : Hid (wt2.ownsRow Bw 3 1 (.slice ga gn gc) gn ((castN (whichK ks i)).map (Value.int .i64))) := by have := HW1.out.row; rwa [hgn] at this
        clear g0 MAY hgn
        go_wp2_with (at_builtin; refine wpList_append_own _ rfl _ _ 31 rfl Bw 3 i1 _ 1 8 Tryz.underlying31 Hi1.out.1 Hi1.out.2.1 Hi1.out.2.2.1 Hi1.out.2.2.2 rfl (by decide) (.slice ga gn gc) gn ((castN (whichK ks i)).map (Value.int .i64)) rfl (Hrow1.out.alloc _) ⟨wt2.heap.size, 0, none⟩ 1 1 [.int .i64 ((i : Nat) : Int)] rfl rfl (World.news_of_block (cs := #[.int .i64 ((i : Nat) : Int)]) (t := 3) (fr := (0, 0)) (heap_alloc_new wt2 _)) (by simp [Value.oneCell']) (by unfold maxLen; omega) (by omega) (by simp; omega) ?_)
        intro v6 w' hown6 hgrow _
        obtain ⟨g6, c6, rfl, -, -⟩ := hown6.form (by omega)
        have hWn : GoneW Bw (w'.setCell ⟨Bw, 0, none⟩ (.slice (some ⟨g6, 0, none⟩) (gn + 1) c6)) Bw (.slice (some ⟨g6, 0, none⟩) (gn + 1) c6) (castN (whichK ks i) ++ [((i : Nat) : Int)]) := by
          refine HW1.out.push ((Below.refl _ _).alloc (Nat.le_refl _) _) ?_ hgrow
          rw [List.map_append, List.length_append, Hgn.out]
          exact hown6
        rw [← castN_snoc, ← HWN.out] at hWn
        have HWn := Lib.hid hWn
        have HBn : Hid (Below Bw w0 (w'.setCell ⟨Bw, 0, none⟩ (.slice (some ⟨g6, 0, none⟩) (gn + 1) c6))) := ((HB1.out.alloc hs1 _).grown hgrow (by simp; omega) (fun k e => (Hrow1.out.lt _ e).1)).setCell (Nat.le_refl _) _
        have hcg' : w'.cell? ⟨Bw, 0, none⟩ = some (.slice ga gn gc) := by
          have h1 := HW1.out.below ((Below.refl wt2.heap.size wt2).alloc (Nat.le_refl _) (.cells #[.int .i64 ((i : Nat) : Int)] 3))
          rw [hgrow.cell_far ⟨Bw, 0, none⟩ h1.lt (fun e => h1.ne e.symm)]
          exact h1.cell
        have hfg' : w'.frozen? ⟨Bw, 0, none⟩ = false := by
          have h1 := HW1.out.below ((Below.refl wt2.heap.size wt2).alloc (Nat.le_refl _) (.cells #[.int .i64 ((i : Nat) : Int)] 3))
          rw [hgrow.frozen_far ⟨Bw, 0, none⟩ h1.lt (fun e => h1.ne e.symm)]
          exact h1.free
        have hBl' : Bw < w'.heap.size := by have := hgrow.size; simp at this; omega
        clear hown6 hgrow hWn cg fg hg1
        go_wp2_with fail
        go_roundg (m - (i + 1))
        case rel => exact ⟨i + 1, _, by go_num, by omega, rfl, HWn.out, HBn.out⟩
        case measure => have := Hk.out; omega
    · obtain rfl : m = i := by omega
      obtain ⟨wq, rfl⟩ : ∃ wq : World, wq = wr := ⟨_, rfl⟩
      obtain ⟨W, hWW⟩ : ∃ W, whichK ks m = W := ⟨_, rfl⟩
      obtain ⟨wa, n0, wc, rfl⟩ := HW.out.ints.1.slice
      have hIW := HW.out.ints
      rw [hWW] at HW hIW
      obtain ⟨n, hn⟩ : ∃ n, W.length = n := ⟨_, rfl⟩
      obtain rfl : n = n0 := by
        obtain ⟨a', c', e', -⟩ := hIW.1
        injection e' with _ e' _
        rw [castN_len, hn] at e'
        exact e'.symm
      have HWr := Lib.hid (row_of_ints hIW)
      have HWlt : Hid (∀ x ∈ W, x < ks.length) := fun x hx => by rw [← hWW, ] at hx; rw [Hm.out]; exact whichK_lt hx
      have hnm : n ≤ m := by
        have := whichK_len ks m
        rw [hWW, hn] at this
        exact this
      have HW20 : Hid (W.length ≤ 20) := by show W.length ≤ 20; omega
      have HKq := Lib.hid (HK.out.below hB (Nat.le_refl _))
      have HH : Hid (∀ w', Below wq.heap.size wq w' → w'.cell? ⟨Bw, 0, none⟩ = some (.slice wa n wc)) := fun w' hb => (hb.cell (p := ⟨Bw, 0, none⟩) hBwr).trans HW.out.cell
      have HLc : Hid (∀ w', Below wq.heap.size wq w' → w'.cell? ⟨w.heap.size, 0, none⟩ = some (.slice a m cap)) := fun w' hb => (hb.cell (p := ⟨w.heap.size, 0, none⟩) (Nat.lt_trans hlBw hBwr)).trans ((HBB.out.cell (p := ⟨w.heap.size, 0, none⟩) hlBw).trans Hl0.out)
      have hBr : Below wq.heap.size wq wq := Below.refl _ _
      have HS0 : Hid ((fun w' => Below wq.heap.size wq w' ∧ w'.cell? ⟨Bw, 0, none⟩ = some (.slice wa n wc)) wq.drew) := ⟨hBr.drew, HH.out _ hBr.drew⟩
      have HL5 : Hid ((edgesE ks W (fun k => k.pack.depends) W.length).length ≤ 50000) := by have := edgesE_len (ks := ks) (sel := fun k => k.pack.depends) HW20.out (H40.out.dep' W) (Nat.le_refl W.length); show _ ≤ _; omega
      have HL6 : Hid ((edgesE ks W (fun k => k.pack.ahead) W.length).length ≤ 50000) := by have := edgesE_len (ks := ks) (sel := fun k => k.pack.ahead) HW20.out (H40.out.ah' W) (Nat.le_refl W.length); show _ ≤ _; omega
      have HLR : Hid (lineR ((n : Nat) : Int) (edgesE ks W (fun k => k.pack.depends) W.length) (edgesE ks W (fun k => k.pack.ahead) W.length) = (0, -1)) := by
        show _ = _
        unfold lineR
        rw [← hn, if_pos (edgesE_right HW20.out)]
        exact edgesE_right HW20.out
      have Hn := Lib.hid hn
      have HWW := Lib.hid hWW
      have HBq := Lib.hid hB
      clear hIW hWW hn hB hBr Hk
      go_wp2_with fail
      refine wp_region_held_drew (S := (fun w' => Below wq.heap.size wq w' ∧ w'.cell? ⟨Bw, 0, none⟩ = some (.slice wa n wc))) (by kernel_rfl) ?_ (fun hHeld => ?_)
      · exact HS0.out
      refine wpAnyH_take (i := 0) (oi := _) (v := .slice wa n wc) rfl (by kernel_rfl) (by kernel_rfl) (by kernel_rfl) (fun _ _ _ h => h) (Or.inl ⟨by kernel_rfl, fun w hSw => ?_⟩) hHeld ?_
      · (try dsimp only at hSw); go_simp
      try simp only [Act.put, List.getElem_toArray, List.getElem_cons_succ, List.getElem_cons_zero, List.setIfInBounds_toArray, List.set_cons_zero, List.set_cons_succ]
      refine wpAnyH_take (i := 1) (oi := _) (v := .int .i64 ((n : Nat) : Int)) rfl (by kernel_rfl) (by kernel_rfl) (by kernel_rfl) (fun _ _ _ h => h) (Or.inl ⟨by kernel_rfl, fun w hSw => ?_⟩) hHeld ?_
      · (try dsimp only at hSw); go_simp
      try simp only [Act.put, List.getElem_toArray, List.getElem_cons_succ, List.getElem_cons_zero, List.setIfInBounds_toArray, List.set_cons_zero, List.set_cons_succ]
      refine wpAnyH_take (i := 2) (oi := _) (v := .func (.func 45) #[] #[.pointer (some ⟨Bw, 0, none⟩), .pointer (some ⟨w.heap.size, 0, none⟩)]) rfl (by kernel_rfl) (by kernel_rfl) (by kernel_rfl) (fun _ _ _ h => h) (Or.inl ⟨by kernel_rfl, fun w hSw => ?_⟩) hHeld ?_
      · (try dsimp only at hSw); go_simp
      try simp only [Act.put, List.getElem_toArray, List.getElem_cons_succ, List.getElem_cons_zero, List.setIfInBounds_toArray, List.set_cons_zero, List.set_cons_succ]
      refine wpAnyH_take (i := 4) (oi := _) (v := .func (.func 45) #[] #[.pointer (some ⟨Bw, 0, none⟩), .pointer (some ⟨w.heap.size, 0, none⟩)]) rfl (by kernel_rfl) (by kernel_rfl) (by kernel_rfl) (fun _ _ _ h => h) (Or.inl ⟨by kernel_rfl, fun w hSw => ?_⟩) hHeld ?_
      · (try dsimp only at hSw); go_simp
      try simp only [Act.put, List.getElem_toArray, List.getElem_cons_succ, List.getElem_cons_zero, List.setIfInBounds_toArray, List.set_cons_zero, List.set_cons_succ]
      refine wpAnyH_ready (rs := [3]) (by kernel_rfl) (by simp) ?_
      refine AllReadyH.cons (o := _) rfl (fun K hK => ?_) AllReadyH.nil
      go_simp
      refine (edges2_calls ks W (.slice a m cap) (.slice wa n wc) Bw w.heap.size _ (HH.out _ hHeld.1) (HLc.out _ hHeld.1) (HWr.out.below hHeld.1 (Nat.le_refl _)) (HKq.out.below hHeld.1 (Nat.le_refl _)) HF.out HWlt.out HW20.out (H40.out.dep' W)).mono ?_
      rintro e5 w5 ⟨v5, rfl, hE5, hb5⟩
      obtain ⟨a5, m5, c5, rfl⟩ : ∃ a m c, v5 = .slice a m c := by
        obtain ⟨a, c, e, _⟩ := hE5
        exact ⟨_, _, _, e⟩
      have HE5 := Lib.hid hE5
      clear hE5
      refine hK.out _ _ (held_next HH.out hHeld.1 hb5) (fun hHeld2 => ?_)
      clear hK K
      clear hb5
      have hHeld3 := hHeld2
      clear hHeld hHeld2
      have hHeld := hHeld3
      clear hHeld3
      try simp only [Act.put, List.getElem_toArray, List.getElem_cons_succ, List.getElem_cons_zero, List.setIfInBounds_toArray, List.set_cons_zero, List.set_cons_succ]
      refine wpAnyH_ready (rs := [5]) (by kernel_rfl) (by simp) ?_
      refine AllReadyH.cons (o := _) rfl (fun K hK => ?_) AllReadyH.nil
      go_simp
      refine (edges3_calls ks W (.slice a m cap) (.slice wa n wc) Bw w.heap.size _ (HH.out _ hHeld.1) (HLc.out _ hHeld.1) (HWr.out.below hHeld.1 (Nat.le_refl _)) (HKq.out.below hHeld.1 (Nat.le_refl _)) HF.out HWlt.out HW20.out (H40.out.ah' W)).mono ?_
      rintro e6 w6 ⟨v6, rfl, hE6, hb6⟩
      obtain ⟨a6, m6, c6, rfl⟩ : ∃ a m c, v6 = .slice a m c := by
        obtain ⟨a, c, e, _⟩ := hE6
        exact ⟨_, _, _, e⟩
      have HE6 := Lib.hid hE6
      have HE56 := Lib.hid (HE5.out.below hb6 (Nat.le_refl _))
      clear hE6
      refine hK.out _ _ (held_next HH.out hHeld.1 hb6) (fun hHeld2 => ?_)
      clear hK K
      clear hb6
      have hHeld3 := hHeld2
      clear hHeld hHeld2
      have hHeld := hHeld3
      clear hHeld3
      try simp only [Act.put, List.getElem_toArray, List.getElem_cons_succ, List.getElem_cons_zero, List.setIfInBounds_toArray, List.set_cons_zero, List.set_cons_succ]
      refine wpAnyH_ready (rs := [6]) (by kernel_rfl) (by simp) ?_
      refine AllReadyH.cons (o := _) rfl (fun K hK => ?_) AllReadyH.nil
      go_simp
      go_at_call 49
      refine (line_calls (.slice a5 m5 c5) (.slice a6 m6 c6) _ _ ((n : Nat) : Int) _ HE56.out HE6.out HL5.out HL6.out).mono ?_
      rintro e7 w7 ⟨lv, ev, xs, rfl, hEv, hR7, -, hg7, hb7⟩
      obtain rfl : ev = .nilIface := hEv.fine HLR.out
      obtain ⟨la, ln0, lc, rfl⟩ : ∃ a m c, lv = .slice a m c := by
        obtain ⟨a, c, e, _⟩ := hR7
        exact ⟨_, _, _, e⟩
      have HR7 := Lib.hid hR7
      have HG7 := Lib.hid (hg7 HLR.out n rfl)
      refine hK.out _ _ (held_next HH.out hHeld.1 hb7) (fun hHeld2 => ?_)
      clear hK K hEv hR7 hg7 hb7 hHeld
      have hHeld := hHeld2
      clear hHeld2
      try simp only [Act.put, List.getElem_toArray, List.getElem_cons_succ, List.getElem_cons_zero, List.setIfInBounds_toArray, List.set_cons_zero, List.set_cons_succ]
      refine wpAnyH_take (i := 7) (oi := _) (v := .tuple #[.slice la ln0 lc, .nilIface]) rfl (by kernel_rfl) (by kernel_rfl) (by kernel_rfl) (fun _ _ _ h => h) (Or.inl ⟨by kernel_rfl, fun w hSw => ?_⟩) hHeld ?_
      · (try dsimp only at hSw); go_simp
      try simp only [Act.put, List.getElem_toArray, List.getElem_cons_succ, List.getElem_cons_zero, List.setIfInBounds_toArray, List.set_cons_zero, List.set_cons_succ]
      refine wpAnyH_take (i := 8) (oi := _) (v := .slice la ln0 lc) rfl (by kernel_rfl) (by kernel_rfl) (by kernel_rfl) (fun _ _ _ h => h) (Or.inl ⟨by kernel_rfl, fun w hSw => ?_⟩) hHeld ?_
      · (try dsimp only at hSw); go_simp
      try simp only [Act.put, List.getElem_toArray, List.getElem_cons_succ, List.getElem_cons_zero, List.setIfInBounds_toArray, List.set_cons_zero, List.set_cons_succ]
      refine wpAnyH_take (i := 9) (oi := _) (v := .nilIface) rfl (by kernel_rfl) (by kernel_rfl) (by kernel_rfl) (fun _ _ _ h => h) (Or.inl ⟨by kernel_rfl, fun w hSw => ?_⟩) hHeld ?_
      · (try dsimp only at hSw); go_simp
      try simp only [Act.put, List.getElem_toArray, List.getElem_cons_succ, List.getElem_cons_zero, List.setIfInBounds_toArray, List.set_cons_zero, List.set_cons_succ]
      refine wpAnyH_take (i := 10) (oi := _) (v := .slice la ln0 lc) rfl (by kernel_rfl) (by kernel_rfl) (by kernel_rfl) (fun _ _ _ h => h) (Or.inl ⟨by kernel_rfl, fun w hSw => ?_⟩) hHeld ?_
      · (try dsimp only at hSw); go_simp
      try simp only [Act.put, List.getElem_toArray, List.getElem_cons_succ, List.getElem_cons_zero, List.setIfInBounds_toArray, List.set_cons_zero, List.set_cons_succ]
      refine wpAnyH_take (i := 11) (oi := _) (v := .nilIface) rfl (by kernel_rfl) (by kernel_rfl) (by kernel_rfl) (fun _ _ _ h => h) (Or.inl ⟨by kernel_rfl, fun w hSw => ?_⟩) hHeld ?_
      · (try dsimp only at hSw); go_simp
      try simp only [Act.put, List.getElem_toArray, List.getElem_cons_succ, List.getElem_cons_zero, List.setIfInBounds_toArray, List.set_cons_zero, List.set_cons_succ]
      refine wpAnyH_done (by kernel_rfl) ?_ _
      have Hb8 := Lib.hid hHeld.1
      clear HS0 HE5 HE6 HE56 HL5 HL6
      obtain ⟨w8, hw8⟩ : ∃ w8 : World, w8 = w7 := ⟨_, rfl⟩
      have HLK : Hid (LineK ks W xs) := ⟨by have := HG7.out; rwa [← Hn.out] at this⟩
      have HXlt : Hid (∀ x ∈ xs, x < n) := fun x hx => by have := HLK.out.lt x hx; rwa [Hn.out] at this
      obtain ⟨hxn, hxc, hxm, hxcell⟩ := row_at HR7.out
      have Hxn := Lib.hid hxn
      have Hxcell := Lib.hid hxcell
      obtain ⟨hwn, hwc, hwm, hwcell⟩ := row_at HWr.out
      have Hwcell := Lib.hid hwcell
      have h8 := Hb8.out.size
      clear hxn hxcell hwn hwcell hHeld
      have HBz : Hid (Below w.heap.size w w7) := HBq.out.trans (Hb8.out.mono HBq.out.size)
      rw [← hw8] at Hb8 HBz Hxcell HR7 h8 ⊢
      clear hw8
      have hln40 : ln0 ≤ 40 := by
        obtain ⟨rings, h1, h2, h3⟩ := HLK.out.it
        have h4 := line_len HLK.out
        rw [Hn.out] at h4
        rw [← Hxn.out]
        omega
      go_wp2_with fail
      go_loopg [9, 43] ln0 (fun k v9 v43 wr => ∃ (i : Nat) (ov : Value), ov = v9 ∧ v43 = .int .i64 i ∧ i ≤ ln0 ∧ k = ln0 - i ∧ wr.ownsRow w8.heap.size 3 1 ov (castN ((xs.take i).map fun x => W.getD x 0)).length ((castN ((xs.take i).map fun x => W.getD x 0)).map (Value.int .i64)) ∧ Below w8.heap.size w8 wr)
      case atStart => exact ⟨0, _, rfl, rfl, Nat.zero_le _, rfl, World.ownsRow_nil _ _ _ _, Below.refl _ _⟩
      case round =>
        obtain ⟨i, ov, rfl, rfl, hi, hk, hown, hB⟩ := hrel
        have Hk := Lib.hid hk
        have Hown := Lib.hid hown
        clear hk hown
        by_cases hlt : i < ln0
        · obtain ⟨b1, o1, rfl, hb1, hc1⟩ := Hxcell.out.resolve_left (by omega)
          obtain ⟨x, hx⟩ : ∃ x, xs.getD i 0 = x := ⟨_, rfl⟩
          have hxlt : x < n := by rw [← hx]; exact HXlt.out _ (mem_getD_nat (by rw [Hxn.out]; exact hlt))
          obtain ⟨b2, o2, rfl, hb2, hc2⟩ := Hwcell.out.resolve_left (by omega)
          obtain ⟨y, hy⟩ : ∃ y, W.getD x 0 = y := ⟨_, rfl⟩
          have hBq : Below wq.heap.size wq wr := Hb8.out.trans (hB.mono h8)
          have c1 : wr.cell? ⟨b1, o1 + i, none⟩ = some (.int .i64 ((x : Nat) : Int)) := (hB.cell (p := ⟨b1, o1 + i, none⟩) hb1).trans (by rw [hc1 i hlt, hx])
          have c2 : wr.cell? ⟨b2, o2 + x, none⟩ = some (.int .i64 ((y : Nat) : Int)) := (hBq.cell (p := ⟨b2, o2 + x, none⟩) hb2).trans (by rw [hc2 x hxlt, hy])
          have cw := HH.out wr hBq
          have HS1 : Hid (castN ((xs.take (i + 1)).map fun x => W.getD x 0) = castN ((xs.take i).map fun x => W.getD x 0) ++ [((y : Nat) : Int)]) := by
            show _ = _
            rw [map_take_snoc (fun x => W.getD x 0) (by rw [Hxn.out]; exact hlt), castN_snoc, hx, hy]
          have hol : (castN ((xs.take i).map fun x => W.getD x 0)).length ≤ 40 := by rw [castN_len, List.length_map, List.length_take]; omega
          obtain ⟨Z, hZ⟩ : ∃ Z, castN ((xs.take i).map fun x => W.getD x 0) = Z := ⟨_, rfl⟩
          rw [hZ] at HS1 hol
          have Hown2 : Hid (wr.ownsRow w8.heap.size 3 1 ov Z.length (Z.map (Value.int .i64))) := by have := Hown.out; rwa [hZ] at this
          have hsz := hB.size
          clear hx hy hc1 hc2 hZ Hown
          go_wp2_with (at_builtin; refine wpList_append_own _ rfl _ _ 31 rfl w8.heap.size 3 i1 _ 1 8 Tryz.underlying31 Hi1.out.1 Hi1.out.2.1 Hi1.out.2.2.1 Hi1.out.2.2.2 rfl (by decide) ov Z.length (Z.map (Value.int .i64)) rfl (Hown2.out.alloc _) ⟨wr.heap.size, 0, none⟩ 1 1 [.int .i64 ((y : Nat) : Int)] rfl rfl (World.news_of_block (cs := #[.int .i64 ((y : Nat) : Int)]) (t := 3) (fr := (0, 0)) (heap_alloc_new wr _)) (by simp [Value.oneCell']) (by unfold maxLen; omega) (by omega) (by simp; omega) ?_)
          intro v' w' hown3 hgrow _
          have hB2 : Below w8.heap.size w8 w' := (hB.alloc hB.size _).grown hgrow (by simp; omega) (fun k e => (Hown2.out.lt _ e).1)
          have Hown3 : Hid (w'.ownsRow w8.heap.size 3 1 v' (castN ((xs.take (i + 1)).map fun x => W.getD x 0)).length ((castN ((xs.take (i + 1)).map fun x => W.getD x 0)).map (Value.int .i64))) := by
            show World.ownsRow _ _ _ _ _ _ _
            rw [HS1.out, castN_rows, List.length_append]
            exact hown3
          clear hown3 hgrow c1 c2 cw
          go_wp2_with fail
          go_roundg (ln0 - (i + 1))
          case rel => exact ⟨i + 1, _, rfl, by go_num, by omega, rfl, Hown3.out, hB2⟩
          case measure => have := Hk.out; omega
        · obtain rfl : ln0 = i := by omega
          have HI : Hid (Ints wr ov (castN (xs.map fun x => W.getD x 0))) := by
            have := ints_owned Hown.out
            rwa [List.take_of_length_le (by rw [Hxn.out]; exact Nat.le_refl _)] at this
          go_wp2_with fail
          go_ret
          exact ⟨ov, xs, rfl, by rw [Hm.out, HWW.out]; exact HLK.out, by rw [Hm.out, HWW.out]; exact HI.out, HBz.out.trans (hB.mono HBz.out.size)⟩
end Go.Proofs.YtnfnebfioibndaaGreatDoor
namespace Go.Proofs.YtnfnebfioibndaaGreatDoor
open Go.RowKit
set_option maxRecDepth 100000
set_option maxHeartbeats 4000000

theorem refEdges_calls (v : Value) (l : List EdgeD) (n : Int) (w : World) (hE : Edges w v l) (hN : FineR w) :
    Calls Tryz.prog 79 #[.int .i64 n, v] w fun e w' => e = .returned (.agg #[.int .i64 (rightR n l).1, .int .i64 (rightR n l).2]) ∧ Below w.heap.size w w' := by
  obtain ⟨w0, hw0⟩ : ∃ w0 : World, w0 = w.alloc (.cells #[.int .i64 0, .int .i64 0] 42) := ⟨_, rfl⟩
  have hB0 : Below w.heap.size w w0 := by rw [hw0]; go_grown
  have hz0 : w0.heap.size = w.heap.size + 1 := by rw [hw0]; simp
  have hRC : ResC w0 w.heap.size := by rw [hw0]; exact ResC.new _
  have HN := Lib.hid (hN.below hB0 (Nat.le_refl _))
  have HRC := Lib.hid hRC
  have HB0 := Lib.hid hB0
  have Hz := Lib.hid hz0
  have Hw := Lib.hid hw0
  have hE0 := hE.below hB0 (Nat.le_refl _)
  obtain ⟨a, cap, rfl, hcap, hmax, hcell⟩ := hE0
  unfold maxLen at hmax
  obtain ⟨m, hm⟩ : ∃ m, l.length = m := ⟨_, rfl⟩
  rw [hm] at hcap hcell ⊢
  have Hcell := Lib.hid hcell
  have Hm := Lib.hid hm
  clear hcell hm hE hN hB0 hz0 hRC hw0
  have IN := Lib.hid (in_calls n 0 40 w0)
  by_cases h0 : n < 0 ∨ 40 < n
  · have HJ : Hid (rightR n l = (4, -1)) := by show _ = _; unfold rightR; rw [if_pos h0]
    have e0 : (decide (0 ≤ n) && decide (n ≤ 40)) = false := by simp; omega
    rw [e0] at IN
    clear h0 e0
    go_enter Tryz.func79, Tryz.ntmps79
    go_wp2_with fail
    rw [← Hw.out]
    go_wp2_with fail
    refine IN.out.mono ?_
    rintro e0 w00 ⟨rfl, rfl⟩
    go_wp2_with fail
    refine (refBare_calls 4 _).mono ?_
    rintro e1 w1 ⟨rfl, hc1⟩
    have hrc := HRC.out.below hc1 HRC.out.lt
    have c0 := hrc.c0
    have c1 := hrc.c1
    have z0 := hrc.z0
    have z1 := hrc.z1
    have hrl := hrc.lt
    have d0 := hrc.d0 (.int .i64 4)
    have d1 := hrc.d1 (.int .i64 4) (.int .i64 (-1))
    clear hrc
    go_wp2_with fail
    try simp only [Exit.inBlock, Exit.then]
    refine bodyPost_ret (by simp [results, Tryz.results79, go_sem, d0, d1]; try rfl) rfl ?_
    exact ⟨by rw [HJ.out], HB0.out.trans (((hc1.mono HB0.out.size).setCell (Nat.le_refl _) _).setCell (Nat.le_refl _) _)⟩
  · have HJ : Hid (rightR n l = firstBad n l 0) := by show _ = _; unfold rightR; rw [if_neg h0]
    have e0 : (decide (0 ≤ n) && decide (n ≤ 40)) = true := by simp; omega
    rw [e0] at IN
    have hn0 : 0 ≤ n := by omega
    have hn40 : n ≤ 40 := by omega
    clear h0 e0
    go_enter Tryz.func79, Tryz.ntmps79
    go_wp2_with fail
    rw [← Hw.out]
    go_wp2_with fail
    refine IN.out.mono ?_
    rintro e0 w00 ⟨rfl, rfl⟩
    go_wp2_with fail
    go_loopg [13] m (fun k v13 wr => ∃ i : Nat, v13 = .int .i64 i ∧ i ≤ m ∧ k = m - i ∧ firstBad n l 0 = firstBad n (l.drop i) i ∧ Below w0.heap.size w0 wr)
    case atStart => exact ⟨0, rfl, Nat.zero_le _, rfl, rfl, Below.refl _ _⟩
    case round =>
      obtain ⟨i, rfl, hi, hk, hf, hB⟩ := hrel
      have Hk := Lib.hid hk
      have Hf := Lib.hid hf
      clear hk hf
      by_cases hlt : i < m
      · obtain ⟨b, o, rfl, hb, hc⟩ := Hcell.out.resolve_left (by omega)
        obtain ⟨e, he⟩ : ∃ e, l.getD i (0, 0) = e := ⟨_, rfl⟩
        obtain ⟨x, y⟩ := e
        have c0 : wr.cell? ⟨b, o + i * 2, none⟩ = some (.int .i64 x) := (hB.cell (p := ⟨b, o + i * 2, none⟩) hb).trans (by have h1 := hc i 0 hlt (by decide); rw [he] at h1; exact h1)
        have c1 : wr.cell? ⟨b, o + i * 2 + 1, none⟩ = some (.int .i64 y) := (hB.cell (p := ⟨b, o + i * 2 + 1, none⟩) hb).trans (by have h1 := hc i 1 hlt (by decide); rw [he] at h1; exact h1)
        have hsz := hB.size
        have HN1 : Hid (badE n (x, y) = false → firstBad n l 0 = firstBad n (l.drop (i + 1)) ((i + 1 : Nat) : Int)) := fun h => Hf.out.trans (firstBad_step (by rw [Hm.out]; exact hlt) he h)
        have HY : Hid (badE n (x, y) = true → rightR n l = (2, (i : Int))) := fun h => HJ.out.trans (Hf.out.trans (firstBad_at (by rw [Hm.out]; exact hlt) he h))
        obtain ⟨wt, hwt⟩ : ∃ wt : World, wt = wr.alloc (.cells #[.int .i64 x, .int .i64 y] 107) := ⟨_, rfl⟩
        have hBt : Below w0.heap.size w0 wt := by rw [hwt]; exact hB.alloc hB.size _
        have g0 : wt.cell? ⟨wr.heap.size, 0, none⟩ = some (.int .i64 x) := by rw [hwt, World.cell?_alloc_new]; rfl
        have g1 : wt.cell? ⟨wr.heap.size, 1, none⟩ = some (.int .i64 y) := by rw [hwt, World.cell?_alloc_new]; rfl
        have hlt2 : wr.heap.size < wt.heap.size := by rw [hwt]; simp
        have Hwt := Lib.hid hwt
        have INx := Lib.hid (in_calls x 0 (n - 1) wt)
        have INy := Lib.hid (in_calls y 0 (n - 1) wt)
        clear hc he hb hwt
        by_cases kx : 0 ≤ x ∧ x ≤ n - 1
        case' neg =>
          have ex : (decide (0 ≤ x) && decide (x ≤ n - 1)) = false := by simp; omega
          have HZ := Lib.hid (HY.out (by unfold badE; simp; omega))
          rw [ex] at INx
          clear kx ex
          go_wp2_with fail
          rw [show wr.alloc (.cells _ _) = wt from Hwt.out.symm]
          refine INx.out.mono ?_
          rintro e2 w00 ⟨rfl, rfl⟩
          have hrc := HRC.out.below hBt (by rw [Hz.out]; omega)
          have c0 := hrc.c0
          have c1 := hrc.c1
          have z0 := hrc.z0
          have z1 := hrc.z1
          have hrl := hrc.lt
          have d0 := hrc.d0 (.int .i64 2)
          have d1 := hrc.d1 (.int .i64 2) (.int .i64 (i : Int))
          clear hrc
          go_wp2_with fail
          try simp only [Exit.inBlock, Exit.then]
          refine bodyPost_ret (by simp [results, Tryz.results79, go_sem, d0, d1]; try rfl) rfl ?_
          exact ⟨by rw [HZ.out], HB0.out.trans (((hBt.mono HB0.out.size).setCell (Nat.le_refl _) _).setCell (Nat.le_refl _) _)⟩
        have ex : (decide (0 ≤ x) && decide (x ≤ n - 1)) = true := by simp; omega
        rw [ex] at INx
        by_cases ky : 0 ≤ y ∧ y ≤ n - 1
        case' neg =>
          have ey : (decide (0 ≤ y) && decide (y ≤ n - 1)) = false := by simp; omega
          have HZ := Lib.hid (HY.out (by unfold badE; simp; omega))
          rw [ey] at INy
          clear kx ky ex ey
          go_wp2_with fail
          rw [show wr.alloc (.cells _ _) = wt from Hwt.out.symm]
          refine INx.out.mono ?_
          rintro e2 w00 ⟨rfl, rfl⟩
          go_wp2_with fail
          refine INy.out.mono ?_
          rintro e2 w00 ⟨rfl, rfl⟩
          have hrc := HRC.out.below hBt (by rw [Hz.out]; omega)
          have c0 := hrc.c0
          have c1 := hrc.c1
          have z0 := hrc.z0
          have z1 := hrc.z1
          have hrl := hrc.lt
          have d0 := hrc.d0 (.int .i64 2)
          have d1 := hrc.d1 (.int .i64 2) (.int .i64 (i : Int))
          clear hrc
          go_wp2_with fail
          try simp only [Exit.inBlock, Exit.then]
          refine bodyPost_ret (by simp [results, Tryz.results79, go_sem, d0, d1]; try rfl) rfl ?_
          exact ⟨by rw [HZ.out], HB0.out.trans (((hBt.mono HB0.out.size).setCell (Nat.le_refl _) _).setCell (Nat.le_refl _) _)⟩
        have ey : (decide (0 ≤ y) && decide (y ≤ n - 1)) = true := by simp; omega
        have HZ := Lib.hid (HN1.out (by unfold badE; simp; omega))
        rw [ey] at INy
        clear kx ky ex ey
        go_wp2_with fail
        rw [show wr.alloc (.cells _ _) = wt from Hwt.out.symm]
        refine INx.out.mono ?_
        rintro e2 w00 ⟨rfl, rfl⟩
        go_wp2_with fail
        refine INy.out.mono ?_
        rintro e2 w00 ⟨rfl, rfl⟩
        go_wp2_with fail
        go_roundg (m - (i + 1))
        case rel => exact ⟨i + 1, by go_num, by omega, rfl, HZ.out, hBt⟩
        case measure => have := Hk.out; omega
      · obtain rfl : m = i := by omega
        have HZ : Hid (rightR n l = (0, -1)) := HJ.out.trans (Hf.out.trans (firstBad_end (by rw [Hm.out]; exact Nat.le_refl _)))
        have hfn := HN.out.below hB (Nat.le_refl _)
        have f0 := hfn.c0
        have f1 := hfn.c1
        have fl := hfn.lt
        clear hfn
        have hrc := HRC.out.below hB (by rw [Hz.out]; omega)
        have c0 := hrc.c0
        have c1 := hrc.c1
        have z0 := hrc.z0
        have z1 := hrc.z1
        have hrl := hrc.lt
        have d0 := hrc.d0 (.int .i64 0)
        have d1 := hrc.d1 (.int .i64 0) (.int .i64 (-1))
        clear hrc
        go_wp2_with fail
        try simp only [Exit.inBlock, Exit.then]
        refine bodyPost_ret (by simp [results, Tryz.results79, go_sem, d0, d1]; try rfl) rfl ?_
        exact ⟨by rw [HZ.out], HB0.out.trans (((hB.mono HB0.out.size).setCell (Nat.le_refl _) _).setCell (Nat.le_refl _) _)⟩
end Go.Proofs.YtnfnebfioibndaaGreatDoor
