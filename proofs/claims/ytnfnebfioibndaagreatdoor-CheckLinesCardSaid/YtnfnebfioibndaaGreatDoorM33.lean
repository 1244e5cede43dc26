/- The document's Line. -/
import Derived.Test.YtnfnebfioibndaaGreatDoorM32
namespace Go.Proofs.YtnfnebfioibndaaGreatDoor
open Go.RowKit
set_option maxRecDepth 100000
set_option maxHeartbeats 4000000

theorem zint (w : World) : (zeroValue 3).run Tryz.prog w = .ok (.int .i64 0) w := by kernel_rfl
def hitU (told : Nat → Nat) (v : Nat) (e : EdgeD) (u : Nat) : Bool := e.1 == ((u : Nat) : Int) && (e.2 == ((v : Nat) : Int) && (!(u == v) && told u == 0))
def hitE (r : List Nat) (told : Nat → Nat) (v : Nat) (e : EdgeD) : Bool := r.any (hitU told v e)
theorem freeV_hit (strong : List EdgeD) (r : List Nat) (told : Nat → Nat) (v : Nat) : freeV strong r told v = (told v == 0 && !(strong.any (hitE r told v))) := rfl
theorem any_snoc {α : Type} {p : α → Bool} {l : List α} {i : Nat} (d : α) (hi : i < l.length) : (l.take (i + 1)).any p = ((l.take i).any p || p (l.getD i d)) := by
  rw [take_snoc' d hi, List.any_append]
  simp
theorem ring_ok {E : Nat → Nat → Prop} {n : Nat} {outs : List (List Nat)} (h : InOrder E n outs) {i : Nat} (hi : i < outs.length) : (ringAt outs i).Nodup ∧ ∀ u ∈ ringAt outs i, u < n := by
  have hN := h i (ringAt outs i) (by rw [ringAt_get hi]; exact List.getElem?_eq_getElem hi)
  exact ⟨hN.ring.sorted.imp (fun h e => by rw [e] at h; omega), fun a ha => (hN.free a ha).lt⟩
theorem BestV.toW {b1 : Int} {told : Nat → Nat} {r : List Nat} {c : Nat → Bool} {k : Nat} (h : BestV c r k b1) : BestW b1 told r 0 b1 := by
  rcases h with ⟨rfl, _⟩ | ⟨b, rfl, _⟩
  · exact Or.inr ⟨by decide, BestV.start _ _⟩
  · exact Or.inl ⟨by omega, rfl⟩
theorem BestW.keep {b1 : Int} {told : Nat → Nat} {r : List Nat} {k : Nat} {b : Int} (h : BestW b1 told r k b) (hk : k < r.length) (hc : (told (r.getD k 0) == 0) = false ∨ 0 ≤ b) : BestW b1 told r (k + 1) b := by
  rcases h with h | ⟨h1, h2⟩
  · exact Or.inl h
  · exact Or.inr ⟨h1, h2.keep hk hc⟩
theorem BestW.take {b1 : Int} {told : Nat → Nat} {r : List Nat} {k : Nat} {b : Int} (h : BestW b1 told r k b) (hk : k < r.length) (hc : (told (r.getD k 0) == 0) = true) (hb : b < 0) : BestW b1 told r (k + 1) ((r.getD k 0 : Nat) : Int) := by
  rcases h with ⟨h0, rfl⟩ | ⟨h1, h2⟩
  · omega
  · exact Or.inr ⟨h1, h2.take hk hc hb⟩
theorem info_edgeR : (Tryz.prog.info? 107).map (fun i => (i.zero, i.size, i.bytes)) = some (some (.agg #[.int .i64 0, .int .i64 0]), 2, 16) := by kernel_rfl
/-- append(row, edges...), whatever the edges' address. -/
theorem append_edgesR {i0 : TypeInfo} (h0 : Tryz.prog.info? 107 = some i0 ∧ i0.zero = some (.agg #[.int .i64 0, .int .i64 0]) ∧ i0.size = 2 ∧ i0.bytes = 16) {w : World} {base : Nat} {ov v : Value} {L l : List EdgeD} (hown : w.ownsRow base 107 2 ov L.length (edgeRows L)) (hE : Edges w v l) (hL : L.length + l.length ≤ 1000000) (hb : base ≤ w.heap.size) (ty : TypeId) :
    ∃ v' w', (Builtin.append_ #[106, 106] ty #[ov, v]).run Tryz.prog w = .ok v' w' ∧ w'.ownsRow base 107 2 v' (L ++ l).length (edgeRows (L ++ l)) ∧ w.grownBy w' ov.ownBlock := by
  obtain ⟨a, c, rfl, h1, h2, h3⟩ := hE
  rcases Nat.eq_zero_or_pos l.length with hz | hp
  · have hl : l = [] := List.length_eq_zero_iff.1 hz
    subst hl
    refine ⟨ov, w, ?_, by simpa using hown, World.grownBy.refl w _⟩
    exact run_append_zero w base _ ty 107 i0 2 Tryz.underlying106 h0.1 ov _ _ hown a c
  · obtain ⟨b, o, rfl, hlt, hc⟩ := h3.resolve_left (by omega)
    have hnews : ∀ j u, (edgeRows l)[j]? = some u → w.cell? ((⟨b, o, none⟩ : Addr).add j) = some u := by
      intro j u hu
      have hj : j < l.length * 2 := by
        rcases Nat.lt_or_ge j (l.length * 2) with h | h
        · exact h
        · rw [List.getElem?_eq_none (by rw [edgeRows_len]; exact h)] at hu; cases hu
      have e := edgeRows_at l (j / 2) (j % 2) (by omega) (by omega)
      rw [show j / 2 * 2 + j % 2 = j by omega, hu] at e
      have := hc (j / 2) (j % 2) (by omega) (by omega)
      rw [addr_add, show o + j = o + j / 2 * 2 + j % 2 by omega, this, e]
    obtain ⟨v', w', hr, q1, q2, _⟩ := run_append_own_at (P := Tryz.prog) w base 106 ty 107 i0 _ 2 16 Tryz.underlying106 h0.1 h0.2.1 h0.2.2.1 h0.2.2.2 rfl (by decide) ov L.length (edgeRows L) hown ⟨b, o, none⟩ l.length c (edgeRows l) (edgeRows_len l) hnews edgeRows_one (by unfold maxLen; omega) (by omega) hb
    refine ⟨v', w', hr, ?_, q2⟩
    rw [List.length_append, edgeRows_append]
    exact q1


theorem refLine_good (v1 v2 : Value) (weak strong : List EdgeD) (n : Nat) (w : World) (hE : Edges w v1 weak) (hE2 : Edges w v2 strong) (hN : FineR w) (hr1 : rightR ((n : Nat) : Int) weak = (0, -1)) (hr : rightR ((n : Nat) : Int) strong = (0, -1)) (hl1 : weak.length ≤ 50000) (hl2 : strong.length ≤ 50000) :
    Calls Tryz.prog 52 #[.int .i64 ((n : Nat) : Int), v1, v2] w (RefLineE w n weak strong) := by
  obtain ⟨n', hn', hn40, hG⟩ := right_fine hr
  obtain rfl : n = n' := by omega
  have HG := Lib.hid hG
  have HR := Lib.hid (right_append hr1 hr)
  obtain ⟨i0, hi0, hz0, hz1, hz2⟩ := info_parts info_edgeR
  have Hi0 := Lib.hid (And.intro hi0 (And.intro hz0 (And.intro hz1 hz2)))
  obtain ⟨i1, hi1, hy0, hy1, hy2⟩ := info_parts info_int2
  have Hi1 := Lib.hid (And.intro hi1 (And.intro hy0 (And.intro hy1 hy2)))
  have HE1 := Lib.hid hE
  obtain ⟨wa, wm, wc', rfl⟩ : ∃ a m c, v1 = .slice a m c := by
    obtain ⟨a, c, e, _⟩ := hE
    exact ⟨_, _, _, e⟩
  have hE2' := hE2
  obtain ⟨sa, sc, rfl, hsc, hsm, hsx⟩ := hE2'
  unfold maxLen at hsm
  obtain ⟨s, hs⟩ : ∃ s, strong.length = s := ⟨_, rfl⟩
  rw [hs] at hsc hsx hl2 hE2
  have Hs := Lib.hid hs
  have Hsx := Lib.hid hsx
  clear hn' hG hi0 hz0 hz1 hz2 hi1 hy0 hy1 hy2 hs hsx
  rw [Hs.out]
  have hneq0 := neq_fine
  obtain ⟨w0, hw0⟩ : ∃ w0 : World, w0 = w.alloc (.cells #[.int .i64 0, .int .i64 0] 42) := ⟨_, rfl⟩
  have hB0 : Below w.heap.size w w0 := by rw [hw0]; go_grown
  have hRC : ResC w0 w.heap.size := by rw [hw0]; exact ResC.new _
  have hC := refEdges_calls _ weak n w0 (hE.below hB0 (Nat.le_refl _)) (hN.below hB0 (Nat.le_refl _))
  rw [hr1] at hC
  have CE := Lib.hid hC
  have HN := Lib.hid (hN.below hB0 (Nat.le_refl _))
  have HRC := Lib.hid hRC
  have HE2 := Lib.hid hE2
  have HB0 := Lib.hid hB0
  have Hw := Lib.hid hw0
  have Hr := Lib.hid hr
  have Hr1 := Lib.hid hr1
  clear hC hE hE2 hN hB0 hRC hw0 hr hr1
  go_enter Tryz.func52, Tryz.ntmps52
  go_wp2_with fail
  rw [← Hw.out]
  go_wp2_with fail
  refine CE.out.mono ?_
  rintro e1 w1 ⟨rfl, hc1⟩
  obtain ⟨w2, hw2⟩ : ∃ w2 : World, w2 = w1.alloc (.cells #[.int .i64 0, .int .i64 (-1)] 42) := ⟨_, rfl⟩
  have hb2 : Below w0.heap.size w0 w2 := by rw [hw2]; exact hc1.alloc hc1.size _
  have hfn := HN.out.below hb2 (Nat.le_refl _)
  have hC2 := refEdges_calls _ strong n w2 (HE2.out.below (HB0.out.trans (hb2.mono HB0.out.size)) (Nat.le_refl _)) hfn
  rw [Hr.out, hw2] at hC2
  have CE2 := Lib.hid hC2
  have HN2 := Lib.hid hfn
  have Hw2 := Lib.hid hw2
  have HB2 := Lib.hid hb2
  rw [hw2] at hfn
  have f0 := hfn.c0
  have f1 := hfn.c1
  have fl := hfn.lt
  clear hfn hC2 hb2 hw2 CE
  go_wp2_with fail
  refine CE2.out.mono ?_
  rintro e3 w3 ⟨rfl, hc3⟩
  rw [← Hw2.out] at hc3
  obtain ⟨w4, hw4⟩ : ∃ w4 : World, w4 = w3.alloc (.cells #[.int .i64 0, .int .i64 (-1)] 42) := ⟨_, rfl⟩
  have hb4 : Below w0.heap.size w0 w4 := by rw [hw4]; exact (HB2.out.trans (hc3.mono HB2.out.size)).alloc (Nat.le_trans HB2.out.size hc3.size) _
  have hfn := HN2.out.below (hc3.alloc hc3.size (.cells #[.int .i64 0, .int .i64 (-1)] 42)) (Nat.le_refl _)
  clear f0 f1 fl CE2
  have f0 := hfn.c0
  have f1 := hfn.c1
  have fl := hfn.lt
  have Hb4 := Lib.hid hb4
  have Hw4 := Lib.hid hw4
  have HN4 : Hid (FineR w4) := by show FineR w4; rw [hw4]; exact hfn
  clear hfn hc3 hb4 hw4
  go_upto_region 7 with fail
  rw [← Hw4.out]
  clear f0 f1 fl hneq0
  obtain ⟨w5, hw5⟩ : ∃ w5 : World, w5 = w4.alloc (.cells #[] 107) := ⟨_, rfl⟩
  have hs5 : w5.heap.size = w4.heap.size + 1 := by rw [hw5]; simp
  have hown5 : w5.ownsRow w4.heap.size 107 2 (.slice (some ⟨w4.heap.size, 0, none⟩) 0 0) ([] : List EdgeD).length (edgeRows []) := ⟨rfl, .inr ⟨w4.heap.size, 0, #[], rfl, Nat.le_refl _, by rw [hw5]; exact heap_alloc_new w4 _, Nat.le_refl _, by unfold maxLen; decide, rfl, rfl⟩⟩
  have hb05 : Below w.heap.size w w5 := by rw [hw5]; exact HB0.out.trans ((Hb4.out.alloc Hb4.out.size _).mono HB0.out.size)
  have hb45 : Below w4.heap.size w4 w5 := by rw [hw5]; exact (Below.refl _ _).alloc (Nat.le_refl _) _
  obtain ⟨a6, w6, hr6, hown6, hg6⟩ := append_edgesR Hi0.out hown5 (HE1.out.below hb05 (Nat.le_refl _)) (by simp; omega) (by omega) 106
  have hb46 : Below w4.heap.size w4 w6 := hb45.grown hg6 hb45.size (fun k e => (hown5.lt k e).1)
  have hb06 : Below w.heap.size w w6 := HB0.out.trans ((Hb4.out.trans (hb46.mono Hb4.out.size)).mono HB0.out.size)
  obtain ⟨a7, w7, hr7, hown7, hg7⟩ := append_edgesR Hi0.out hown6 (HE2.out.below hb06 (Nat.le_refl _)) (by have := Hs.out; simp; omega) hb46.size 106
  have hb47 : Below w4.heap.size w4 w7 := hb46.grown hg7 hb46.size (fun k e => (hown6.lt k e).1)
  have hb07 : Below w.heap.size w w7 := HB0.out.trans ((Hb4.out.trans (hb47.mono Hb4.out.size)).mono HB0.out.size)
  have CR := Lib.hid (refRings_calls a7 ([] ++ weak ++ strong) n w7 (edges_owned hown7) (HN4.out.below hb47 (Nat.le_refl _)) (by have := Hs.out; simp; omega))
  rw [List.nil_append] at CR
  rw [hw5] at hr6
  have Hr6 := Lib.hid hr6
  have Hr7 := Lib.hid hr7
  have HB07 := Lib.hid hb07
  have HB47 := Lib.hid hb47
  clear hw5 hs5 hown5 hb05 hb45 hr6 hown6 hg6 hb46 hb06 hr7 hown7 hg7 hb47 hb07
  go_wp2_with (first | (at_builtin; refine Lib.wpList_append_run _ rfl _ _ 106 106 rfl _ _ rfl rfl _ _ Hr6.out ?_) | (at_builtin; refine Lib.wpList_append_run _ rfl _ _ 106 106 rfl _ _ rfl rfl _ _ Hr7.out ?_))
  refine CR.out.mono ?_
  rintro e8 w8 ⟨rv, rings, rfl, hRr, -, hgood, hl40, hb8⟩
  rw [HR.out]
  obtain ⟨hOrd, hAll⟩ := hgood HR.out n rfl
  obtain ⟨ra, rcap, RV, hrv, hq1, hq2, hcell, hrow⟩ := rows2_form hRr
  obtain ⟨m, hm⟩ : ∃ m, rings.length = m := ⟨_, rfl⟩
  rw [hm] at hq1 hcell hrow hl40 hrv
  rw [hrv]
  have Hb8 := Lib.hid (HB07.out.trans (hb8.mono HB07.out.size))
  have Hb48 := Lib.hid (HB47.out.trans (hb8.mono HB47.out.size))
  have Hcell := Lib.hid hcell
  have Hrow := Lib.hid hrow
  have Hm := Lib.hid hm
  have HOrd := Lib.hid hOrd
  have HAll := Lib.hid hAll
  clear hRr hgood hb8 hcell hrow hm hOrd hAll CR hrv Hr6 Hr7
  go_wp2_with fail
  go_loopg [12, 52] m (fun k v12 v52 wr => ∃ (i : Nat) (outv : Value), outv = v12 ∧ v52 = .int .i64 i ∧ i ≤ m ∧ k = m - i ∧ wr.ownsRow w8.heap.size 3 1 outv (linesOf strong (rings.take i)).length (natRow (linesOf strong (rings.take i))) ∧ (linesOf strong (rings.take i)).length ≤ i * 40 ∧ Below w8.heap.size w8 wr)
  case atStart => exact ⟨0, _, rfl, rfl, Nat.zero_le _, rfl, World.ownsRow_nil _ _ _ _, Nat.le_refl _, (Below.refl _ _).alloc (Nat.le_refl _) _⟩
  case round =>
    obtain ⟨i, outv, rfl, rfl, hi, hk, hown, hlen, hB⟩ := hrel
    have Hk := Lib.hid hk
    have Hown := Lib.hid hown
    have HB := Lib.hid hB
    have Hlen := Lib.hid hlen
    clear hk hown hB hlen
    by_cases hlt : i < m
    · obtain ⟨b, o, rfl, hb, hc⟩ := Hcell.out.resolve_left (by omega)
      obtain ⟨hrl, hrne⟩ := ring_len HOrd.out (i := i) (by rw [Hm.out]; exact hlt)
      obtain ⟨hrnd, hrlt⟩ := ring_ok HOrd.out (i := i) (by rw [Hm.out]; exact hlt)
      obtain ⟨rb, ro, rm, rcp, hV, hrm, hrm0, hrmc, hrcm, hrb, hrc⟩ := Row.form (Hrow.out i hlt) hrne
      have c0 : wr.cell? ⟨b, o + i, none⟩ = some (RV i) := (HB.out.cell (p := ⟨b, o + i, none⟩) hb).trans (hc i hlt)
      rw [hV] at c0
      obtain ⟨r, hr⟩ : ∃ r, ringAt rings i = r := ⟨_, rfl⟩
      rw [hr] at hrl hrne hrm hrc hrnd hrlt
      have hst := lines_step strong rings (i := i) (by rw [Hm.out]; exact hlt)
      rw [hr] at hst
      have Hst := Lib.hid hst
      have Hrm := Lib.hid hrm
      have Hrl := Lib.hid hrl
      have Hrc := Lib.hid hrc
      have Hnd := Lib.hid hrnd
      have Hlt : Hid (∀ z, z < rm → r.getD z 0 < n) := fun z hz => hrlt _ (mem_getD' _ (by rw [← hrm]; exact hz))
      clear hc hV hrc hst hr hrm hrne hrl hrnd hrlt
      obtain ⟨wo, rfl⟩ : ∃ wo : World, wo = wr := ⟨_, rfl⟩
      have hmm := @run_makeMap Tryz.prog
      go_wp2_with fail
      clear hmm
      go_loopg [12, 59] rm (fun k v12 v59 wr => ∃ (j : Nat) (outv : Value) (told : Nat → Nat) (acc : List Nat), outv = v12 ∧ v59 = .int .i64 j ∧ j ≤ rm ∧ k = rm - j ∧ (leftOf r told).length = rm - j ∧ acc.length + (rm - j) ≤ i * 40 + 40 ∧ acc ++ lineOf strong (leftOf r told) = linesOf strong (rings.take (i + 1)) ∧ MapI Tryz.prog 3 wr wo.heap.size j told ∧ wr.ownsRow w8.heap.size 3 1 outv acc.length (natRow acc) ∧ outv.ownBlock ≠ some wo.heap.size ∧ Below w8.heap.size w8 wr)
      case atStart =>
        have hL0 : leftOf r (fun _ => 0) = r := by unfold leftOf; simp
        exact ⟨0, _, fun _ => 0, linesOf strong (rings.take i), rfl, rfl, Nat.zero_le _, rfl, by rw [hL0, ← Hrm.out]; rfl, by have := Hlen.out; have := Hrl.out; have := Hrm.out; omega, by rw [hL0]; exact Hst.out.symm, MapI.made _ _ _, Hown.out.alloc _, fun e => by have := (Hown.out.lt _ e).2; omega, HB.out.alloc HB.out.size _⟩
      case round =>
        obtain ⟨j, outv, told, acc, rfl, rfl, hj, hk, hlj, hacc, hlines, hM, hown, hne, hB8⟩ := hrel
        have Hk2 := Lib.hid hk
        have Hlj := Lib.hid hlj
        have Hacc := Lib.hid hacc
        have Hlines := Lib.hid hlines
        have HM := Lib.hid hM
        have Hown2 := Lib.hid hown
        have Hne := Lib.hid hne
        have HB8 := Lib.hid hB8
        clear hk hlj hacc hlines hM hown hne hB8
        by_cases hjl : j < rm
        · obtain ⟨wb, rfl⟩ : ∃ wb : World, wb = wr := ⟨_, rfl⟩
          go_wp2_with fail
          go_loopg [16, 63] rm (fun k v16 v63 wr => ∃ (x : Nat) (b1 : Int), v16 = .int .i64 b1 ∧ v63 = .int .i64 x ∧ x ≤ rm ∧ k = rm - x ∧ BestV (freeV strong r told) r x b1 ∧ Below wb.heap.size wb wr)
          case atStart => exact ⟨0, _, rfl, rfl, Nat.zero_le _, rfl, BestV.start _ _, Below.refl _ _⟩
          case round =>
            obtain ⟨x, b1, rfl, rfl, hx, hk, hbest, hBb⟩ := hrel
            have Hk3 := Lib.hid hk
            have Hbest := Lib.hid hbest
            have HBb := Lib.hid hBb
            clear hk hbest hBb
            by_cases hxl : x < rm
            · obtain ⟨v, hv⟩ : ∃ v, r.getD x 0 = v := ⟨_, rfl⟩
              have hvn : v < n := by rw [← hv]; exact Hlt.out x hxl
              have hbo : Below w8.heap.size w8 wr := HB8.out.trans (HBb.out.mono HB8.out.size)
              have c0 : wr.cell? ⟨rb, ro + x, none⟩ = some (.int .i64 ((v : Nat) : Int)) := (hbo.cell (p := ⟨rb, ro + x, none⟩) hrb).trans (by have := Hrc.out x hxl; rw [hv] at this; exact this)
              have HMr := Lib.hid (HM.out.below HBb.out HM.out.lt)
              obtain ⟨c, hc⟩ : ∃ c, told v = c := ⟨_, rfl⟩
              obtain ⟨f0, hf0⟩ : ∃ f0, (told v == 0) = f0 := ⟨_, rfl⟩
              have hcz : (((c : Nat) : Int) == 0) = f0 := by rw [← hf0, hc]; rw [Bool.eq_iff_iff]; simp
              have Hf0 := Lib.hid hf0
              have Hv := Lib.hid hv
              have Hc := Lib.hid hc
              have Hcz := Lib.hid hcz
              clear hv hc hf0 hbo hcz
              obtain ⟨wc, rfl⟩ : ∃ wc : World, wc = wr := ⟨_, rfl⟩
              go_wp2_with (at_lookup; refine wpList_lookI _ rfl _ _ 144 rfl 3 3 Tryz.underlying3 Tryz.underlying144 (zint _) wo.heap.size j told rfl HMr.out v rfl (by omega) c Hc.out ?_)
              rw [Hcz.out]
              go_loopg [19, 73] s (fun k v19 v73 wr => ∃ (y : Nat) (fr : Bool), v19 = .bool fr ∧ v73 = .int .i64 y ∧ y ≤ s ∧ k = s - y ∧ fr = (f0 && !((strong.take y).any (hitE r told v))) ∧ Below wc.heap.size wc wr)
              case atStart => exact ⟨0, f0, rfl, rfl, Nat.zero_le _, rfl, by simp, Below.refl _ _⟩
              case round =>
                obtain ⟨y, fr, rfl, rfl, hy, hk, hfr, hBc⟩ := hrel
                have Hk4 := Lib.hid hk
                have Hfr := Lib.hid hfr
                have HBc := Lib.hid hBc
                clear hk hfr hBc
                by_cases hyl : y < s
                · obtain ⟨eb, eo, rfl, heb, hec⟩ := Hsx.out.resolve_left (by omega)
                  obtain ⟨e, he⟩ : ∃ e, strong.getD y (0, 0) = e := ⟨_, rfl⟩
                  have hwr : Below w.heap.size w wr := Hb8.out.trans ((HB8.out.trans ((HBb.out.trans (HBc.out.mono HBb.out.size)).mono HB8.out.size)).mono Hb8.out.size)
                  obtain ⟨e1, e2⟩ := e
                  have c0 : wr.cell? ⟨eb, eo + y * 2, none⟩ = some (.int .i64 e1) := (hwr.cell (p := ⟨eb, eo + y * 2, none⟩) heb).trans (by have h1 := hec y 0 hyl (by decide); rw [he] at h1; exact h1)
                  have c1 : wr.cell? ⟨eb, eo + y * 2 + 1, none⟩ = some (.int .i64 e2) := (hwr.cell (p := ⟨eb, eo + y * 2 + 1, none⟩) heb).trans (by have h1 := hec y 1 hyl (by decide); rw [he] at h1; exact h1)
                  obtain ⟨we, hwe⟩ : ∃ we : World, we = wr.alloc (.cells #[.int .i64 e1, .int .i64 e2] 107) := ⟨_, rfl⟩
                  obtain ⟨Be, hBe⟩ : ∃ Be, wr.heap.size = Be := ⟨_, rfl⟩
                  have e0 : we.cell? ⟨Be, 0, none⟩ = some (.int .i64 e1) := by rw [hwe, ← hBe]; simp [go_sem]
                  have e00 : we.cell? ⟨Be, 1, none⟩ = some (.int .i64 e2) := by rw [hwe, ← hBe]; simp [go_sem]
                  have eB : Be < we.heap.size := by rw [hwe, ← hBe]; simp
                  have HBce : Hid (Below wc.heap.size wc we) := by show Below _ _ _; rw [hwe]; exact HBc.out.alloc HBc.out.size _
                  have He := Lib.hid he
                  have HBe := Lib.hid hBe
                  have Hwe := Lib.hid hwe
                  clear hec he hwr hwe hBe
                  go_wp2_with fail
                  rw [HBe.out, ← Hwe.out]
                  clear c0 c1
                  go_loopg [19, 79] rm (fun k v19 v79 wr => ∃ (z : Nat) (g : Bool), v19 = .bool g ∧ v79 = .int .i64 z ∧ z ≤ rm ∧ k = rm - z ∧ g = (fr && !((r.take z).any (hitU told v (e1, e2)))) ∧ Below we.heap.size we wr)
                  case atStart => exact ⟨0, fr, rfl, rfl, Nat.zero_le _, rfl, by simp, Below.refl _ _⟩
                  case round =>
                    obtain ⟨z, g, rfl, rfl, hz, hk, hg, hBe⟩ := hrel
                    have Hk5 := Lib.hid hk
                    have Hg := Lib.hid hg
                    have HBw := Lib.hid hBe
                    clear hk hg hBe
                    by_cases hzl : z < rm
                    · obtain ⟨u, hu⟩ : ∃ u, r.getD z 0 = u := ⟨_, rfl⟩
                      have hun : u < n := by rw [← hu]; exact Hlt.out z hzl
                      have hbc : Below wc.heap.size wc wr := HBce.out.trans (HBw.out.mono HBce.out.size)
                      have hbo : Below w8.heap.size w8 wr := HB8.out.trans ((HBb.out.trans (hbc.mono HBb.out.size)).mono HB8.out.size)
                      have c0 : wr.cell? ⟨rb, ro + z, none⟩ = some (.int .i64 ((u : Nat) : Int)) := (hbo.cell (p := ⟨rb, ro + z, none⟩) hrb).trans (by have := Hrc.out z hzl; rw [hu] at this; exact this)
                      have HMz := Lib.hid (HMr.out.below hbc HMr.out.lt)
                      have d0 := (HBw.out.cell (p := ⟨Be, 0, none⟩) eB).trans e0
                      have d1 := (HBw.out.cell (p := ⟨Be, 1, none⟩) eB).trans e00
                      have dB : Be < wr.heap.size := Nat.lt_of_lt_of_le eB HBw.out.size
                      have hany := any_snoc (p := hitU told v (e1, e2)) 0 (l := r) (i := z) (by rw [← Hrm.out]; exact hzl)
                      rw [hu] at hany
                      have Hany := Lib.hid hany
                      have Hu := Lib.hid hu
                      clear hany hu hbc hbo
                      have step0 : Hid (hitU told v (e1, e2) u = false → g = (fr && !((r.take (z + 1)).any (hitU told v (e1, e2))))) := by
                        intro h
                        rw [Hany.out, h, Hg.out, Bool.or_false]
                      have step1 : Hid (hitU told v (e1, e2) u = true → false = (fr && !((r.take (z + 1)).any (hitU told v (e1, e2))))) := by
                        intro h
                        rw [Hany.out, h, Bool.or_true]
                        simp
                      by_cases t1 : e1 = ((u : Nat) : Int)
                      · have b1' : (e1 == ((u : Nat) : Int)) = true := by simpa using t1
                        by_cases t2 : e2 = ((v : Nat) : Int)
                        · have b2' : (e2 == ((v : Nat) : Int)) = true := by simpa using t2
                          by_cases t3 : u = v
                          · have b3' : (((u : Nat) : Int) != ((v : Nat) : Int)) = false := by simp [t3]
                            have HS : Hid (g = (fr && !((r.take (z + 1)).any (hitU told v (e1, e2))))) := step0.out (by unfold hitU; simp [t3])
                            clear t1 t2 t3
                            go_wp2_with fail
                            go_roundg (rm - (z + 1))
                            case rel => exact ⟨z + 1, g, rfl, by go_num, by omega, rfl, HS.out, HBw.out⟩
                            case measure => have := Hk5.out; omega
                          · have b3' : (((u : Nat) : Int) != ((v : Nat) : Int)) = true := by simp; omega
                            obtain ⟨c2, hc2⟩ : ∃ c2, told u = c2 := ⟨_, rfl⟩
                            by_cases t4 : c2 = 0
                            · have HS : Hid (false = (fr && !((r.take (z + 1)).any (hitU told v (e1, e2))))) := step1.out (by unfold hitU; simp [t1, t2, t3, t4, hc2])
                              have Hc2 : Hid (told u = 0) := hc2.trans t4
                              clear t1 t2 t3 t4 hc2
                              go_wp2_with (at_lookup; refine wpList_lookIw _ (by kernel_rfl) _ _ 144 rfl 3 3 Tryz.underlying3 Tryz.underlying144 (zint _) wo.heap.size j told rfl HMz.out u rfl (by omega) 0 Hc2.out ?_)
                              go_roundg (rm - (z + 1))
                              case rel => exact ⟨z + 1, false, rfl, by go_num, by omega, rfl, HS.out, HBw.out⟩
                              case measure => have := Hk5.out; omega
                            · have HS : Hid (g = (fr && !((r.take (z + 1)).any (hitU told v (e1, e2))))) := step0.out (by unfold hitU; simp [t4, hc2])
                              have b4' : (((c2 : Nat) : Int) == 0) = false := by simp; omega
                              have Hc2 := Lib.hid hc2
                              clear t1 t2 t3 t4 hc2
                              go_wp2_with (at_lookup; refine wpList_lookIw _ (by kernel_rfl) _ _ 144 rfl 3 3 Tryz.underlying3 Tryz.underlying144 (zint _) wo.heap.size j told rfl HMz.out u rfl (by omega) c2 Hc2.out ?_)
                              go_roundg (rm - (z + 1))
                              case rel => exact ⟨z + 1, g, rfl, by go_num, by omega, rfl, HS.out, HBw.out⟩
                              case measure => have := Hk5.out; omega
                        · have b2' : (e2 == ((v : Nat) : Int)) = false := by simpa using t2
                          have HS : Hid (g = (fr && !((r.take (z + 1)).any (hitU told v (e1, e2))))) := step0.out (by unfold hitU; simp [t2])
                          clear t1 t2
                          go_wp2_with fail
                          go_roundg (rm - (z + 1))
                          case rel => exact ⟨z + 1, g, rfl, by go_num, by omega, rfl, HS.out, HBw.out⟩
                          case measure => have := Hk5.out; omega
                      · have b1' : (e1 == ((u : Nat) : Int)) = false := by simpa using t1
                        have HS : Hid (g = (fr && !((r.take (z + 1)).any (hitU told v (e1, e2))))) := step0.out (by unfold hitU; simp [t1])
                        clear t1
                        go_wp2_with fail
                        go_roundg (rm - (z + 1))
                        case rel => exact ⟨z + 1, g, rfl, by go_num, by omega, rfl, HS.out, HBw.out⟩
                        case measure => have := Hk5.out; omega
                    · have hzr : z = rm := by omega
                      have HS : Hid (g = (f0 && !((strong.take (y + 1)).any (hitE r told v)))) := by
                        show _ = _
                        have h1 := any_snoc (p := hitE r told v) (0, 0) (l := strong) (i := y) (by rw [Hs.out]; exact hyl)
                        have h2 := Hg.out
                        rw [List.take_of_length_le (by rw [← Hrm.out, hzr]; exact Nat.le_refl _), Hfr.out] at h2
                        rw [h1, He.out, h2, Bool.not_or, Bool.and_assoc]
                        rfl
                      have HBn : Hid (Below wc.heap.size wc wr) := HBce.out.trans (HBw.out.mono HBce.out.size)
                      clear hzr
                      go_wp2_with fail
                      go_roundg (s - (y + 1))
                      case rel => exact ⟨y + 1, g, rfl, by go_num, by omega, rfl, HS.out, HBn.out⟩
                      case measure => have := Hk4.out; omega
                · have hyr : y = s := by omega
                  have hfree : fr = freeV strong r told v := by
                    have h2 := Hfr.out
                    rw [List.take_of_length_le (by rw [Hs.out, hyr]; exact Nat.le_refl _), ← Hf0.out] at h2
                    rw [h2, freeV_hit]
                  have hgd : r.getD x 0 = v := Hv.out
                  have hxr : x < r.length := by rw [← Hrm.out]; exact hxl
                  have HBn : Hid (Below wb.heap.size wb wr) := HBb.out.trans (HBc.out.mono HBb.out.size)
                  cases hfr' : fr with
                  | false =>
                    have HS : Hid (BestV (freeV strong r told) r (x + 1) b1) := Hbest.out.keep hxr (Or.inl (by rw [hgd, ← hfree, hfr']))
                    subst hfr'
                    clear hfree hgd hxr hyr
                    go_wp2_with fail
                    go_roundg (rm - (x + 1))
                    case rel => exact ⟨x + 1, b1, rfl, by go_num, by omega, rfl, HS.out, HBn.out⟩
                    case measure => have := Hk3.out; omega
                  | true =>
                    by_cases hb1 : b1 < 0
                    · have HS : Hid (BestV (freeV strong r told) r (x + 1) ((v : Nat) : Int)) := by
                        have := Hbest.out.take hxr (by rw [hgd, ← hfree, hfr']) hb1
                        rwa [hgd] at this
                      have hdb : decide (b1 < 0) = true := decide_eq_true hb1
                      subst hfr'
                      clear hfree hgd hxr hyr
                      go_wp2_with fail
                      go_roundg (rm - (x + 1))
                      case rel => exact ⟨x + 1, _, rfl, by go_num, by omega, rfl, HS.out, HBn.out⟩
                      case measure => have := Hk3.out; omega
                    · have HS : Hid (BestV (freeV strong r told) r (x + 1) b1) := Hbest.out.keep hxr (Or.inr (by omega))
                      have hdb : decide (b1 < 0) = false := decide_eq_false hb1
                      subst hfr'
                      clear hfree hgd hxr hyr
                      go_wp2_with fail
                      go_roundg (rm - (x + 1))
                      case rel => exact ⟨x + 1, b1, rfl, by go_num, by omega, rfl, HS.out, HBn.out⟩
                      case measure => have := Hk3.out; omega
            · have hxr : x = rm := by omega
              have HB1 : Hid (BestV (freeV strong r told) r r.length b1) := by
                have := Hbest.out
                rwa [hxr, Hrm.out] at this
              clear hxr
              obtain ⟨wc, rfl⟩ : ∃ wc : World, wc = wr := ⟨_, rfl⟩
              go_wp2_with fail
              go_loopg [16, 115] rm (fun k v16 v115 wr => ∃ (x : Nat) (b2 : Int), v16 = .int .i64 b2 ∧ v115 = .int .i64 x ∧ x ≤ rm ∧ k = rm - x ∧ BestW b1 told r x b2 ∧ wr = wc)
              case atStart => exact ⟨0, b1, rfl, rfl, Nat.zero_le _, rfl, HB1.out.toW, rfl⟩
              case round =>
                obtain ⟨y, b2, rfl, rfl, hy, hk, hW, rfl⟩ := hrel
                have Hk6 := Lib.hid hk
                have HW := Lib.hid hW
                clear hk hW
                have hbo : Below w8.heap.size w8 wr := HB8.out.trans (HBb.out.mono HB8.out.size)
                have HMr := Lib.hid (HM.out.below HBb.out HM.out.lt)
                by_cases hyl : y < rm
                · obtain ⟨v, hv⟩ : ∃ v, r.getD y 0 = v := ⟨_, rfl⟩
                  have hvn : v < n := by rw [← hv]; exact Hlt.out y hyl
                  have c0 : wr.cell? ⟨rb, ro + y, none⟩ = some (.int .i64 ((v : Nat) : Int)) := (hbo.cell (p := ⟨rb, ro + y, none⟩) hrb).trans (by have := Hrc.out y hyl; rw [hv] at this; exact this)
                  have hyr : y < r.length := by rw [← Hrm.out]; exact hyl
                  obtain ⟨c, hc⟩ : ∃ c, told v = c := ⟨_, rfl⟩
                  by_cases hb2 : b2 < 0
                  · have hdb : decide (b2 < 0) = true := decide_eq_true hb2
                    by_cases hc0 : c = 0
                    · have HS : Hid (BestW b1 told r (y + 1) ((v : Nat) : Int)) := by
                        have := HW.out.take hyr (by rw [hv, hc, hc0]; rfl) hb2
                        rwa [hv] at this
                      have Hc : Hid (told v = 0) := hc.trans hc0
                      clear hc hc0 hyr hv hbo
                      go_wp2_with (at_lookup; refine wpList_lookIw _ (by kernel_rfl) _ _ 144 rfl 3 3 Tryz.underlying3 Tryz.underlying144 (zint _) wo.heap.size j told rfl HMr.out v rfl (by omega) 0 Hc.out ?_)
                      go_roundg (rm - (y + 1))
                      case rel => exact ⟨y + 1, _, rfl, by go_num, by omega, rfl, HS.out, rfl⟩
                      case measure => have := Hk6.out; omega
                    · have HS : Hid (BestW b1 told r (y + 1) b2) := HW.out.keep hyr (Or.inl (by rw [hv, hc]; simpa using hc0))
                      have bz : (((c : Nat) : Int) == 0) = false := by simp; omega
                      have Hc := Lib.hid hc
                      clear hc hc0 hyr hv hbo
                      go_wp2_with (at_lookup; refine wpList_lookIw _ (by kernel_rfl) _ _ 144 rfl 3 3 Tryz.underlying3 Tryz.underlying144 (zint _) wo.heap.size j told rfl HMr.out v rfl (by omega) c Hc.out ?_)
                      go_roundg (rm - (y + 1))
                      case rel => exact ⟨y + 1, _, rfl, by go_num, by omega, rfl, HS.out, rfl⟩
                      case measure => have := Hk6.out; omega
                  · have hdb : decide (b2 < 0) = false := decide_eq_false hb2
                    have HS : Hid (BestW b1 told r (y + 1) b2) := HW.out.keep hyr (Or.inr (by omega))
                    clear hc hyr hv hbo
                    go_wp2_with fail
                    go_roundg (rm - (y + 1))
                    case rel => exact ⟨y + 1, _, rfl, by go_num, by omega, rfl, HS.out, rfl⟩
                    case measure => have := Hk6.out; omega
                · have hyr : y = rm := by omega
                  have hLne : leftOf r told ≠ [] := by
                    intro e
                    have := Hlj.out
                    rw [e] at this
                    simp at this
                    omega
                  have hpick : b2 = (((leftOf r told).getD (pickK strong (leftOf r told)) 0 : Nat) : Int) := best_pick hLne HB1.out (by
                    have := HW.out
                    rwa [hyr, Hrm.out] at this)
                  have hKl := pickK_lt strong hLne
                  have hstep := lineOf_step strong hLne
                  have hleft := leftOf_told Hnd.out hKl
                  obtain ⟨v, hv⟩ : ∃ v, (leftOf r told).getD (pickK strong (leftOf r told)) 0 = v := ⟨_, rfl⟩
                  rw [hv] at hpick hstep hleft
                  rw [← hleft] at hstep
                  have hvL : v ∈ leftOf r told := by rw [← hv]; exact mem_getD' _ hKl
                  have hvm : v ∈ r := (List.mem_filter.1 hvL).1
                  have hc : told v = 0 := by simpa using (List.mem_filter.1 hvL).2
                  have hvn : v < n := by
                    obtain ⟨z, hz, e⟩ := List.getElem_of_mem hvm
                    have := Hlt.out z (by rw [Hrm.out]; exact hz)
                    rw [show r.getD z 0 = v by simp [List.getD, List.getElem?_eq_getElem hz, e]] at this
                    exact this
                  have hlen2 : (leftOf r (fun u => if u = v then told u + 1 else told u)).length = rm - (j + 1) := by
                    rw [hleft, List.length_eraseIdx, if_pos hKl, Hlj.out]
                    omega
                  have hf : (fun x => if x = v then 1 else told x) = fun u => if u = v then told u + 1 else told u := by
                    funext u
                    by_cases e : u = v
                    · rw [if_pos e, if_pos e, e, hc]
                    · rw [if_neg e, if_neg e]
                  rw [← hf] at hstep hlen2
                  subst hpick
                  have Hc := Lib.hid hc
                  have Hlen2 := Lib.hid hlen2
                  have HOw : Hid (wr.ownsRow w8.heap.size 3 1 outv acc.length (natRow acc)) := ownsRow_kept Hown2.out (fun k e => HBb.out.block k (Hown2.out.lt k e).2)
                  have HB8r := Lib.hid hbo
                  have hlo : w8.heap.size ≤ wo.heap.size := HB.out.size
                  have HL : Hid ((acc ++ [v]) ++ lineOf strong (leftOf r (fun x => if x = v then 1 else told x)) = linesOf strong (rings.take (i + 1))) := by
                    show _ = _
                    rw [← Hlines.out, hstep]
                    simp
                  clear hc hstep hlen2 hf hvm hvL hleft hv hKl hLne hyr hbo
                  go_upto_region 40 with (first | (at_lookup; refine wpList_lookI _ rfl _ _ 144 rfl 3 3 Tryz.underlying3 Tryz.underlying144 (zint _) wo.heap.size j told rfl HMr.out v rfl (by omega) 0 Hc.out ?_) | (at_mapUpdate; refine wpList_storeI _ rfl _ _ _ 144 rfl 3 3 Tryz.underlying3 Tryz.underlying144 wo.heap.size j told rfl HMr.out (by unfold maxLen; omega) v rfl (by omega) 1 rfl ?_; intro w9 hM9 hg9))
                  have HM9 := Lib.hid hM9
                  have hO9 := ownsRow_kept HOw.out (fun k e => hg9.block k (HOw.out.lt k e).2 (fun e' => Hne.out (by rw [e, e'])))
                  have hB9 : Below w8.heap.size w8 w9 := HB8r.out.grown hg9 HB8r.out.size (fun k e => by injection e with e; omega)
                  have HO9 := Lib.hid hO9
                  have HB9 := Lib.hid hB9
                  clear hM9 hg9 hO9 hB9
                  go_wp2_with (at_builtin; refine wpList_append_own_at _ rfl _ _ 31 rfl w8.heap.size 3 i1 _ 1 8 Tryz.underlying31 Hi1.out.1 Hi1.out.2.1 Hi1.out.2.2.1 Hi1.out.2.2.2 rfl (by decide) outv acc.length (natRow acc) rfl (HO9.out.alloc _) ⟨w9.heap.size, 0, none⟩ 1 1 [.int .i64 ((v : Nat) : Int)] rfl rfl (World.news_of_block (cs := #[.int .i64 ((v : Nat) : Int)]) (t := 3) (fr := (0, 0)) (heap_alloc_new w9 _)) (by simp [Value.oneCell']) (by have := Hacc.out; unfold maxLen; omega) (by have := Hacc.out; omega) (by have := HB9.out.size; simp; omega) ?_; intro ov10 w10 hown10 hg10 hx10 hat10)
                  have hM10 := (HM9.out.below ((Below.refl w9.heap.size w9).alloc (Nat.le_refl _) (.cells #[.int .i64 ((v : Nat) : Int)] 3)) HM9.out.lt).grown hg10 (fun e => Hne.out e.symm)
                  have hB10 : Below w8.heap.size w8 w10 := (HB9.out.alloc HB9.out.size _).grown hg10 (by have := HB9.out.size; simp; omega) (fun k e => (HO9.out.lt k e).1)
                  have hne10 : ov10.ownBlock ≠ some wo.heap.size := by
                    rcases hat10 with e | e
                    · rw [e]; exact Hne.out
                    · rw [e]
                      intro e'
                      injection e' with e'
                      have h3 : (w9.alloc (.cells #[.int .i64 ((v : Nat) : Int)] 3)).heap.size = w9.heap.size + 1 := by simp
                      have := HM9.out.lt
                      omega
                  have hown10' : w10.ownsRow w8.heap.size 3 1 ov10 (acc ++ [v]).length (natRow (acc ++ [v])) := by
                    have q1 : (acc ++ [v]).length = acc.length + 1 := by simp
                    have q2 : natRow (acc ++ [v]) = natRow acc ++ [.int .i64 ((v : Nat) : Int)] := by simp [natRow]
                    rw [q1, q2]
                    exact hown10
                  have HM10 := Lib.hid hM10
                  have HB10 := Lib.hid hB10
                  have Hne10 := Lib.hid hne10
                  have HO10 := Lib.hid hown10'
                  clear hM10 hB10 hne10 hown10 hown10' hg10 hat10 hx10
                  go_wp2_with fail
                  go_roundg (rm - (j + 1))
                  case rel => exact ⟨j + 1, ov10, _, acc ++ [v], rfl, by go_num, by omega, rfl, Hlen2.out, by have := Hacc.out; simp; omega, HL.out, HM10.out, HO10.out, Hne10.out, HB10.out⟩
                  case measure => have := Hk2.out; omega
        · have hL0 : leftOf r told = [] := List.length_eq_zero_iff.1 (by have := Hlj.out; omega)
          have hfin := Hlines.out
          rw [hL0, lineOf_nil, List.append_nil] at hfin
          have HO2 : Hid (wr.ownsRow w8.heap.size 3 1 outv (linesOf strong (rings.take (i + 1))).length (natRow (linesOf strong (rings.take (i + 1))))) := by
            show World.ownsRow _ _ _ _ _ _ _
            rw [← hfin]; exact Hown2.out
          have HL2 : Hid ((linesOf strong (rings.take (i + 1))).length ≤ (i + 1) * 40) := by show _ ≤ _; rw [← hfin]; have := Hacc.out; omega
          clear hL0 hfin
          go_wp2_with fail
          go_roundg (m - (i + 1))
          case rel => exact ⟨i + 1, _, rfl, by go_num, by omega, rfl, HO2.out, HL2.out, HB8.out⟩
          case measure => have := Hk.out; omega
    · obtain rfl : m = i := by omega
      have hfull : rings.take m = rings := List.take_of_length_le (by rw [Hm.out]; exact Nat.le_refl _)
      have hR := row_owned Hown.out
      rw [hfull] at hR
      have hO := Hown.out
      rw [hfull] at hO
      have HRow := Lib.hid hR
      have HOo := Lib.hid hO
      have hb0 : Below w0.heap.size w0 wr := Hb4.out.trans ((Hb48.out.trans (HB.out.mono Hb48.out.size)).mono Hb4.out.size)
      have hfn := HN.out.below hb0 (Nat.le_refl _)
      have hrc := HRC.out.below hb0 HRC.out.lt
      have f0 := hfn.c0
      have f1 := hfn.c1
      have fl := hfn.lt
      have c0 := hrc.c0
      have c1 := hrc.c1
      have z0 := hrc.z0
      have z1 := hrc.z1
      have hrl := hrc.lt
      have d0 := hrc.d0 (.int .i64 0)
      have d1 := hrc.d1 (.int .i64 0) (.int .i64 (-1))
      obtain ⟨oa, om, oc, hov⟩ : ∃ a m c, outv = .slice a m c := by
        rcases hO.2 with ⟨e, _⟩ | ⟨g, cap, cur, e, _⟩
        · exact ⟨_, _, _, e⟩
        · exact ⟨_, _, _, e⟩
      have Hb0 := Lib.hid hb0
      clear hfull hR hO hfn hrc hb0
      subst hov
      go_wp2_with fail
      go_region
      go_wp2_with fail
      try simp only [Exit.inBlock, Exit.then]
      refine bodyPost_ret (v := .tuple #[.slice oa om oc, .agg #[.int .i64 0, .int .i64 (-1)]]) (by simp [results, Tryz.results52, go_sem, d0, d1]; try rfl) rfl ?_
      have hL : lineR ((n : Nat) : Int) weak strong = (0, -1) := (if_pos Hr1.out).trans Hr.out
      refine ⟨.slice oa om oc, linesOf strong rings, by rw [hL], ?_, fun h => absurd hL h, fun _ m' hm' => ?_, ?_⟩
      · refine row_owned (base := w8.heap.size) (ownsRow_kept HOo.out (fun k e => ?_))
        have hk : k ≠ w.heap.size := by
          have h1 := (HOo.out.lt k e).1
          have h2 := HRC.out.lt
          have h3 := Hb4.out.size
          have h4 := Hb48.out.size
          omega
        show ((wr.setCell _ _).setCell _ _).heap[k]? = _
        rw [heap_setCell_ne _ _ 1 _ hk, heap_setCell_ne _ _ 0 _ hk]
      · obtain rfl : n = m' := by omega
        exact ⟨rings, HOrd.out, HAll.out, rfl⟩
      · exact (((HB0.out.trans (Hb0.out.mono HB0.out.size)).setCell (Nat.le_refl _) _).setCell (Nat.le_refl _) _).drew
end Go.Proofs.YtnfnebfioibndaaGreatDoor
