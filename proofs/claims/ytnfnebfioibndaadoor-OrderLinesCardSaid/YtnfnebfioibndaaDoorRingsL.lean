/- The walk of OrderRings. (Written by gen_ringsl.py.) -/
import Derived.Test.YtnfnebfioibndaaDoorRefRings
import Derived.Test.YtnfnebfioibndaaDoorLawE
import Derived.Test.YtnfnebfioibndaaDoorSame
namespace Go.Proofs.YtnfnebfioibndaaDoor
open Go.RowKit
set_option maxRecDepth 100000
set_option maxHeartbeats 4000000

theorem rings_calls (v : Value) (l : List EdgeD) (n : Int) (w : World) (hE : Edges w v l) (hlen : l.length ≤ 100000) :
    Calls Tryd.prog 26 #[.int .i64 n, v] w (RingsE w n l) := by
  by_cases hr : rightR n l = (0, -1)
  · obtain ⟨m, rfl, _, _⟩ := right_fine hr
    exact rings_good v l m w hE hr hlen
  · exact rings_bad v l n w hE hr
theorem refRings_calls (v : Value) (l : List EdgeD) (n : Int) (w : World) (hE : Edges w v l) (hN : FineR w) (hlen : l.length ≤ 100000) :
    Calls Tryd.prog 25 #[.int .i64 n, v] w (RefRingsE w n l) := by
  rcases right_cases n l with hr | hr | ⟨i, hr⟩
  · obtain ⟨m, rfl, _, _⟩ := right_fine hr
    exact refRings_good v l m w hE hN hr hlen
  · exact refRings_bad v l n w hE hN 4 (-1) hr (by decide) neq_four
  · exact refRings_bad v l n w hE hN 2 i hr (by simp) (neq_two i)
theorem Rows2.form {w : World} {v : Value} {xss : List (List Nat)} (h : Rows2 w v xss) : ∃ (a : Option Addr) (cap : Nat) (V : Nat → Value), v = .slice a xss.length cap ∧ xss.length ≤ cap ∧ cap ≤ 9223372036854775807 ∧ (xss.length = 0 ∨ ∃ b o, a = some ⟨b, o, none⟩ ∧ b < w.heap.size ∧ ∀ i, i < xss.length → w.cell? ⟨b, o + i, none⟩ = some (V i)) ∧ ∀ i, i < xss.length → Row w (V i) (ringAt xss i) := by
  obtain ⟨V, ⟨a, cap, rfl, h1, h2, h3⟩, hr⟩ := h
  unfold maxLen at h2
  refine ⟨a, cap, V, rfl, h1, by omega, h3.imp id fun ⟨b, o, e, hb, hc⟩ => ⟨b, o, e, hb, fun i hi => ?_⟩, hr⟩
  have := hc i 0 hi (by decide)
  simpa using this
theorem Row.slice {w : World} {v : Value} {S : List Nat} (h : Row w v S) : ∃ a m c, v = .slice a m c := by
  obtain ⟨a, c, e, _⟩ := h
  exact ⟨_, _, _, e⟩

theorem orderRings_calls (v : Value) (l : List EdgeD) (n : Int) (w : World) (hE : Edges w v l) (hErr : ErrVar w) (hN : FineR w) :
    Calls Tryd.prog 6 #[.int .i64 n, v] w fun ev w' => ev = .returned (.bool true) ∧ Below w.heap.size w w' := by
  obtain ⟨m, hm⟩ : ∃ m, l.length = m := ⟨_, rfl⟩
  have hE0 := hE
  obtain ⟨al, cl, rfl, hcl, hml, -⟩ := hE
  unfold maxLen at hml
  rw [hm] at hcl hE0 ⊢
  have HE := Lib.hid hE0
  have Hm := Lib.hid hm
  clear hm hE0
  by_cases h80 : 80 < m
  · have e1 : decide (((m : Nat) : Int) > 80) = true := decide_eq_true (by omega)
    clear hErr hN
    go_enter Tryd.func6, Tryd.ntmps6
    go_wp2_with fail
    go_ret
    exact ⟨rfl, Below.refl _ _⟩
  · have CR := Lib.hid (refRings_calls _ l n w HE.out hN (by have := Hm.out; omega))
    have HErr := Lib.hid hErr
    clear hErr hN
    go_enter Tryd.func6, Tryd.ntmps6
    go_wp2_with fail
    refine CR.out.mono ?_
    rintro e1 w1 ⟨rv2, outs2, rfl, hR2, hb2, hg2, hl2, hB1⟩
    obtain ⟨p, q', hpq⟩ : ∃ p q, rightR n l = (p, q) := ⟨_, _, rfl⟩
    obtain ⟨a2', cp2, V2, hrv2, hq2, hc2, hx2, hy2⟩ := hR2.form
    have HR2 := Lib.hid hR2
    have Hpq := Lib.hid hpq
    have HO2 := Lib.hid (And.intro hb2 (And.intro hg2 hl2))
    have HB1 := Lib.hid hB1
    rw [hpq]
    rw [hrv2]
    have Hrv2 := Lib.hid hrv2
    have Hx2 := Lib.hid hx2
    have Hy2 := Lib.hid hy2
    clear hR2 hpq hb2 hg2 hl2 hB1 CR hrv2 hx2 hy2
    go_wp2_with fail
    have hB1a : Below w.heap.size w (w1.alloc (.cells #[.int .i64 p, .int .i64 q'] 62)) := HB1.out.alloc HB1.out.size _
    have HB1a := Lib.hid hB1a
    refine (lawEdges_calls _ l _ (HE.out.below hB1a (Nat.le_refl _)) (by have := Hm.out; omega)).mono ?_
    rintro e2 w2 ⟨ov, rfl, hEo, hB2⟩
    have HB2 := Lib.hid hB2
    have CO := Lib.hid (rings_calls ov l n w2 hEo (by have := Hm.out; omega))
    clear hB1a hEo hB2
    go_wp2_with fail
    refine CO.out.mono ?_
    rintro e3 w3 ⟨rv, ev, outs, rfl, hEv, hR, hb, hg, hlo, hB3⟩
    have hoo : outs = outs2 := by
      by_cases hr : rightR n l = (0, -1)
      · obtain ⟨k, hk, _, _⟩ := right_fine hr
        obtain ⟨g1, g2⟩ := hg hr k hk
        obtain ⟨g3, g4⟩ := HO2.out.2.1 hr k hk
        exact g1.eq g3 g2 g4
      · rw [hb hr, HO2.out.1 hr]
    subst hoo
    rw [Hpq.out] at hEv
    have hB13 : Below (w1.alloc (.cells #[.int .i64 p, .int .i64 q'] 62)).heap.size (w1.alloc (.cells #[.int .i64 p, .int .i64 q'] 62)) w3 := HB2.out.trans (hB3.mono HB2.out.size)
    have f0 : w3.cell? ⟨w1.heap.size, 0, none⟩ = some (.int .i64 p) := (hB13.cell (p := ⟨w1.heap.size, 0, none⟩) (by simp)).trans (by simp [go_sem])
    have f1 : w3.cell? ⟨w1.heap.size, 1, none⟩ = some (.int .i64 q') := (hB13.cell (p := ⟨w1.heap.size, 1, none⟩) (by simp)).trans (by simp [go_sem])
    have hsz := hB13.size
    have hB1w : Below w.heap.size w w3 := HB1a.out.trans (hB13.mono HB1a.out.size)
    have CI := is_calls ev p q' p q' w3 (HErr.out.below hB1w) hEv.v
    rw [show (p == p && q' == q') = true by simp] at CI
    have HCI := Lib.hid CI
    obtain ⟨q, hq⟩ : ∃ q, outs.length = q := ⟨_, rfl⟩
    obtain ⟨a1', cp1, V1, hrv, hq1, hc1, hx1, hy1⟩ := hR.form
    rw [hq] at hrv hq1 hx1 hy1 hlo Hx2 Hy2 hq2 ⊢
    rw [hrv]
    have Hx1 := Lib.hid hx1
    have Hy1 := Lib.hid hy1
    have HB3w := Lib.hid hB1w
    have HB13 : Hid (Below w1.heap.size w1 w3) := ((Below.refl _ _).alloc (Nat.le_refl _) _).trans (hB13.mono (by simp))
    have tn : (q != q) = false := by simp
    have tn2 : (((q : Nat) : Int) != ((q : Nat) : Int)) = false := by simp
    clear hEv hR hb hg hB3 hB13 hB1w CI hrv hx1 hy1 CO hq
    go_wp2_with fail
    refine HCI.out.mono ?_
    rintro e4 w4 ⟨rfl, hB4⟩
    have HB4 : Hid (Below w.heap.size w w4) := HB3w.out.trans (hB4.mono HB3w.out.size)
    have HB34 := Lib.hid hB4
    clear hB4 f0 f1 hsz
    go_wp2_with fail
    go_loopg [9] q (fun k v9 wr => ∃ i : Nat, v9 = .int .i64 i ∧ i ≤ q ∧ k = q - i ∧ Below w4.heap.size w4 wr)
    case atStart => exact ⟨0, rfl, Nat.zero_le _, rfl, Below.refl _ _⟩
    case round =>
      obtain ⟨i, rfl, hi, hk, hB⟩ := hrel
      have Hk := Lib.hid hk
      have HB := Lib.hid hB
      clear hk hB
      by_cases hlt : i < q
      · obtain ⟨b1, o1, rfl, hlb1, hv1⟩ := Hx1.out.resolve_left (by omega)
        obtain ⟨b2, o2, rfl, hlb2, hv2⟩ := Hx2.out.resolve_left (by omega)
        have hr1 := Hy1.out i hlt
        have hr2 := Hy2.out i hlt
        have hB3r : Below w3.heap.size w3 wr := HB34.out.trans (HB.out.mono HB34.out.size)
        have hB1r : Below w1.heap.size w1 wr := HB13.out.trans (hB3r.mono HB13.out.size)
        have d1 := (hB3r.cell (p := ⟨b1, o1 + i, none⟩) hlb1).trans (hv1 i hlt)
        have d2 := (hB1r.cell (p := ⟨b2, o2 + i, none⟩) hlb2).trans (hv2 i hlt)
        have lb1 : b1 < wr.heap.size := Nat.lt_of_lt_of_le hlb1 hB3r.size
        have lb2 : b2 < wr.heap.size := Nat.lt_of_lt_of_le hlb2 hB1r.size
        obtain ⟨a1, m1, c1, e1⟩ := hr1.slice
        obtain ⟨a2, m2, c2, e2⟩ := hr2.slice
        rw [e1] at d1 hr1
        rw [e2] at d2 hr2
        have CS : Hid (∀ w', Below wr.heap.size wr w' → Calls Tryd.prog 29 #[.slice a1 m1 c1, .slice a2 m2 c2] w' fun e w'' => e = .returned (.bool true) ∧ Below w'.heap.size w' w'') := fun w' hb => sameInts_calls _ _ (ringAt outs i) w' (hr1.below (hB3r.trans (hb.mono hB3r.size)) (Nat.le_refl _)) (hr2.below (hB1r.trans (hb.mono hB1r.size)) (Nat.le_refl _))
        clear hv1 hv2 hr1 hr2 hB3r hB1r e1 e2
        go_wp2_with fail
        refine wp_region_held_drew (S := (fun w' => Below wr.heap.size wr w' ∧ w'.cell? ⟨b1, o1 + i, none⟩ = some (.slice a1 m1 c1) ∧ w'.cell? ⟨b2, o2 + i, none⟩ = some (.slice a2 m2 c2))) (by kernel_rfl) ?_ (fun hHeld => ?_)
        · exact ⟨(Below.refl _ _).drew, d1, d2⟩
        refine wpAnyH_take (i := 0) (oi := _) (v := .slice (some ⟨b1, o1, none⟩) q cp1) rfl (by kernel_rfl) (by kernel_rfl) (by kernel_rfl) (fun _ _ _ h => h) (Or.inl ⟨by kernel_rfl, fun w hSw => ?_⟩) hHeld ?_
        · (try dsimp only at hSw); go_simp
        try simp only [Act.put, List.getElem_toArray, List.getElem_cons_succ, List.getElem_cons_zero, List.setIfInBounds_toArray, List.set_cons_zero, List.set_cons_succ]
        refine wpAnyH_take (i := 1) (oi := _) (v := .int .i64 ((i : Nat) : Int)) rfl (by kernel_rfl) (by kernel_rfl) (by kernel_rfl) (fun _ _ _ h => h) (Or.inl ⟨by kernel_rfl, fun w hSw => ?_⟩) hHeld ?_
        · (try dsimp only at hSw); go_simp
        try simp only [Act.put, List.getElem_toArray, List.getElem_cons_succ, List.getElem_cons_zero, List.setIfInBounds_toArray, List.set_cons_zero, List.set_cons_succ]
        refine wpAnyH_take (i := 2) (oi := _) (v := .pointer (some ⟨b1, o1 + i, none⟩)) rfl (by kernel_rfl) (by kernel_rfl) (by kernel_rfl) (fun _ _ _ h => h) (Or.inl ⟨by kernel_rfl, fun w hSw => ?_⟩) hHeld ?_
        · (try dsimp only at hSw); go_simp
        try simp only [Act.put, List.getElem_toArray, List.getElem_cons_succ, List.getElem_cons_zero, List.setIfInBounds_toArray, List.set_cons_zero, List.set_cons_succ]
        refine wpAnyH_take (i := 3) (oi := _) (v := .slice a1 m1 c1) rfl (by kernel_rfl) (by kernel_rfl) (by kernel_rfl) (fun _ _ _ h => h) (Or.inl ⟨by kernel_rfl, fun w hSw => ?_⟩) hHeld ?_
        · (try dsimp only at hSw); go_simp
        try simp only [Act.put, List.getElem_toArray, List.getElem_cons_succ, List.getElem_cons_zero, List.setIfInBounds_toArray, List.set_cons_zero, List.set_cons_succ]
        refine wpAnyH_take (i := 4) (oi := _) (v := .slice (some ⟨b2, o2, none⟩) q cp2) rfl (by kernel_rfl) (by kernel_rfl) (by kernel_rfl) (fun _ _ _ h => h) (Or.inl ⟨by kernel_rfl, fun w hSw => ?_⟩) hHeld ?_
        · (try dsimp only at hSw); go_simp
        try simp only [Act.put, List.getElem_toArray, List.getElem_cons_succ, List.getElem_cons_zero, List.setIfInBounds_toArray, List.set_cons_zero, List.set_cons_succ]
        refine wpAnyH_take (i := 5) (oi := _) (v := .int .i64 ((i : Nat) : Int)) rfl (by kernel_rfl) (by kernel_rfl) (by kernel_rfl) (fun _ _ _ h => h) (Or.inl ⟨by kernel_rfl, fun w hSw => ?_⟩) hHeld ?_
        · (try dsimp only at hSw); go_simp
        try simp only [Act.put, List.getElem_toArray, List.getElem_cons_succ, List.getElem_cons_zero, List.setIfInBounds_toArray, List.set_cons_zero, List.set_cons_succ]
        refine wpAnyH_take (i := 6) (oi := _) (v := .pointer (some ⟨b2, o2 + i, none⟩)) rfl (by kernel_rfl) (by kernel_rfl) (by kernel_rfl) (fun _ _ _ h => h) (Or.inl ⟨by kernel_rfl, fun w hSw => ?_⟩) hHeld ?_
        · (try dsimp only at hSw); go_simp
        try simp only [Act.put, List.getElem_toArray, List.getElem_cons_succ, List.getElem_cons_zero, List.setIfInBounds_toArray, List.set_cons_zero, List.set_cons_succ]
        refine wpAnyH_take (i := 7) (oi := _) (v := .slice a2 m2 c2) rfl (by kernel_rfl) (by kernel_rfl) (by kernel_rfl) (fun _ _ _ h => h) (Or.inl ⟨by kernel_rfl, fun w hSw => ?_⟩) hHeld ?_
        · (try dsimp only at hSw); go_simp
        try simp only [Act.put, List.getElem_toArray, List.getElem_cons_succ, List.getElem_cons_zero, List.setIfInBounds_toArray, List.set_cons_zero, List.set_cons_succ]
        refine wpAnyH_ready (rs := [8]) (by kernel_rfl) (by simp) ?_
        refine AllReadyH.cons (o := _) rfl (fun K hK => ?_) AllReadyH.nil
        go_simp
        go_at_call 29
        refine (CS.out _ hHeld.1).mono ?_
        rintro e w' ⟨rfl, hb⟩
        have hb2 : Below wr.heap.size wr w' := hHeld.1.trans (hb.mono hHeld.1.size)
        refine hK.out _ _ ⟨hb2, (hb2.cell (p := ⟨b1, o1 + i, none⟩) lb1).trans d1, (hb2.cell (p := ⟨b2, o2 + i, none⟩) lb2).trans d2⟩ (fun hHeld2 => ?_)
        clear hK K hHeld
        have hHeld := hHeld2
        clear hHeld2
        try simp only [Act.put, List.getElem_toArray, List.getElem_cons_succ, List.getElem_cons_zero, List.setIfInBounds_toArray, List.set_cons_zero, List.set_cons_succ]
        refine wpAnyH_take (i := 9) (oi := _) (v := .bool false) rfl (by kernel_rfl) (by kernel_rfl) (by kernel_rfl) (fun _ _ _ h => h) (Or.inl ⟨by kernel_rfl, fun w hSw => ?_⟩) hHeld ?_
        · (try dsimp only at hSw); go_simp
        try simp only [Act.put, List.getElem_toArray, List.getElem_cons_succ, List.getElem_cons_zero, List.setIfInBounds_toArray, List.set_cons_zero, List.set_cons_succ]
        refine wpAnyH_done (by kernel_rfl) ?_ _
        have HB5 : Hid (Below w4.heap.size w4 _) := HB.out.trans (hHeld.1.mono HB.out.size)
        clear hHeld hb hb2 CS d1 d2
        go_wp2_with fail
        go_roundg (q - (i + 1))
        case rel => exact ⟨i + 1, by go_num, by omega, rfl, HB5.out⟩
        case measure => have := Hk.out; omega
      · obtain rfl : q = i := by omega
        go_wp2_with fail
        go_ret
        exact ⟨rfl, HB4.out.trans (HB.out.mono HB4.out.size)⟩
end Go.Proofs.YtnfnebfioibndaaDoor
