/- The walk of OrderLines. -/
import Derived.Test.YtnfnebfioibndaaDoorRefLine
import Derived.Test.YtnfnebfioibndaaDoorLawE
import Derived.Test.YtnfnebfioibndaaDoorSame
namespace Go.Proofs.YtnfnebfioibndaaDoor
open Go.RowKit
set_option maxRecDepth 100000
set_option maxHeartbeats 4000000

theorem refLine_calls (v1 v2 : Value) (weak strong : List EdgeD) (n : Int) (w : World) (hE : Edges w v1 weak) (hE2 : Edges w v2 strong) (hN : FineR w) (hl1 : weak.length ≤ 50000) (hl2 : strong.length ≤ 50000) :
    Calls Tryd.prog 30 #[.int .i64 n, v1, v2] w (RefLineE w n weak strong) := by
  rcases right_cases n weak with hr | hr | ⟨i, hr⟩
  · rcases right_cases n strong with hr2 | hr2 | ⟨i, hr2⟩
    · obtain ⟨m, rfl, _, _⟩ := right_fine hr
      exact refLine_good v1 v2 weak strong m w hE hE2 hN hr hr2 hl1 hl2
    · exact refLine_bad2 v1 v2 weak strong n w hE hE2 hN hr 4 (-1) hr2 (by decide) neq_four
    · exact refLine_bad2 v1 v2 weak strong n w hE hE2 hN hr 2 i hr2 (by simp) (neq_two i)
  · exact refLine_bad1 v1 v2 weak strong n w hE hN 4 (-1) hr (by decide) neq_four
  · exact refLine_bad1 v1 v2 weak strong n w hE hN 2 i hr (by simp) (neq_two i)

theorem orderLines_calls (v1 v2 : Value) (es fs : List EdgeD) (n : Int) (w : World) (hE : Edges w v1 es) (hF : Edges w v2 fs) (hErr : ErrVar w) (hN : FineR w) :
    Calls Tryd.prog 7 #[.int .i64 n, v1, v2] w fun ev w' => ev = .returned (.bool true) ∧ Below w.heap.size w w' := by
  obtain ⟨m1, hm1⟩ : ∃ m, es.length = m := ⟨_, rfl⟩
  obtain ⟨m2, hm2⟩ : ∃ m, fs.length = m := ⟨_, rfl⟩
  have hE0 := hE
  have hF0 := hF
  obtain ⟨al, cl, rfl, hcl, hml, -⟩ := hE
  obtain ⟨bl, dl, rfl, hdl, hnl, -⟩ := hF
  unfold maxLen at hml hnl
  rw [hm1] at hcl hE0 ⊢
  rw [hm2] at hdl hF0 ⊢
  have HE := Lib.hid hE0
  have HF := Lib.hid hF0
  have Hm1 := Lib.hid hm1
  have Hm2 := Lib.hid hm2
  clear hm1 hm2 hE0 hF0
  by_cases h60 : 60 < m1
  · have e1 : decide (((m1 : Nat) : Int) > 60) = true := decide_eq_true (by omega)
    clear hErr hN
    go_enter Tryd.func7, Tryd.ntmps7
    go_wp2_with fail
    go_ret
    exact ⟨rfl, Below.refl _ _⟩
  · have e1 : decide (((m1 : Nat) : Int) > 60) = false := decide_eq_false (by omega)
    by_cases k60 : 60 < m2
    · have e2 : decide (((m2 : Nat) : Int) > 60) = true := decide_eq_true (by omega)
      clear hErr hN
      go_enter Tryd.func7, Tryd.ntmps7
      go_wp2_with fail
      go_ret
      exact ⟨rfl, Below.refl _ _⟩
    · have e2 : decide (((m2 : Nat) : Int) > 60) = false := decide_eq_false (by omega)
      have CR := Lib.hid (refLine_calls _ _ es fs n w HE.out HF.out hN (by have := Hm1.out; omega) (by have := Hm2.out; omega))
      have HErr := Lib.hid hErr
      clear hErr hN
      go_enter Tryd.func7, Tryd.ntmps7
      go_wp2_with fail
      refine CR.out.mono ?_
      rintro e1 w1 ⟨rv2, xs2, rfl, hR2, hb2, hg2, hB1⟩
      obtain ⟨p, q', hpq⟩ : ∃ p q, lineR n es fs = (p, q) := ⟨_, _, rfl⟩
      obtain ⟨ra, rm, rc, hrv2⟩ := hR2.slice
      rw [hpq, hrv2]
      rw [hrv2] at hR2
      have HR2 := Lib.hid hR2
      have Hpq := Lib.hid hpq
      have HO2 := Lib.hid (And.intro hb2 hg2)
      have HB1 := Lib.hid hB1
      clear hR2 hpq hb2 hg2 hB1 CR hrv2
      have HB1a : Hid (Below w.heap.size w (w1.alloc (.cells #[.int .i64 p, .int .i64 q'] 62))) := HB1.out.alloc HB1.out.size _
      have CE1 := Lib.hid (lawEdges_calls _ es _ (HE.out.below HB1a.out (Nat.le_refl _)) (by have := Hm1.out; omega))
      go_wp2_with fail
      refine CE1.out.mono ?_
      rintro ee1 w2 ⟨ov1, rfl, hEo1, hB2⟩
      have CE2 := Lib.hid (lawEdges_calls _ fs w2 (HF.out.below (HB1a.out.trans (hB2.mono HB1a.out.size)) (Nat.le_refl _)) (by have := Hm2.out; omega))
      have HEo1 := Lib.hid hEo1
      have HB2 := Lib.hid hB2
      clear hEo1 hB2 CE1
      go_wp2_with fail
      refine CE2.out.mono ?_
      rintro ee2 w3 ⟨ov2, rfl, hEo2, hB3⟩
      have CL := Lib.hid (line_calls ov1 ov2 es fs n w3 (HEo1.out.below hB3 (Nat.le_refl _)) hEo2 (by have := Hm1.out; omega) (by have := Hm2.out; omega))
      have HB3 := Lib.hid (HB2.out.trans (hB3.mono HB2.out.size))
      clear hEo2 hB3 CE2
      go_wp2_with fail
      refine CL.out.mono ?_
      rintro e3 w4 ⟨rv, ev, xs, rfl, hEv, hR, hb, hg, hB4⟩
      have hxx : xs = xs2 := by
        by_cases hr : lineR n es fs = (0, -1)
        · have hr1 : rightR n es = (0, -1) := by
            unfold lineR at hr
            split at hr
            · assumption
            · exact hr
          obtain ⟨k, hk, _, _⟩ := right_fine hr1
          obtain ⟨o1, g1, g2, g3⟩ := hg hr k hk
          obtain ⟨o2, g4, g5, g6⟩ := HO2.out.2 hr k hk
          rw [g3, g6, g1.eq g4 g2 g5]
        · rw [hb hr, HO2.out.1 hr]
      subst hxx
      rw [Hpq.out] at hEv
      have hB13 : Below (w1.alloc (.cells #[.int .i64 p, .int .i64 q'] 62)).heap.size (w1.alloc (.cells #[.int .i64 p, .int .i64 q'] 62)) w4 := HB3.out.trans (hB4.mono HB3.out.size)
      have f0 : w4.cell? ⟨w1.heap.size, 0, none⟩ = some (.int .i64 p) := (hB13.cell (p := ⟨w1.heap.size, 0, none⟩) (by simp)).trans (by simp [go_sem])
      have f1 : w4.cell? ⟨w1.heap.size, 1, none⟩ = some (.int .i64 q') := (hB13.cell (p := ⟨w1.heap.size, 1, none⟩) (by simp)).trans (by simp [go_sem])
      have hsz := hB13.size
      have hB1w : Below w.heap.size w w4 := HB1a.out.trans (hB13.mono HB1a.out.size)
      have CI := is_calls ev p q' p q' w4 (HErr.out.below hB1w) hEv.v
      rw [show (p == p && q' == q') = true by simp] at CI
      have HCI := Lib.hid CI
      obtain ⟨sa, sm, sc, hrv⟩ := hR.slice
      rw [hrv] at hR ⊢
      have hR4 := HR2.out.below (((Below.refl w1.heap.size w1).alloc (Nat.le_refl _) (.cells #[.int .i64 p, .int .i64 q'] 62)).trans (hB13.mono (by simp))) (Nat.le_refl _)
      have CS : Hid (∀ w', Below w4.heap.size w4 w' → Calls Tryd.prog 29 #[.slice sa sm sc, .slice ra rm rc] w' fun e w'' => e = .returned (.bool true) ∧ Below w'.heap.size w' w'') := fun w' hb => sameInts_calls _ _ xs w' (hR.below hb (Nat.le_refl _)) (hR4.below hb (Nat.le_refl _))
      have HB4w := Lib.hid hB1w
      clear hEv hR hb hg hB4 hB13 hB1w CI hrv hR4 CL
      go_wp2_with fail
      refine HCI.out.mono ?_
      rintro e4 w5 ⟨rfl, hB5⟩
      have CS5 := Lib.hid (CS.out w5 hB5)
      have HB5 : Hid (Below w.heap.size w w5) := HB4w.out.trans (hB5.mono HB4w.out.size)
      clear hB5 f0 f1 hsz CS
      go_wp2_with fail
      refine CS5.out.mono ?_
      rintro e5 w6 ⟨rfl, hB6⟩
      have HB6 : Hid (Below w.heap.size w w6) := HB5.out.trans (hB6.mono HB5.out.size)
      clear hB6 CS5
      go_wp2_with fail
      go_ret
      exact ⟨rfl, HB6.out⟩
end Go.Proofs.YtnfnebfioibndaaDoor
