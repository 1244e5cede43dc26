/- The document's Line: edges that are wrong. -/
import Derived.Test.YtnfnebfioibndaaDoorRefRings
import Derived.Test.YtnfnebfioibndaaDoorRingsL
import Derived.Test.YtnfnebfioibndaaDoorLine
import Derived.Test.YtnfnebfioibndaaDoorMapI
namespace Go.Proofs.YtnfnebfioibndaaDoor
open Go.RowKit
set_option maxRecDepth 100000
set_option maxHeartbeats 4000000

def RefLineE (w : World) (n : Int) (weak strong : List EdgeD) (e : Ending) (w' : World) : Prop :=
  ∃ (lv : Value) (xs : List Nat), e = .returned (.tuple #[lv, .agg #[.int .i64 (lineR n weak strong).1, .int .i64 (lineR n weak strong).2]]) ∧ Row w' lv xs ∧ (lineR n weak strong ≠ (0, -1) → xs = []) ∧ (lineR n weak strong = (0, -1) → ∀ m : Nat, n = m → ∃ rings, InOrder (EdL (weak ++ strong)) m rings ∧ AllTold m rings ∧ xs = linesOf strong rings) ∧ Below w.heap.size w w'

theorem refLine_bad1 (v1 v2 : Value) (weak strong : List EdgeD) (n : Int) (w : World) (hE : Edges w v1 weak) (hN : FineR w) (p q : Int) (hr : rightR n weak = (p, q)) (hbad : (p, q) ≠ (0, -1)) (hneq : ∀ w, (binOp .neq 62 (.agg #[.int .i64 p, .int .i64 q]) (.agg #[.int .i64 0, .int .i64 (-1)])).run Tryd.prog w = .ok (.bool true) w) :
    Calls Tryd.prog 30 #[.int .i64 n, v1, v2] w (RefLineE w n weak strong) := by
  obtain ⟨w0, hw0⟩ : ∃ w0 : World, w0 = w.alloc (.cells #[.int .i64 0, .int .i64 0] 62) := ⟨_, rfl⟩
  have hB0 : Below w.heap.size w w0 := by rw [hw0]; go_grown
  have hRC : ResC w0 w.heap.size := by rw [hw0]; exact ResC.new _
  have hC := refEdges_calls v1 weak n w0 (hE.below hB0 (Nat.le_refl _)) (hN.below hB0 (Nat.le_refl _))
  rw [hr] at hC
  have CE := Lib.hid hC
  have HN := Lib.hid (hN.below hB0 (Nat.le_refl _))
  have HRC := Lib.hid hRC
  have HB0 := Lib.hid hB0
  have Hw := Lib.hid hw0
  have Hr := Lib.hid hr
  clear hC hE hN hB0 hRC hw0 hr
  go_enter Tryd.func30, Tryd.ntmps30
  go_wp2_with fail
  rw [← Hw.out]
  go_wp2_with fail
  refine CE.out.mono ?_
  rintro e1 w1 ⟨rfl, hc1⟩
  have hfn := HN.out.below (hc1.alloc hc1.size (.cells #[.int .i64 p, .int .i64 q] 62)) (Nat.le_refl _)
  have f0 := hfn.c0
  have f1 := hfn.c1
  have fl := hfn.lt
  have hrc := (HRC.out.below hc1 HRC.out.lt).below ((Below.refl _ _).alloc (Nat.le_refl _) (.cells #[.int .i64 p, .int .i64 q] 62)) (HRC.out.below hc1 HRC.out.lt).lt
  have c0 := hrc.c0
  have c1 := hrc.c1
  have z0 := hrc.z0
  have z1 := hrc.z1
  have hrl := hrc.lt
  have d0 := hrc.d0 (.int .i64 p)
  have d1 := hrc.d1 (.int .i64 p) (.int .i64 q)
  clear hfn hrc
  go_wp2_with fail
  go_region
  go_wp2_with fail
  try simp only [Exit.inBlock, Exit.then]
  refine bodyPost_ret (v := .tuple #[.slice none 0 0, .agg #[.int .i64 p, .int .i64 q]]) (by simp [results, Tryd.results30, go_sem, d0, d1]; try rfl) rfl ?_
  have hL : lineR n weak strong = (p, q) := (if_neg (by rw [Hr.out]; exact hbad)).trans Hr.out
  refine ⟨.slice none 0 0, [], by rw [hL], Sl.nil _ _ _, fun _ => rfl, fun h => absurd (hL.symm.trans h) hbad, ?_⟩
  exact HB0.out.trans (((((hc1.alloc hc1.size _).mono HB0.out.size).setCell (Nat.le_refl _) _).setCell (Nat.le_refl _) _).drew)

theorem refLine_bad2 (v1 v2 : Value) (weak strong : List EdgeD) (n : Int) (w : World) (hE : Edges w v1 weak) (hE2 : Edges w v2 strong) (hN : FineR w) (hr1 : rightR n weak = (0, -1)) (p q : Int) (hr : rightR n strong = (p, q)) (hbad : (p, q) ≠ (0, -1)) (hneq : ∀ w, (binOp .neq 62 (.agg #[.int .i64 p, .int .i64 q]) (.agg #[.int .i64 0, .int .i64 (-1)])).run Tryd.prog w = .ok (.bool true) w) :
    Calls Tryd.prog 30 #[.int .i64 n, v1, v2] w (RefLineE w n weak strong) := by
  have hneq0 := neq_fine
  obtain ⟨w0, hw0⟩ : ∃ w0 : World, w0 = w.alloc (.cells #[.int .i64 0, .int .i64 0] 62) := ⟨_, rfl⟩
  have hB0 : Below w.heap.size w w0 := by rw [hw0]; go_grown
  have hRC : ResC w0 w.heap.size := by rw [hw0]; exact ResC.new _
  have hC := refEdges_calls v1 weak n w0 (hE.below hB0 (Nat.le_refl _)) (hN.below hB0 (Nat.le_refl _))
  rw [hr1] at hC
  have CE := Lib.hid hC
  have HN := Lib.hid (hN.below hB0 (Nat.le_refl _))
  have HRC := Lib.hid hRC
  have HE2 := Lib.hid hE2
  have HB0 := Lib.hid hB0
  have Hw := Lib.hid hw0
  have Hr := Lib.hid hr
  have Hr1 := Lib.hid hr1
  clear hC hE hE2 hN hB0 hRC hw0 hr hr1
  go_enter Tryd.func30, Tryd.ntmps30
  go_wp2_with fail
  rw [← Hw.out]
  go_wp2_with fail
  refine CE.out.mono ?_
  rintro e1 w1 ⟨rfl, hc1⟩
  obtain ⟨w2, hw2⟩ : ∃ w2 : World, w2 = w1.alloc (.cells #[.int .i64 0, .int .i64 (-1)] 62) := ⟨_, rfl⟩
  have hb2 : Below w0.heap.size w0 w2 := by rw [hw2]; exact hc1.alloc hc1.size _
  have hfn := HN.out.below hb2 (Nat.le_refl _)
  have hC2 := refEdges_calls v2 strong n w2 (HE2.out.below (HB0.out.trans (hb2.mono HB0.out.size)) (Nat.le_refl _)) hfn
  rw [Hr.out, hw2] at hC2
  have CE2 := Lib.hid hC2
  have HN2 := Lib.hid hfn
  have Hw2 := Lib.hid hw2
  have HB2 := Lib.hid hb2
  rw [hw2] at hfn
  have f0 := hfn.c0
  have f1 := hfn.c1
  have fl := hfn.lt
  clear hfn hC2 hb2 hw2 CE
  go_wp2_with fail
  refine CE2.out.mono ?_
  rintro e3 w3 ⟨rfl, hc3⟩
  rw [← Hw2.out] at hc3
  have hb3 := HB2.out.trans (hc3.mono HB2.out.size)
  have hfn := HN2.out.below (hc3.alloc hc3.size (.cells #[.int .i64 p, .int .i64 q] 62)) (Nat.le_refl _)
  clear f0 f1 fl CE2
  have f0 := hfn.c0
  have f1 := hfn.c1
  have fl := hfn.lt
  have hrc := (HRC.out.below hb3 HRC.out.lt).below ((Below.refl _ _).alloc (Nat.le_refl _) (.cells #[.int .i64 p, .int .i64 q] 62)) (HRC.out.below hb3 HRC.out.lt).lt
  have c0 := hrc.c0
  have c1 := hrc.c1
  have z0 := hrc.z0
  have z1 := hrc.z1
  have hrl := hrc.lt
  have d0 := hrc.d0 (.int .i64 p)
  have d1 := hrc.d1 (.int .i64 p) (.int .i64 q)
  have Hb3 := Lib.hid hb3
  clear hfn hrc hc3 hb3
  go_wp2_with fail
  go_region
  go_wp2_with fail
  try simp only [Exit.inBlock, Exit.then]
  refine bodyPost_ret (v := .tuple #[.slice none 0 0, .agg #[.int .i64 p, .int .i64 q]]) (by simp [results, Tryd.results30, go_sem, d0, d1]; try rfl) rfl ?_
  have hL : lineR n weak strong = (p, q) := (if_pos Hr1.out).trans Hr.out
  refine ⟨.slice none 0 0, [], by rw [hL], Sl.nil _ _ _, fun _ => rfl, fun h => absurd (hL.symm.trans h) hbad, ?_⟩
  exact HB0.out.trans (((((Hb3.out.alloc Hb3.out.size _).mono HB0.out.size).setCell (Nat.le_refl _) _).setCell (Nat.le_refl _) _).drew)
end Go.Proofs.YtnfnebfioibndaaDoor
