/- stevedoreref.edges: what is wrong with edges. -/
import Derived.Test.YtnfnebfioibndaaDoorRight
import Derived.Test.YtnfnebfioibndaaDoorFault
namespace Go.Proofs.YtnfnebfioibndaaDoor
open Go.RowKit
set_option maxRecDepth 100000
set_option maxHeartbeats 4000000

theorem refEdges_calls (v : Value) (l : List EdgeD) (n : Int) (w : World) (hE : Edges w v l) (hN : FineR w) :
    Calls Tryd.prog 45 #[.int .i64 n, v] w fun e w' => e = .returned (.agg #[.int .i64 (rightR n l).1, .int .i64 (rightR n l).2]) ∧ Below w.heap.size w w' := by
  obtain ⟨w0, hw0⟩ : ∃ w0 : World, w0 = w.alloc (.cells #[.int .i64 0, .int .i64 0] 62) := ⟨_, rfl⟩
  have hB0 : Below w.heap.size w w0 := by rw [hw0]; go_grown
  have hz0 : w0.heap.size = w.heap.size + 1 := by rw [hw0]; simp
  have hRC : ResC w0 w.heap.size := by rw [hw0]; exact ResC.new _
  have HN := Lib.hid (hN.below hB0 (Nat.le_refl _))
  have HRC := Lib.hid hRC
  have HB0 := Lib.hid hB0
  have Hz := Lib.hid hz0
  have Hw := Lib.hid hw0
  have hE0 := hE.below hB0 (Nat.le_refl _)
  obtain ⟨a, cap, rfl, hcap, hmax, hcell⟩ := hE0
  unfold maxLen at hmax
  obtain ⟨m, hm⟩ : ∃ m, l.length = m := ⟨_, rfl⟩
  rw [hm] at hcap hcell ⊢
  have Hcell := Lib.hid hcell
  have Hm := Lib.hid hm
  clear hcell hm hE hN hB0 hz0 hRC hw0
  have IN := Lib.hid (in_calls n 0 40 w0)
  by_cases h0 : n < 0 ∨ 40 < n
  · have HJ : Hid (rightR n l = (4, -1)) := by show _ = _; unfold rightR; rw [if_pos h0]
    have e0 : (decide (0 ≤ n) && decide (n ≤ 40)) = false := by simp; omega
    rw [e0] at IN
    clear h0 e0
    go_enter Tryd.func45, Tryd.ntmps45
    go_wp2_with fail
    rw [← Hw.out]
    go_wp2_with fail
    refine IN.out.mono ?_
    rintro e0 w00 ⟨rfl, rfl⟩
    go_wp2_with fail
    refine (refBare_calls 4 _).mono ?_
    rintro e1 w1 ⟨rfl, hc1⟩
    have hrc := HRC.out.below hc1 HRC.out.lt
    have c0 := hrc.c0
    have c1 := hrc.c1
    have z0 := hrc.z0
    have z1 := hrc.z1
    have hrl := hrc.lt
    have d0 := hrc.d0 (.int .i64 4)
    have d1 := hrc.d1 (.int .i64 4) (.int .i64 (-1))
    clear hrc
    go_wp2_with fail
    try simp only [Exit.inBlock, Exit.then]
    refine bodyPost_ret (by simp [results, Tryd.results45, go_sem, d0, d1]; try rfl) rfl ?_
    exact ⟨by rw [HJ.out], HB0.out.trans (((hc1.mono HB0.out.size).setCell (Nat.le_refl _) _).setCell (Nat.le_refl _) _)⟩
  · have HJ : Hid (rightR n l = firstBad n l 0) := by show _ = _; unfold rightR; rw [if_neg h0]
    have e0 : (decide (0 ≤ n) && decide (n ≤ 40)) = true := by simp; omega
    rw [e0] at IN
    have hn0 : 0 ≤ n := by omega
    have hn40 : n ≤ 40 := by omega
    clear h0 e0
    go_enter Tryd.func45, Tryd.ntmps45
    go_wp2_with fail
    rw [← Hw.out]
    go_wp2_with fail
    refine IN.out.mono ?_
    rintro e0 w00 ⟨rfl, rfl⟩
    go_wp2_with fail
    go_loopg [13] m (fun k v13 wr => ∃ i : Nat, v13 = .int .i64 i ∧ i ≤ m ∧ k = m - i ∧ firstBad n l 0 = firstBad n (l.drop i) i ∧ Below w0.heap.size w0 wr)
    case atStart => exact ⟨0, rfl, Nat.zero_le _, rfl, rfl, Below.refl _ _⟩
    case round =>
      obtain ⟨i, rfl, hi, hk, hf, hB⟩ := hrel
      have Hk := Lib.hid hk
      have Hf := Lib.hid hf
      clear hk hf
      by_cases hlt : i < m
      · obtain ⟨b, o, rfl, hb, hc⟩ := Hcell.out.resolve_left (by omega)
        obtain ⟨e, he⟩ : ∃ e, l.getD i (0, 0) = e := ⟨_, rfl⟩
        obtain ⟨x, y⟩ := e
        have c0 : wr.cell? ⟨b, o + i * 2, none⟩ = some (.int .i64 x) := (hB.cell (p := ⟨b, o + i * 2, none⟩) hb).trans (by have h1 := hc i 0 hlt (by decide); rw [he] at h1; exact h1)
        have c1 : wr.cell? ⟨b, o + i * 2 + 1, none⟩ = some (.int .i64 y) := (hB.cell (p := ⟨b, o + i * 2 + 1, none⟩) hb).trans (by have h1 := hc i 1 hlt (by decide); rw [he] at h1; exact h1)
        have hsz := hB.size
        have HN1 : Hid (badE n (x, y) = false → firstBad n l 0 = firstBad n (l.drop (i + 1)) ((i + 1 : Nat) : Int)) := fun h => Hf.out.trans (firstBad_step (by rw [Hm.out]; exact hlt) he h)
        have HY : Hid (badE n (x, y) = true → rightR n l = (2, (i : Int))) := fun h => HJ.out.trans (Hf.out.trans (firstBad_at (by rw [Hm.out]; exact hlt) he h))
        obtain ⟨wt, hwt⟩ : ∃ wt : World, wt = wr.alloc (.cells #[.int .i64 x, .int .i64 y] 98) := ⟨_, rfl⟩
        have hBt : Below w0.heap.size w0 wt := by rw [hwt]; exact hB.alloc hB.size _
        have g0 : wt.cell? ⟨wr.heap.size, 0, none⟩ = some (.int .i64 x) := by rw [hwt, World.cell?_alloc_new]; rfl
        have g1 : wt.cell? ⟨wr.heap.size, 1, none⟩ = some (.int .i64 y) := by rw [hwt, World.cell?_alloc_new]; rfl
        have hlt2 : wr.heap.size < wt.heap.size := by rw [hwt]; simp
        have Hwt := Lib.hid hwt
        have INx := Lib.hid (in_calls x 0 (n - 1) wt)
        have INy := Lib.hid (in_calls y 0 (n - 1) wt)
        clear hc he hb hwt
        by_cases kx : 0 ≤ x ∧ x ≤ n - 1
        case' neg =>
          have ex : (decide (0 ≤ x) && decide (x ≤ n - 1)) = false := by simp; omega
          have HZ := Lib.hid (HY.out (by unfold badE; simp; omega))
          rw [ex] at INx
          clear kx ex
          go_wp2_with fail
          rw [show wr.alloc (.cells _ _) = wt from Hwt.out.symm]
          refine INx.out.mono ?_
          rintro e2 w00 ⟨rfl, rfl⟩
          have hrc := HRC.out.below hBt (by rw [Hz.out]; omega)
          have c0 := hrc.c0
          have c1 := hrc.c1
          have z0 := hrc.z0
          have z1 := hrc.z1
          have hrl := hrc.lt
          have d0 := hrc.d0 (.int .i64 2)
          have d1 := hrc.d1 (.int .i64 2) (.int .i64 (i : Int))
          clear hrc
          go_wp2_with fail
          try simp only [Exit.inBlock, Exit.then]
          refine bodyPost_ret (by simp [results, Tryd.results45, go_sem, d0, d1]; try rfl) rfl ?_
          exact ⟨by rw [HZ.out], HB0.out.trans (((hBt.mono HB0.out.size).setCell (Nat.le_refl _) _).setCell (Nat.le_refl _) _)⟩
        have ex : (decide (0 ≤ x) && decide (x ≤ n - 1)) = true := by simp; omega
        rw [ex] at INx
        by_cases ky : 0 ≤ y ∧ y ≤ n - 1
        case' neg =>
          have ey : (decide (0 ≤ y) && decide (y ≤ n - 1)) = false := by simp; omega
          have HZ := Lib.hid (HY.out (by unfold badE; simp; omega))
          rw [ey] at INy
          clear kx ky ex ey
          go_wp2_with fail
          rw [show wr.alloc (.cells _ _) = wt from Hwt.out.symm]
          refine INx.out.mono ?_
          rintro e2 w00 ⟨rfl, rfl⟩
          go_wp2_with fail
          refine INy.out.mono ?_
          rintro e2 w00 ⟨rfl, rfl⟩
          have hrc := HRC.out.below hBt (by rw [Hz.out]; omega)
          have c0 := hrc.c0
          have c1 := hrc.c1
          have z0 := hrc.z0
          have z1 := hrc.z1
          have hrl := hrc.lt
          have d0 := hrc.d0 (.int .i64 2)
          have d1 := hrc.d1 (.int .i64 2) (.int .i64 (i : Int))
          clear hrc
          go_wp2_with fail
          try simp only [Exit.inBlock, Exit.then]
          refine bodyPost_ret (by simp [results, Tryd.results45, go_sem, d0, d1]; try rfl) rfl ?_
          exact ⟨by rw [HZ.out], HB0.out.trans (((hBt.mono HB0.out.size).setCell (Nat.le_refl _) _).setCell (Nat.le_refl _) _)⟩
        have ey : (decide (0 ≤ y) && decide (y ≤ n - 1)) = true := by simp; omega
        have HZ := Lib.hid (HN1.out (by unfold badE; simp; omega))
        rw [ey] at INy
        clear kx ky ex ey
        go_wp2_with fail
        rw [show wr.alloc (.cells _ _) = wt from Hwt.out.symm]
        refine INx.out.mono ?_
        rintro e2 w00 ⟨rfl, rfl⟩
        go_wp2_with fail
        refine INy.out.mono ?_
        rintro e2 w00 ⟨rfl, rfl⟩
        go_wp2_with fail
        go_roundg (m - (i + 1))
        case rel => exact ⟨i + 1, by go_num, by omega, rfl, HZ.out, hBt⟩
        case measure => have := Hk.out; omega
      · obtain rfl : m = i := by omega
        have HZ : Hid (rightR n l = (0, -1)) := HJ.out.trans (Hf.out.trans (firstBad_end (by rw [Hm.out]; exact Nat.le_refl _)))
        have hfn := HN.out.below hB (Nat.le_refl _)
        have f0 := hfn.c0
        have f1 := hfn.c1
        have fl := hfn.lt
        clear hfn
        have hrc := HRC.out.below hB (by rw [Hz.out]; omega)
        have c0 := hrc.c0
        have c1 := hrc.c1
        have z0 := hrc.z0
        have z1 := hrc.z1
        have hrl := hrc.lt
        have d0 := hrc.d0 (.int .i64 0)
        have d1 := hrc.d1 (.int .i64 0) (.int .i64 (-1))
        clear hrc
        go_wp2_with fail
        try simp only [Exit.inBlock, Exit.then]
        refine bodyPost_ret (by simp [results, Tryd.results45, go_sem, d0, d1]; try rfl) rfl ?_
        exact ⟨by rw [HZ.out], HB0.out.trans (((hB.mono HB0.out.size).setCell (Nat.le_refl _) _).setCell (Nat.le_refl _) _)⟩
end Go.Proofs.YtnfnebfioibndaaDoor
