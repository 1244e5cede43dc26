/- The document's Start. (Written by gen_refs.py.) -/
import Derived.Test.YtodmnogoacghpaaDoorRefT
namespace Go.Proofs.YtodmnogoacghpaaDoor
open Go.RowKit Go.Maps
set_option maxRecDepth 100000
set_option maxHeartbeats 4000000

theorem start_ref_end {w w2 : World} {a bf : Nat} {G G2 : List Nat} {d : DiskD} {keeps : Int} {n : Nat} {mm : MapF} (H : RDisk w a bf G d) (hn : NodupK d.fs) (hb : Below w.heap.size w w2) (hM : MapV Tryd.prog 9 w2 w.heap.size n mm) (hR : RMap w2 G2 mm (startFs keeps d.fs)) (hG : ∀ j ∈ G2, w.heap.size + 1 < j ∧ j < w2.heap.size) : RStep w a bf G (startD d keeps) ((w2.setCell ⟨a, 0, none⟩ (.map (some w.heap.size))).setCell ⟨a, 1, none⟩ (.int .i64 (-1))) := by
  have hlt := H.alt
  have hk : ∀ k, k ≠ a → ((w2.setCell ⟨a, 0, none⟩ (.map (some w.heap.size))).setCell ⟨a, 1, none⟩ (.int .i64 (-1))).heap[k]? = w2.heap[k]? := fun k hk => (heapSet_ne _ a 1 _ hk).trans (heapSet_ne _ a 0 _ hk)
  have g0 := heapSet_same w2 a 0 (.map (some w.heap.size)) ((hb.block a hlt).trans H.blk)
  have g1 := heapSet_same _ a 1 (.int .i64 (-1)) g0
  have hz : ((w2.setCell ⟨a, 0, none⟩ (.map (some w.heap.size))).setCell ⟨a, 1, none⟩ (.int .i64 (-1))).heap.size = w2.heap.size := by simp [World.setCell]
  have hR2 := hR.keep (w' := ((w2.setCell ⟨a, 0, none⟩ (.map (some w.heap.size))).setCell ⟨a, 1, none⟩ (.int .i64 (-1)))) (fun k hk' => hk k (by have := hG k hk'; omega))
  refine ⟨w.heap.size, G2, ⟨g1, by omega, fun k hk' => by rw [hz]; have := hG k hk'; exact ⟨this.2, by omega, by omega⟩, mm, (hM.keep (hk _ (by omega))).fit Tryd.underlying9 (hR2.keys (startFs_nodup keeps hn)) (by rw [List.length_map]; exact Nat.le_refl _), hR2⟩, Or.inr (Nat.le_refl _), fun k hk' => Or.inr (by have := hG k hk'; omega), ((Turn.of_below hb).setCell (Or.inl (by simp)) _).setCell (Or.inl (by simp)) _⟩
theorem gen_world {P : Program} {c : Code} {Q : Exit → Act → World → Prop} {a : Act} {W : World} (h : ∀ W', W' = W → c.wp P Q a W') : c.wp P Q a W := h _ rfl
theorem grown_of_below {w1 W : World} (hb : Below w1.heap.size w1 W) : w1.grownBy W none := ⟨hb.os, hb.tape, hb.output, hb.size, fun k hk _ => hb.block k hk⟩

theorem rstart_calls (w : World) (a bf : Nat) (G : List Nat) (d : DiskD) (keeps : Int) (h : RDisk w a bf G d) (hn : NodupK d.fs) (hl : d.fs.length < 1000000) (hsz : ∀ f x, fget d.fs f = some x → x.now.size ≤ 100000000 ∧ ∀ s, x.safe = some s → s.size ≤ 100000000) :
    Calls Tryd.prog 16 #[.pointer (some ⟨a, 0, none⟩), .int .i64 keeps] w fun e w' => e = .returned (.tuple #[]) ∧ RStep w a bf G (startD d keeps) w' := by
  obtain ⟨m, hM, hRM⟩ := h.map
  have c0 := h.cells.1
  have hlt := h.alt
  have HP := Lib.hid h
  have HM0 := Lib.hid hM
  have HRM := Lib.hid hRM
  have Hn := Lib.hid hn
  have Hsz := Lib.hid hsz
  have hbl := hM.lt
  have HMK : Hid (∀ s v, m s = some v → ∃ c : ByteArray × Option Addr, v = .agg #[.string c.1, .pointer c.2]) := by
    intro z v hv
    cases hx : fget d.fs z with
    | none => rw [(hRM z).1 hx] at hv; cases hv
    | some x =>
      obtain ⟨pv, h1, h2⟩ := (hRM z).2 x hx
      obtain ⟨P, rfl⟩ := h2.ptr
      rw [h1] at hv
      injection hv with hv
      exact ⟨(x.now, P), hv.symm⟩
  have hmm := @run_makeMap Tryd.prog
  have HMA : Hid (MapV Tryd.prog 9 (w.alloc (.map #[] 0)) bf d.fs.length m) := HM0.out.keep (Below.heap_alloc _ _ _ hbl)
  have HM00 := Lib.hid (MapV.made w Tryd.prog 9)
  have HBA : Hid (Below w.heap.size w (w.alloc (.map #[] 0))) := (Below.refl _ _).alloc (Nat.le_refl _) _
  have HZA : Hid ((w.alloc (.map #[] 0)).heap.size = w.heap.size + 1) := by show _ = _; simp
  have HALL : Hid (sumT (fun _ => 1) d.fs (fun s => (m s).isSome) = d.fs.length) := by
    show _ = _
    rw [sumT_all (fun p hp => by show (m p.1).isSome = true; rw [hRM.some]; exact fget_isSome hp)]
    exact sum_ones d.fs
  have HST : Hid (∀ W, RPart W [] keeps d.fs (fun s => (m s).isSome) (fun _ => none)) := fun W => RPart.start fun z => hRM.some z
  clear h hM hRM hn hsz
  go_enter Tryd.func16, Tryd.ntmps16
  go_wp2_with (at_range; refine wpList_rangeV _ rfl _ 39 rfl 9 50 Tryd.underlying9 Tryd.underlying39 bf d.fs.length _ rfl HMA.out ?_; intro w0 cnt0 hrg0 hg0 hs0; rw [HZA.out] at hrg0 ⊢)
  have Hrg0 := Lib.hid hrg0
  have HB0 := Lib.hid (HBA.out.grown hg0 (by rw [HZA.out]; omega) (fun k e => by cases e))
  have HM1 := Lib.hid (HM00.out.keep (hg0.block w.heap.size HM00.out.lt (fun e => by cases e)))
  clear hrg0 hg0 hmm
  go_frame
  go_loopg [] cnt0 (fun k wr => ∃ (left : ByteArray → Bool), ∃ (n : Nat) (G2 : List Nat) (mm : MapF), RangeV Tryd.prog 9 wr bf (w.heap.size + 1) d.fs.length m left k ∧ MapV Tryd.prog 9 wr w.heap.size n mm ∧ RPart wr G2 keeps d.fs left mm ∧ n + sumT (fun _ => 1) d.fs left ≤ d.fs.length ∧ Below w.heap.size w wr ∧ ∀ j ∈ G2, w.heap.size + 1 < j ∧ j < wr.heap.size)
  case atStart => exact ⟨_, 0, [], _, Hrg0.out, HM1.out, HST.out _, by rw [HALL.out]; omega, HB0.out, fun j hj => (by cases hj)⟩
  case round =>
    obtain ⟨left, n, G2, mm, hrg, hMP, hRP, hsum, hB, hG2⟩ := hrel
    have Hrg := Lib.hid hrg
    have HMP := Lib.hid hMP
    have HRP := Lib.hid hRP
    have Hsum := Lib.hid hsum
    have HBR := Lib.hid hB
    have HG2 := Lib.hid hG2
    have hnl : n ≤ d.fs.length := by omega
    clear hrg hsum hMP hB hRP hG2
    go_wp2_with (at_next; refine wpList_nextV _ (fun c : ByteArray × Option Addr => .agg #[.string c.1, .pointer c.2]) rfl _ rfl 9 Tryd.underlying9 bf (w.heap.size + 1) d.fs.length m HMK.out left gk rfl Hrg.out ?_ ?_)
    · intro hl0
      have HE := Lib.hid (start_ref_end HP.out Hn.out HBR.out HMP.out (HRP.out.done Hn.out hl0) HG2.out)
      obtain ⟨r0, r1, -⟩ := (HP.out.below HBR.out).cells
      have hltr := (HP.out.below HBR.out).alt
      have z0 := (HP.out.below HBR.out).free 0
      have z1 := (HP.out.below HBR.out).free 1
      go_wp2_with fail
      go_returns
      exact ⟨rfl, HE.out⟩
    · intro z c1 cp w1 cnt1 hs hls hfs hrg1 hlt1 hg1 hz1 hen
      obtain ⟨x, hx, hxc, hsp⟩ : ∃ x, fget d.fs z = some x ∧ x.now = c1 ∧ SafeP w G x.safe (.pointer cp) := by
        cases hx : fget d.fs z with
        | none => rw [(HRM.out z).1 hx] at hfs; cases hfs
        | some x =>
          obtain ⟨pv, h1, h2⟩ := (HRM.out z).2 x hx
          rw [h1] at hfs
          injection hfs with hfs
          unfold stateV at hfs
          injection hfs with hfs
          simp at hfs
          exact ⟨x, rfl, hfs.1, by rw [← hfs.2]; exact h2⟩
      have hst := sumT_step (g := fun _ : ByteArray × FileD => 1) Hn.out hx hls
      have hsm := Hsum.out
      rw [hst] at hsm
      have HB1 := Lib.hid (HBR.out.grown hg1 HBR.out.size (fun k e => by injection e with e; omega))
      have HM1' := Lib.hid (HMP.out.keep (hg1.block w.heap.size HMP.out.lt (fun e => by injection e with e; omega)))
      have HRP1 : Hid (RPart w1 G2 keeps d.fs left mm) := HRP.out.keep fun k hk => hg1.block k (HG2.out k hk).2 (fun e => by injection e with e; have := (HG2.out k hk).1; omega)
      have Hrg1 := Lib.hid hrg1
      have hws : w.heap.size + 1 < w1.heap.size := by rw [hz1]; exact Hrg.out.lt
      have HG3 : Hid (∀ j ∈ G2, w.heap.size + 1 < j ∧ j < w1.heap.size) := fun j hj => by rw [hz1]; exact HG2.out j hj
      have HSKIP : Hid (startF keeps x = none → ∀ W', Below w1.heap.size w1 W' → ∃ (left : ByteArray → Bool), ∃ (n : Nat) (G2 : List Nat) (mm : MapF), RangeV Tryd.prog 9 W' bf (w.heap.size + 1) d.fs.length m left cnt1 ∧ MapV Tryd.prog 9 W' w.heap.size n mm ∧ RPart W' G2 keeps d.fs left mm ∧ n + sumT (fun _ => 1) d.fs left ≤ d.fs.length ∧ Below w.heap.size w W' ∧ ∀ j ∈ G2, w.heap.size + 1 < j ∧ j < W'.heap.size) := by
        intro hs W' hb
        exact ⟨tookL left z, n, G2, mm, Hrg1.out.kept (grown_of_below hb) (by simp) (by simp), HM1'.out.below hb HM1'.out.lt, (HRP1.out.skip hls hx hs).keep (fun k hk => hb.block k (HG3.out k hk).2), by omega, HB1.out.trans (hb.mono HB1.out.size), fun j hj => ⟨(HG3.out j hj).1, Nat.lt_of_lt_of_le (HG3.out j hj).2 hb.size⟩⟩
      have HPUT : Hid (∀ (T : ByteArray) (W w4 : World), startF keeps x = some T → Below w1.heap.size w1 W → W.cell? ⟨w1.heap.size + 1, 0, none⟩ = some (.string T) → w1.heap.size + 1 < W.heap.size → W.grownBy w4 (some w.heap.size) → MapV Tryd.prog 9 w4 w.heap.size (n + 1) (putM mm z (some (.agg #[.string T, .pointer (some ⟨w1.heap.size + 1, 0, none⟩)]))) → ∃ (left : ByteArray → Bool), ∃ (n : Nat) (G2 : List Nat) (mm : MapF), RangeV Tryd.prog 9 w4 bf (w.heap.size + 1) d.fs.length m left cnt1 ∧ MapV Tryd.prog 9 w4 w.heap.size n mm ∧ RPart w4 G2 keeps d.fs left mm ∧ n + sumT (fun _ => 1) d.fs left ≤ d.fs.length ∧ Below w.heap.size w w4 ∧ ∀ j ∈ G2, w.heap.size + 1 < j ∧ j < w4.heap.size) := by
        intro T W w4 hs hb hc hzW hg hM4
        refine ⟨tookL left z, n + 1, (w1.heap.size + 1) :: G2, _, (Hrg1.out.kept (grown_of_below hb) (by simp) (by simp)).kept hg (fun e => by injection e with e; omega) (fun e => by injection e with e; omega), hM4, ?_, by omega, (HB1.out.trans (hb.mono HB1.out.size)).grown hg (by have := hb.size; omega) (fun k e => by injection e with e; omega), fun j hj => ?_⟩
        · refine ((HRP1.out.keep (fun k hk => hb.block k (HG3.out k hk).2)).keep (fun k hk => hg.block k (Nat.lt_of_lt_of_le (HG3.out k hk).2 hb.size) (fun e => by injection e with e; have := (HG3.out k hk).1; omega))).put (fun k hk => List.mem_cons_of_mem _ hk) hx hs ⟨_, rfl, List.mem_cons_self, ?_⟩
          exact (World.cell?_of_block (a := ⟨w1.heap.size + 1, 0, none⟩) (hg.block _ hzW (fun e => by injection e with e; have e' : w1.heap.size + 1 = w.heap.size := e; clear e; omega))).trans hc
        · rcases List.mem_cons.1 hj with rfl | hj
          · exact ⟨by omega, Nat.lt_of_lt_of_le hzW hg.size⟩
          · exact ⟨(HG3.out j hj).1, Nat.lt_of_lt_of_le (Nat.lt_of_lt_of_le (HG3.out j hj).2 hb.size) hg.size⟩
      have HMALL : Hid (∀ W, Below w1.heap.size w1 W → MapV Tryd.prog 9 W w.heap.size n mm) := fun W hb => HM1'.out.below hb HM1'.out.lt
      have Hz := Lib.hid hs
      have hzs := Hsz.out z x hx
      rw [hxc] at hzs
      obtain ⟨hzc, hzy⟩ := hzs
      obtain ⟨N, hN⟩ : ∃ N : Nat, (min keeps ((c1.size : Nat) : Int)).toNat = N := ⟨_, rfl⟩
      have HNI : Hid (decide (keeps > 0) = true → min keeps ((c1.size : Nat) : Int) = ((N : Nat) : Int) ∧ N ≤ c1.size) := by
        intro e
        have := of_decide_eq_true e
        omega
      have HSP1 := Lib.hid (hsp.keep fun k hk => HB1.out.block k (HP.out.lt k hk).1)
      have HGl : Hid (∀ k ∈ G, k < w1.heap.size) := fun k hk => by have := (HP.out.lt k hk).1; omega
      have Hxc := Lib.hid hxc
      clear hst hsm hfs hrg1 hg1 hls hs hx hsp hxc hz1
      cases hsf : x.safe with
      | none =>
        have hcp := HSP1.out
        rw [hsf] at hcp
        obtain rfl : cp = none := by injection hcp
        have HSF : Hid (startF keeps x = if 0 < keeps then some (c1.extract 0 N) else none) := by
          show _ = _
          unfold startF oldOf
          rw [hsf, Hxc.out]
          dsimp only
          rw [hN, app_nil (by simp; exact Nat.zero_sub _)]
          simp
        clear hN hcp hsf hzy
        cases hk : decide (keeps > 0)
        case' false =>
          have HT : Hid (startF keeps x = none) := by show _ = _; rw [HSF.out, if_neg (of_decide_eq_false hk)]
          go_wp2_with fail
          go_roundg cnt1
          case rel => exact HSKIP.out HT.out _ (by repeat' (first | exact Below.refl _ _ | refine Below.alloc ?_ ?_ _ | refine Below.setCell ?_ ?_ _ | refine Below.drew ?_ | (simp; done) | (simp; omega) | omega))
          case measure => exact hlt1
        have HT : Hid (startF keeps x = some (c1.extract 0 N)) := by show _ = _; rw [HSF.out, if_pos (of_decide_eq_true hk)]
        have hNi := (HNI.out hk).1
        have hNc := (HNI.out hk).2
        go_wp2_with (at_mapUpdate; (refine wpList_storeV _ rfl _ _ _ 39 rfl 9 50 Tryd.underlying9 Tryd.underlying39 w.heap.size n mm rfl (HMALL.out _ (by repeat' (first | exact Below.refl _ _ | refine Below.alloc ?_ ?_ _ | refine Below.setCell ?_ ?_ _ | refine Below.drew ?_ | (simp; done) | (simp; omega) | omega))) (by unfold maxLen; omega) z rfl Hz.out (.agg #[.string (c1.extract 0 N), .pointer (some ⟨w1.heap.size + 1, 0, none⟩)]) rfl ?_))
        intro w4 hM4 hg4
        have HX := HPUT.out (c1.extract 0 N) _ w4 HT.out (by repeat' (first | exact Below.refl _ _ | refine Below.alloc ?_ ?_ _ | refine Below.setCell ?_ ?_ _ | refine Below.drew ?_ | (simp; done) | (simp; omega) | omega)) (by go_simp) (by simp) hg4 hM4
        clear hM4 hg4
        have HX := Lib.hid HX
        go_wp2_with fail
        go_roundg cnt1
        case rel => exact HX.out
        case measure => exact hlt1
      | some y =>
        have hcp := HSP1.out
        rw [hsf] at hcp
        obtain ⟨b, hcp, hbG, hby⟩ := hcp
        obtain rfl : cp = some ⟨b, 0, none⟩ := by injection hcp
        have hbl1 := HGl.out b hbG
        have hy9 := hzy y hsf
        obtain ⟨D, hD⟩ : ∃ D, decide (c1 = y) = D := ⟨_, rfl⟩
        have HSF : Hid (startF keeps x = if D = true then some c1 else if 0 < keeps then (if N < y.size then some (c1.extract 0 N ++ y.extract N y.size) else some (c1.extract 0 N)) else some y) := by
          show _ = _
          unfold startF oldOf
          rw [hsf, Hxc.out]
          dsimp only
          rw [hN]
          by_cases e : c1 = y
          · rw [if_pos (by rw [e]), if_pos (by rw [← hD]; exact decide_eq_true e)]
          · rw [if_neg (fun e' => e (by injection e' with e'; exact e'.symm)), if_neg (show ¬ (D = true) by rw [← hD]; simp [e])]
            by_cases h0 : 0 < keeps
            · rw [if_pos h0, if_pos h0]
              simp only [Option.getD_some]
              by_cases h1 : N < y.size
              · rw [if_pos h1, show min N (y.size) = N by omega]
              · rw [if_neg h1, show min N (y.size) = y.size by omega]
                show some (_ ++ y.extract y.size y.size) = _
                rw [app_nil (by simp)]
            · rw [if_neg h0, if_neg h0]
        rw [toListEq] at hD
        have hDb : (c1.toList == y.toList) = D := by rw [← hD]; exact Bool.eq_iff_iff.2 (by simp)
        clear hN hcp hsf hzy hbG
        cases D
        case' true =>
          have HT : Hid (startF keeps x = some c1) := by show _ = _; rw [HSF.out, if_pos rfl]
          have hDp := of_decide_eq_true hD
          go_wp2_with (at_mapUpdate; (refine wpList_storeV _ rfl _ _ _ 39 rfl 9 50 Tryd.underlying9 Tryd.underlying39 w.heap.size n mm rfl (HMALL.out _ (by repeat' (first | exact Below.refl _ _ | refine Below.alloc ?_ ?_ _ | refine Below.setCell ?_ ?_ _ | refine Below.drew ?_ | (simp; done) | (simp; omega) | omega))) (by unfold maxLen; omega) z rfl Hz.out (.agg #[.string (c1), .pointer (some ⟨w1.heap.size + 1, 0, none⟩)]) rfl ?_))
          intro w4 hM4 hg4
          have HX := HPUT.out (c1) _ w4 HT.out (by repeat' (first | exact Below.refl _ _ | refine Below.alloc ?_ ?_ _ | refine Below.setCell ?_ ?_ _ | refine Below.drew ?_ | (simp; done) | (simp; omega) | omega)) (by go_simp) (by simp) hg4 hM4
          clear hM4 hg4
          have HX := Lib.hid HX
          go_wp2_with fail
          go_roundg cnt1
          case rel => exact HX.out
          case measure => exact hlt1
        have hDp := of_decide_eq_false hD
        cases hk : decide (keeps > 0)
        case' false =>
          have HT : Hid (startF keeps x = some y) := by show _ = _; rw [HSF.out, if_neg (by decide), if_neg (of_decide_eq_false hk)]
          go_wp2_with (at_mapUpdate; (refine wpList_storeV _ rfl _ _ _ 39 rfl 9 50 Tryd.underlying9 Tryd.underlying39 w.heap.size n mm rfl (HMALL.out _ (by repeat' (first | exact Below.refl _ _ | refine Below.alloc ?_ ?_ _ | refine Below.setCell ?_ ?_ _ | refine Below.drew ?_ | (simp; done) | (simp; omega) | omega))) (by unfold maxLen; omega) z rfl Hz.out (.agg #[.string (y), .pointer (some ⟨w1.heap.size + 1, 0, none⟩)]) rfl ?_))
          intro w4 hM4 hg4
          have HX := HPUT.out (y) _ w4 HT.out (by repeat' (first | exact Below.refl _ _ | refine Below.alloc ?_ ?_ _ | refine Below.setCell ?_ ?_ _ | refine Below.drew ?_ | (simp; done) | (simp; omega) | omega)) (by go_simp) (by simp) hg4 hM4
          clear hM4 hg4
          have HX := Lib.hid HX
          go_wp2_with fail
          go_roundg cnt1
          case rel => exact HX.out
          case measure => exact hlt1
        have hNi := (HNI.out hk).1
        have hNc := (HNI.out hk).2
        cases hny : decide (((N : Nat) : Int) < ((y.size : Nat) : Int))
        case' false =>
          have hny2 : ¬ N < y.size := by have := of_decide_eq_false hny; omega
          have HT : Hid (startF keeps x = some (c1.extract 0 N)) := by show _ = _; rw [HSF.out, if_neg (by decide), if_pos (of_decide_eq_true hk), if_neg hny2]
          go_wp2_with (at_mapUpdate; (refine wpList_storeV _ rfl _ _ _ 39 rfl 9 50 Tryd.underlying9 Tryd.underlying39 w.heap.size n mm rfl (HMALL.out _ (by repeat' (first | exact Below.refl _ _ | refine Below.alloc ?_ ?_ _ | refine Below.setCell ?_ ?_ _ | refine Below.drew ?_ | (simp; done) | (simp; omega) | omega))) (by unfold maxLen; omega) z rfl Hz.out (.agg #[.string (c1.extract 0 N), .pointer (some ⟨w1.heap.size + 1, 0, none⟩)]) rfl ?_))
          intro w4 hM4 hg4
          have HX := HPUT.out (c1.extract 0 N) _ w4 HT.out (by repeat' (first | exact Below.refl _ _ | refine Below.alloc ?_ ?_ _ | refine Below.setCell ?_ ?_ _ | refine Below.drew ?_ | (simp; done) | (simp; omega) | omega)) (by go_simp) (by simp) hg4 hM4
          clear hM4 hg4
          have HX := Lib.hid HX
          go_wp2_with fail
          go_roundg cnt1
          case rel => exact HX.out
          case measure => exact hlt1
        have hny2 : N < y.size := by have := of_decide_eq_true hny; omega
        have HT : Hid (startF keeps x = some (c1.extract 0 N ++ y.extract N y.size)) := by show _ = _; rw [HSF.out, if_neg (by decide), if_pos (of_decide_eq_true hk), if_pos hny2]
        have hs9 : ¬ 9223372036854775807 < N + (y.size - N) := by omega
        go_wp2_with fail
        refine gen_world fun WW hWW => ?_
        have g1 : WW.cell? ⟨w1.heap.size + 1, 0, none⟩ = some (.string (c1.extract 0 N)) := by rw [hWW]; go_simp
        have g2 : Hid (Below w1.heap.size w1 WW) := by show Below _ _ _; rw [hWW]; exact (by repeat' (first | exact Below.refl _ _ | refine Below.alloc ?_ ?_ _ | refine Below.setCell ?_ ?_ _ | refine Below.drew ?_ | (simp; done) | (simp; omega) | omega))
        have g3 : w1.heap.size + 1 < WW.heap.size := by rw [hWW]; simp
        have g4 : WW.frozen? ⟨w1.heap.size + 1, 0, none⟩ = false := by rw [hWW]; go_simp
        clear hWW
        have hny3 : N ≤ y.size := by omega
        have hs10 : ¬ 9223372036854775807 < y.size := by omega
        have hs11 : ¬ 9223372036854775807 < min N c1.size + (y.size - N) := by omega
        clear hny2 hny
        refine wp_region_still_tail 5 (by kernel_rfl) (by kernel_rfl) ?_
        simp only [List.take_succ_cons, List.take_zero, List.drop_succ_cons, List.drop_zero]
        repeat still_step
        refine wpStill_nil ?_
        go_wp2_with (at_mapUpdate; (refine wpList_storeV _ rfl _ _ _ 39 rfl 9 50 Tryd.underlying9 Tryd.underlying39 w.heap.size n mm rfl (HMALL.out _ (by repeat' (first | exact g2.out | exact Below.refl _ _ | refine Below.alloc ?_ ?_ _ | refine Below.setCell ?_ ?_ _ | refine Below.drew ?_ | (simp; done) | (simp; omega) | omega))) (by unfold maxLen; omega) z rfl Hz.out (.agg #[.string (c1.extract 0 N ++ y.extract N y.size), .pointer (some ⟨w1.heap.size + 1, 0, none⟩)]) rfl ?_))
        intro w4 hM4 hg4
        have HX := HPUT.out (c1.extract 0 N ++ y.extract N y.size) _ w4 HT.out (by repeat' (first | exact g2.out | exact Below.refl _ _ | refine Below.alloc ?_ ?_ _ | refine Below.setCell ?_ ?_ _ | refine Below.drew ?_ | (simp; done) | (simp; omega) | omega)) (by go_simp) (by simp; exact g3) hg4 hM4
        clear hM4 hg4
        have HX := Lib.hid HX
        go_wp2_with fail
        go_roundg cnt1
        case rel => exact HX.out
        case measure => exact hlt1
end Go.Proofs.YtodmnogoacghpaaDoor
