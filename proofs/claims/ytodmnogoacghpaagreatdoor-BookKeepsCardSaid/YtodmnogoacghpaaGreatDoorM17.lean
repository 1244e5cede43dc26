/- The disk's Start. -/
import Derived.Test.YtodmnogoacghpaaGreatDoorM14
import Derived.StillTailTactics
import Derived.Laws.IdiomRangeMap
namespace Go.Proofs.YtodmnogoacghpaaGreatDoor
open Go.RowKit Go.Maps
set_option maxRecDepth 100000
set_option maxHeartbeats 4000000

theorem toListEq (a b : ByteArray) : decide (a = b) = decide (a.toList = b.toList) := by
  rw [decide_eq_decide]
  constructor
  · rintro rfl; rfl
  · intro h
    rw [Lib.toList_data, Lib.toList_data] at h
    cases a; cases b
    exact congrArg ByteArray.mk (Array.toList_inj.1 h)
theorem sum_ones (fs : FS) : (fs.map fun _ => 1).sum = fs.length := by
  induction fs with
  | nil => rfl
  | cons p fs ih => rw [List.map_cons, List.sum_cons, ih, List.length_cons]; omega
theorem start_end {w w2 : World} {a : Nat} {F : List Nat} {nv sv : Value} {l m : Int} {d : DiskD} {keeps : Int} {bm bc n : Nat} {f : MapF} (hP : PC w a nv sv l m d) (hb : Below w.heap.size w w2) (hx : a ∈ F ∧ NodupK d.fs ∧ w.heap.size ≤ bm ∧ bm < bc ∧ w.heap.size ≤ bc ∧ ∀ z, f z = nowM (startFs keeps d.fs) z) (h1 : MapV Tryz.prog 9 w2 bm n f) (h2 : MapV Tryz.prog 9 w2 bc n f) :
    DStep w a F (startD d keeps) (((w2.setCell ⟨a, 0, none⟩ (.map (some bm))).setCell ⟨a, 1, none⟩ (.map (some bc))).setCell ⟨a, 3, none⟩ (.bool false)) := by
  obtain ⟨hmem, hn, hbm, hne, hbc, hf⟩ := hx
  have hlt := hP.lt
  have hk : ∀ k, k ≠ a → (((w2.setCell ⟨a, 0, none⟩ (.map (some bm))).setCell ⟨a, 1, none⟩ (.map (some bc))).setCell ⟨a, 3, none⟩ (.bool false)).heap[k]? = w2.heap[k]? := fun k hk => (heapSet_ne _ a 3 _ hk).trans ((heapSet_ne _ a 1 _ hk).trans (heapSet_ne _ a 0 _ hk))
  have g0 := heapSet_same w2 a 0 (.map (some bm)) ((hb.block a hlt).trans hP.blk)
  have g1 := heapSet_same _ a 1 (.map (some bc)) g0
  have g3 := heapSet_same _ a 3 (.bool false) g1
  have hns : NodupK (startFs keeps d.fs) := startFs_nodup keeps hn
  refine ⟨[a, bm, bc], ⟨.map (some bm), .map (some bc), l, m, ⟨g3, fun h => absurd h (show ¬ (0 : Int) ≤ -1 by decide), hP.bytes⟩, Or.inr ⟨bm, bc, rfl, rfl, rfl, PMs.make ⟨by omega, by omega, by omega⟩ hns (h1.keep (hk bm (by omega))) hf (h2.keep (hk bc (by omega))) (fun z => (hf z).trans (startFs_safe hn z).symm)⟩⟩, ?_, (((Turn.of_below hb).setCell (Or.inl hmem) _).setCell (Or.inl hmem) _).setCell (Or.inl hmem) _⟩
  intro k hk
  simp only [List.mem_cons, List.not_mem_nil, or_false] at hk
  rcases hk with rfl | rfl | rfl
  · exact Or.inl hmem
  · exact Or.inr hbm
  · exact Or.inr hbc

theorem start_calls (w : World) (a : Nat) (F : List Nat) (d : DiskD) (keeps : Int) (h : PDisk w a F d) (hn : NodupK d.fs) (hl : d.fs.length < 1000000) (hsz : ∀ f x, fget d.fs f = some x → x.now.size ≤ 100000000 ∧ ∀ s, x.safe = some s → s.size ≤ 100000000) :
    Calls Tryz.prog 23 #[.pointer (some ⟨a, 0, none⟩), .int .i64 keeps] w fun e w' => e = .returned (.tuple #[]) ∧ DStep w a F (startD d keeps) w' := by
  have hmem := h.mem
  obtain ⟨nv, sv, l, m, hc, hm⟩ := h
  obtain ⟨c0, c1, c2, c3, c4, c5⟩ := hc.cell
  have hlt := hc.lt
  have Hlt := Lib.hid hlt
  have HPC := Lib.hid hc
  have Hmem := Lib.hid hmem
  have Hn := Lib.hid hn
  have Hsz := Lib.hid hsz
  clear hc c1 c2 c3 c4 c5 hmem hn hsz
  have hmm := @run_makeMap Tryz.prog
  rcases hm with ⟨rfl, rfl, hfs, -⟩ | ⟨bn, bs, rfl, rfl, -, hM⟩
  · have hrg := run_range_nilMap (P := Tryz.prog) (w.alloc (.map #[] 0)) 24 _ _ Tryz.underlying24
    have hnx : ∀ ty, (Instr.next (.pointer (some ⟨(w.alloc (.map #[] 0)).heap.size, 0, none⟩)) false ty).run Tryz.prog ((w.alloc (.map #[] 0)).alloc (.mapIter none 0 #[] 0)) = _ := fun ty => run_next_nilMap _ ty 0 0 #[]
    have e1 : (w.alloc (.map #[] 0)).heap.size = w.heap.size + 1 := by simp
    rw [e1] at hrg hnx
    have HB : Hid (Below w.heap.size w ((w.alloc (.map #[] 0)).alloc (.mapIter none 0 #[] 0))) := ((Below.refl _ _).alloc (Nat.le_refl _) _).alloc (by simp) _
    have HM0 : Hid (MapV Tryz.prog 9 ((w.alloc (.map #[] 0)).alloc (.mapIter none 0 #[] 0)) w.heap.size 0 (fun _ => none)) := (MapV.made w Tryz.prog 9).keep (Below.heap_alloc _ _ _ (by simp))
    have HF : Hid (a ∈ F ∧ NodupK d.fs ∧ w.heap.size ≤ w.heap.size ∧ w.heap.size < ((w.alloc (.map #[] 0)).alloc (.mapIter none 0 #[] 0)).heap.size ∧ w.heap.size ≤ ((w.alloc (.map #[] 0)).alloc (.mapIter none 0 #[] 0)).heap.size ∧ ∀ z, (fun _ => none : MapF) z = nowM (startFs keeps d.fs) z) := ⟨Hmem.out, Hn.out, Nat.le_refl _, by simp; omega, by simp; omega, fun z => by rw [hfs]; rfl⟩
    clear hfs
    go_enter Tryz.func23, Tryz.ntmps23
    go_wp2_with fail
    refine wp_loop_rounds 1 ?_
    rw [rounds_succ]
    clear hmm
    have HPW := Lib.hid (HPC.out.keep (HB.out.block a Hlt.out))
    go_wp2_with fail
    refine (clone_calls w.heap.size 0 _ _ HM0.out).mono ?_
    rintro e9 w9 ⟨rfl, hM9, hB9⟩
    have HP9 := Lib.hid (HPW.out.keep (hB9.block a HPW.out.lt))
    have HE := Lib.hid (start_end HPC.out ((HB.out).trans (hB9.mono HB.out.size)) HF.out (HM0.out.below hB9 HM0.out.lt) hM9)
    obtain ⟨c0, c1, -, c3, -, -⟩ := HP9.out.cell
    have z0 := HP9.out.free 0
    have z1 := HP9.out.free 1
    have z3 := HP9.out.free 3
    have hlt9 := HP9.out.lt
    rw [show ((w.alloc (.map #[] 0)).alloc (.mapIter none 0 #[] 0)).heap.size = w.heap.size + 1 + 1 by simp] at HE
    clear hM9 hB9
    go_wp2_with fail
    go_returns
    exact ⟨rfl, HE.out⟩

  have HMN := Lib.hid hM.now
  have HMS := Lib.hid hM.safe
  have hbl := hM.now.lt
  have hbs := hM.safe.lt
  have HMK : Hid (∀ s v, nowM d.fs s = some v → ∃ c : ByteArray, v = Value.string c) := by
    intro s v hv
    unfold nowM at hv
    cases hx : fget d.fs s with
    | none => rw [hx] at hv; cases hv
    | some x => rw [hx] at hv; injection hv with hv; exact ⟨_, hv.symm⟩
  have HMA : Hid (MapV Tryz.prog 9 (w.alloc (.map #[] 0)) bn d.fs.length (nowM d.fs)) := HMN.out.keep (Below.heap_alloc _ _ _ hbl)
  have HM00 := Lib.hid (MapV.made w Tryz.prog 9)
  have HBA : Hid (Below w.heap.size w (w.alloc (.map #[] 0))) := (Below.refl _ _).alloc (Nat.le_refl _) _
  have HZA : Hid ((w.alloc (.map #[] 0)).heap.size = w.heap.size + 1) := by show _ = _; simp
  have HALL : Hid (sumT (fun _ => 1) d.fs (fun s => (nowM d.fs s).isSome) = d.fs.length) := by
    show _ = _
    rw [sumT_all (fun p hp => by show (nowM d.fs p.1).isSome = true; unfold nowM; rw [Option.isSome_map]; exact fget_isSome hp)]
    exact sum_ones d.fs
  have HST : Hid (∀ z, partM keeps d.fs (fun s => (nowM d.fs s).isSome) z = none) := partM_start fun z => by unfold nowM; rw [Option.isSome_map]
  clear hM
  go_enter Tryz.func23, Tryz.ntmps23
  go_wp2_with (at_range; (refine wpList_rangeV _ rfl _ 24 rfl 9 9 Tryz.underlying9 Tryz.underlying24 bn d.fs.length _ rfl HMA.out ?_); intro w0 cnt0 hrg0 hg0 hs0; rw [HZA.out] at hrg0 ⊢)
  have Hrg0 := Lib.hid hrg0
  have HB0 := Lib.hid (HBA.out.grown hg0 (by rw [HZA.out]; omega) (fun k e => by cases e))
  have HM0 := Lib.hid (HM00.out.keep (hg0.block w.heap.size HM00.out.lt (fun e => by cases e)))
  clear hrg0 hg0 hmm
  go_frame
  go_loopg [] cnt0 (fun k wr => ∃ (left : ByteArray → Bool) (n : Nat), RangeV Tryz.prog 9 wr bn (w.heap.size + 1) d.fs.length (nowM d.fs) left k ∧ MapV Tryz.prog 9 wr w.heap.size n (partM keeps d.fs left) ∧ n + sumT (fun _ => 1) d.fs left ≤ d.fs.length ∧ Below w.heap.size w wr)
  case atStart => exact ⟨_, 0, Hrg0.out, HM0.out.congr (fun z => (HST.out z).symm), by rw [HALL.out]; omega, HB0.out⟩
  case round =>
    obtain ⟨left, n, hrg, hMP, hsum, hB⟩ := hrel
    have Hrg := Lib.hid hrg
    have HMP := Lib.hid hMP
    have Hsum := Lib.hid hsum
    have HBR := Lib.hid hB
    have hnl : n ≤ d.fs.length := by omega
    clear hrg hsum hMP hB
    go_wp2_with (at_next; refine wpList_nextV _ Value.string rfl _ rfl 9 Tryz.underlying9 bn (w.heap.size + 1) d.fs.length (nowM d.fs) HMK.out left gk rfl Hrg.out ?_ ?_)
    · intro hl0
      have HZ := HBR.out.size
      have HLT := HMP.out.lt
      have HF : Hid (a ∈ F ∧ NodupK d.fs ∧ w.heap.size ≤ w.heap.size ∧ w.heap.size < wr.heap.size ∧ w.heap.size ≤ wr.heap.size ∧ ∀ z, partM keeps d.fs left z = nowM (startFs keeps d.fs) z) := ⟨Hmem.out, Hn.out, Nat.le_refl _, HLT, HZ, partM_end Hn.out hl0⟩
      clear HZ
      have HPW := Lib.hid (HPC.out.keep (HBR.out.block a Hlt.out))
      go_wp2_with fail
      refine (clone_calls w.heap.size n _ _ HMP.out).mono ?_
      rintro e9 w9 ⟨rfl, hM9, hB9⟩
      have HP9 := Lib.hid (HPW.out.keep (hB9.block a HPW.out.lt))
      have HE := Lib.hid (start_end HPC.out ((HBR.out).trans (hB9.mono HBR.out.size)) HF.out (HMP.out.below hB9 HMP.out.lt) hM9)
      obtain ⟨c0, c1, -, c3, -, -⟩ := HP9.out.cell
      have z0 := HP9.out.free 0
      have z1 := HP9.out.free 1
      have z3 := HP9.out.free 3
      have hlt9 := HP9.out.lt
      clear hM9 hB9
      go_wp2_with fail
      go_returns
      exact ⟨rfl, HE.out⟩
    · intro s c w1 cnt1 hs hls hfs hrg1 hlt1 hg1 hz1 hen
      obtain ⟨x, hx, hxc⟩ : ∃ x, fget d.fs s = some x ∧ x.now = c := by
        unfold nowM at hfs
        cases hx : fget d.fs s with
        | none => rw [hx] at hfs; cases hfs
        | some x => rw [hx] at hfs; injection hfs with hfs; injection hfs with hfs; exact ⟨x, rfl, hfs⟩
      have hst := sumT_step (g := fun _ : ByteArray × FileD => 1) Hn.out hx hls
      have hsm := Hsum.out
      rw [hst] at hsm
      have HLS := Lib.hid hls
      have Hx := Lib.hid hx
      have HS1 : Hid (n + sumT (fun _ => 1) d.fs (tookL left s) ≤ d.fs.length) := by show _ ≤ _; omega
      have HS2 : Hid (n + 1 + sumT (fun _ => 1) d.fs (tookL left s) ≤ d.fs.length) := by show _ ≤ _; omega
      have Hrg1 := Lib.hid hrg1
      have HB1 := Lib.hid (HBR.out.grown hg1 HBR.out.size (fun k e => by injection e with e; have := HZA.out; omega))
      have HM1 := Lib.hid (HMP.out.keep (hg1.block w.heap.size HMP.out.lt (fun e => by injection e with e; have := HZA.out; omega)))
      have HSF := Lib.hid (HMS.out.keep (HB1.out.block bs hbs))
      have hzs := Hsz.out s x hx
      rw [hxc] at hzs
      obtain ⟨OLD, OK, h1, h2, h3, h4⟩ : ∃ (OLD : ByteArray) (OK : Bool), gotV (safeM d.fs) (.string ⟨#[]⟩) s = .string OLD ∧ (safeM d.fs s).isSome = OK ∧ x.safe = (if OK then some OLD else none) ∧ oldOf x = OLD := by
        unfold gotV safeM oldOf
        rw [hx]
        cases hxs : x.safe with
        | none => exact ⟨⟨#[]⟩, false, by simp [hxs], by simp [hxs], by simp, by simp⟩
        | some y => exact ⟨y, true, by simp [hxs], by simp [hxs], by simp, by simp⟩
      have hzo : OLD.size ≤ 100000000 := by
        cases OK
        · have : OLD = ⟨#[]⟩ := by rw [← h4]; unfold oldOf; rw [h3]; rfl
          rw [this]; decide
        · exact hzs.2 OLD h3
      have hzc := hzs.1
      obtain ⟨N, hN⟩ : ∃ N : Nat, (min keeps ((c.size : Nat) : Int)).toNat = N := ⟨_, rfl⟩
      obtain ⟨N2, hN2⟩ : ∃ N2 : Nat, min N OLD.size = N2 := ⟨_, rfl⟩
      have HSTF : Hid (startF keeps x = if x.safe = some c then some c else if 0 < keeps then some (c.extract 0 N ++ OLD.extract N2 OLD.size) else x.safe) := by
        show _ = _
        unfold startF
        rw [hxc, h4]
        dsimp only
        rw [hN, hN2]
      have HNI : Hid (decide (keeps > 0) = true → min keeps ((c.size : Nat) : Int) = ((N : Nat) : Int) ∧ N ≤ c.size) := by
        intro e
        have := of_decide_eq_true e
        omega
      have HN2I : Hid (min ((N : Nat) : Int) ((OLD.size : Nat) : Int) = ((N2 : Nat) : Int) ∧ N2 ≤ OLD.size) := by
        show _ ∧ _
        omega
      clear hN hN2
      have HG := Lib.hid (And.intro h1 h2)
      have H3 := Lib.hid h3
      obtain ⟨D, hD⟩ : ∃ D, decide (c = OLD) = D := ⟨_, rfl⟩
      have HEQ : Hid (D = true → OK = true → startF keeps x = some c) := by
        intro e1 e2
        rw [HSTF.out, H3.out, e2, of_decide_eq_true (hD.trans e1)]
        simp
      have HNE : Hid ((D && OK) = false → x.safe ≠ some c) := by
        intro e1 e2
        rw [H3.out] at e2
        cases OK
        · cases e2
        · injection e2 with e2
          rw [e2, decide_eq_true rfl] at hD
          rw [← hD] at e1
          cases e1
      have HNK : Hid ((D && OK) = false → decide (keeps > 0) = false → startF keeps x = if OK then some OLD else none) := by
        intro e1 e2
        rw [HSTF.out, if_neg (HNE.out e1), if_neg (of_decide_eq_false e2), H3.out]
      have HK : Hid ((D && OK) = false → decide (keeps > 0) = true → startF keeps x = some (c.extract 0 N ++ OLD.extract N2 OLD.size)) := by
        intro e1 e2
        rw [HSTF.out, if_neg (HNE.out e1), if_pos (of_decide_eq_true e2)]
      obtain ⟨-, c1, -, -, -, -⟩ := (HPC.out.keep (HB1.out.block a Hlt.out)).cell
      have hlt1a : a < w1.heap.size := (HPC.out.keep (HB1.out.block a Hlt.out)).lt
      clear hx hst hsm hfs hrg1 hg1 hls h1 h2 h3 h4 hzs hxc HSTF HNE
      rw [toListEq] at hD
      have hDb : (c.toList == OLD.toList) = D := by rw [← hD]; exact Bool.eq_iff_iff.2 (by simp)
      cases D <;> cases OK
      · have hDp := of_decide_eq_false hD
        cases hk : decide (keeps > 0)
        case' false =>
          have HT := Lib.hid (HNK.out (by simp) hk)
          go_wp2_with (first
            | (at_lookup; refine wpList_lookV_ok _ rfl _ _ 24 rfl 9 9 Tryz.underlying9 Tryz.underlying24 (.string ⟨#[]⟩) (Tryz.zeroValue9 _) bs d.fs.length _ rfl HSF.out s rfl hs (.string OLD) false HG.out.1 HG.out.2 ?_)
            | fail)
          have HM3 : Hid (MapV Tryz.prog 9 w1 w.heap.size n (partM keeps d.fs (tookL left s))) := HM1.out.congr fun z => (partM_keep HLS.out Hx.out HT.out z).symm
          go_roundg cnt1
          case rel => exact ⟨tookL left s, n, Hrg1.out, HM3.out, HS1.out, HB1.out⟩
          case measure => exact hlt1
        have HT := Lib.hid (HK.out (by simp) hk)
        go_wp2_with (first
          | (at_lookup; refine wpList_lookV_ok _ rfl _ _ 24 rfl 9 9 Tryz.underlying9 Tryz.underlying24 (.string ⟨#[]⟩) (Tryz.zeroValue9 _) bs d.fs.length _ rfl HSF.out s rfl hs (.string OLD) false HG.out.1 HG.out.2 ?_))
        have hNi := (HNI.out hk).1
        have hNc := (HNI.out hk).2
        have hN2i := HN2I.out.1
        have hN2c := HN2I.out.2
        have hs9 : ¬ 9223372036854775807 < N + (OLD.size - N2) := by omega
        simp only [hNi]
        refine wp_region_still_tail 12 (by kernel_rfl) (by kernel_rfl) ?_
        simp only [List.take_succ_cons, List.take_zero, List.drop_succ_cons, List.drop_zero]
        repeat (still_step; try simp only [hN2i])
        refine wpStill_nil ?_
        go_wp2_with (at_mapUpdate; refine wpList_storeV _ rfl _ _ _ 24 rfl 9 9 Tryz.underlying9 Tryz.underlying24 w.heap.size n _ rfl HM1.out (by unfold maxLen; omega) s rfl hs (.string (c.extract 0 N ++ OLD.extract N2 OLD.size)) rfl ?_)
        intro w2 hM2 hg2
        replace hg2 : w1.grownBy w2 (some w.heap.size) := ⟨hg2.os, hg2.tape, hg2.output, hg2.size, hg2.block⟩
        have HM3 : Hid (MapV Tryz.prog 9 w2 w.heap.size (n + 1) (partM keeps d.fs (tookL left s))) := hM2.congr fun z => (partM_put Hx.out HT.out z).symm
        have Hrg2 := Lib.hid (Hrg1.out.kept hg2 (fun e => by injection e with e; have := HZA.out; omega) (fun e => by injection e with e; have := HZA.out; omega))
        have HB2 := Lib.hid (HB1.out.grown hg2 HB1.out.size (fun k e => by injection e with e; have := HZA.out; omega))
        clear hM2 hg2
        go_wp2_with fail
        go_roundg cnt1
        case rel => exact ⟨tookL left s, n + 1, Hrg2.out, HM3.out, HS2.out, HB2.out⟩
        case measure => exact hlt1
      · have hDp := of_decide_eq_false hD
        cases hk : decide (keeps > 0)
        case' false =>
          have HT := Lib.hid (HNK.out (by simp) hk)
          go_wp2_with (first
            | (at_lookup; refine wpList_lookV_ok _ rfl _ _ 24 rfl 9 9 Tryz.underlying9 Tryz.underlying24 (.string ⟨#[]⟩) (Tryz.zeroValue9 _) bs d.fs.length _ rfl HSF.out s rfl hs (.string OLD) true HG.out.1 HG.out.2 ?_)
            | (at_mapUpdate; refine wpList_storeV _ rfl _ _ _ 24 rfl 9 9 Tryz.underlying9 Tryz.underlying24 w.heap.size n _ rfl HM1.out (by unfold maxLen; omega) s rfl hs (.string OLD) rfl ?_))
          intro w2 hM2 hg2

          have HM3 : Hid (MapV Tryz.prog 9 w2 w.heap.size (n + 1) (partM keeps d.fs (tookL left s))) := hM2.congr fun z => (partM_put Hx.out HT.out z).symm
          have Hrg2 := Lib.hid (Hrg1.out.kept hg2 (fun e => by injection e with e; have := HZA.out; omega) (fun e => by injection e with e; have := HZA.out; omega))
          have HB2 := Lib.hid (HB1.out.grown hg2 HB1.out.size (fun k e => by injection e with e; have := HZA.out; omega))
          clear hM2 hg2
          go_wp2_with fail
          go_roundg cnt1
          case rel => exact ⟨tookL left s, n + 1, Hrg2.out, HM3.out, HS2.out, HB2.out⟩
          case measure => exact hlt1
        have HT := Lib.hid (HK.out (by simp) hk)
        go_wp2_with (first
          | (at_lookup; refine wpList_lookV_ok _ rfl _ _ 24 rfl 9 9 Tryz.underlying9 Tryz.underlying24 (.string ⟨#[]⟩) (Tryz.zeroValue9 _) bs d.fs.length _ rfl HSF.out s rfl hs (.string OLD) true HG.out.1 HG.out.2 ?_))
        have hNi := (HNI.out hk).1
        have hNc := (HNI.out hk).2
        have hN2i := HN2I.out.1
        have hN2c := HN2I.out.2
        have hs9 : ¬ 9223372036854775807 < N + (OLD.size - N2) := by omega
        simp only [hNi]
        refine wp_region_still_tail 12 (by kernel_rfl) (by kernel_rfl) ?_
        simp only [List.take_succ_cons, List.take_zero, List.drop_succ_cons, List.drop_zero]
        repeat (still_step; try simp only [hN2i])
        refine wpStill_nil ?_
        go_wp2_with (at_mapUpdate; refine wpList_storeV _ rfl _ _ _ 24 rfl 9 9 Tryz.underlying9 Tryz.underlying24 w.heap.size n _ rfl HM1.out (by unfold maxLen; omega) s rfl hs (.string (c.extract 0 N ++ OLD.extract N2 OLD.size)) rfl ?_)
        intro w2 hM2 hg2
        replace hg2 : w1.grownBy w2 (some w.heap.size) := ⟨hg2.os, hg2.tape, hg2.output, hg2.size, hg2.block⟩
        have HM3 : Hid (MapV Tryz.prog 9 w2 w.heap.size (n + 1) (partM keeps d.fs (tookL left s))) := hM2.congr fun z => (partM_put Hx.out HT.out z).symm
        have Hrg2 := Lib.hid (Hrg1.out.kept hg2 (fun e => by injection e with e; have := HZA.out; omega) (fun e => by injection e with e; have := HZA.out; omega))
        have HB2 := Lib.hid (HB1.out.grown hg2 HB1.out.size (fun k e => by injection e with e; have := HZA.out; omega))
        clear hM2 hg2
        go_wp2_with fail
        go_roundg cnt1
        case rel => exact ⟨tookL left s, n + 1, Hrg2.out, HM3.out, HS2.out, HB2.out⟩
        case measure => exact hlt1
      · have hDp := of_decide_eq_true hD
        cases hk : decide (keeps > 0)
        case' false =>
          have HT := Lib.hid (HNK.out (by simp) hk)
          go_wp2_with (first
            | (at_lookup; refine wpList_lookV_ok _ rfl _ _ 24 rfl 9 9 Tryz.underlying9 Tryz.underlying24 (.string ⟨#[]⟩) (Tryz.zeroValue9 _) bs d.fs.length _ rfl HSF.out s rfl hs (.string OLD) false HG.out.1 HG.out.2 ?_)
            | fail)
          have HM3 : Hid (MapV Tryz.prog 9 w1 w.heap.size n (partM keeps d.fs (tookL left s))) := HM1.out.congr fun z => (partM_keep HLS.out Hx.out HT.out z).symm
          go_roundg cnt1
          case rel => exact ⟨tookL left s, n, Hrg1.out, HM3.out, HS1.out, HB1.out⟩
          case measure => exact hlt1
        have HT := Lib.hid (HK.out (by simp) hk)
        go_wp2_with (first
          | (at_lookup; refine wpList_lookV_ok _ rfl _ _ 24 rfl 9 9 Tryz.underlying9 Tryz.underlying24 (.string ⟨#[]⟩) (Tryz.zeroValue9 _) bs d.fs.length _ rfl HSF.out s rfl hs (.string OLD) false HG.out.1 HG.out.2 ?_))
        have hNi := (HNI.out hk).1
        have hNc := (HNI.out hk).2
        have hN2i := HN2I.out.1
        have hN2c := HN2I.out.2
        have hs9 : ¬ 9223372036854775807 < N + (OLD.size - N2) := by omega
        simp only [hNi]
        refine wp_region_still_tail 12 (by kernel_rfl) (by kernel_rfl) ?_
        simp only [List.take_succ_cons, List.take_zero, List.drop_succ_cons, List.drop_zero]
        repeat (still_step; try simp only [hN2i])
        refine wpStill_nil ?_
        go_wp2_with (at_mapUpdate; refine wpList_storeV _ rfl _ _ _ 24 rfl 9 9 Tryz.underlying9 Tryz.underlying24 w.heap.size n _ rfl HM1.out (by unfold maxLen; omega) s rfl hs (.string (c.extract 0 N ++ OLD.extract N2 OLD.size)) rfl ?_)
        intro w2 hM2 hg2
        replace hg2 : w1.grownBy w2 (some w.heap.size) := ⟨hg2.os, hg2.tape, hg2.output, hg2.size, hg2.block⟩
        have HM3 : Hid (MapV Tryz.prog 9 w2 w.heap.size (n + 1) (partM keeps d.fs (tookL left s))) := hM2.congr fun z => (partM_put Hx.out HT.out z).symm
        have Hrg2 := Lib.hid (Hrg1.out.kept hg2 (fun e => by injection e with e; have := HZA.out; omega) (fun e => by injection e with e; have := HZA.out; omega))
        have HB2 := Lib.hid (HB1.out.grown hg2 HB1.out.size (fun k e => by injection e with e; have := HZA.out; omega))
        clear hM2 hg2
        go_wp2_with fail
        go_roundg cnt1
        case rel => exact ⟨tookL left s, n + 1, Hrg2.out, HM3.out, HS2.out, HB2.out⟩
        case measure => exact hlt1
      · have hDp := of_decide_eq_true hD
        have HT : Hid (startF keeps x = some c) := HEQ.out rfl rfl
        go_wp2_with (first
          | (at_lookup; refine wpList_lookV_ok _ rfl _ _ 24 rfl 9 9 Tryz.underlying9 Tryz.underlying24 (.string ⟨#[]⟩) (Tryz.zeroValue9 _) bs d.fs.length _ rfl HSF.out s rfl hs (.string OLD) true HG.out.1 HG.out.2 ?_)
          | (at_mapUpdate; refine wpList_storeV _ rfl _ _ _ 24 rfl 9 9 Tryz.underlying9 Tryz.underlying24 w.heap.size n _ rfl HM1.out (by unfold maxLen; omega) s rfl hs (.string c) rfl ?_))
        intro w2 hM2 hg2

        have HM3 : Hid (MapV Tryz.prog 9 w2 w.heap.size (n + 1) (partM keeps d.fs (tookL left s))) := hM2.congr fun z => (partM_put Hx.out HT.out z).symm
        have Hrg2 := Lib.hid (Hrg1.out.kept hg2 (fun e => by injection e with e; have := HZA.out; omega) (fun e => by injection e with e; have := HZA.out; omega))
        have HB2 := Lib.hid (HB1.out.grown hg2 HB1.out.size (fun k e => by injection e with e; have := HZA.out; omega))
        clear hM2 hg2
        go_wp2_with fail
        go_roundg cnt1
        case rel => exact ⟨tookL left s, n + 1, Hrg2.out, HM3.out, HS2.out, HB2.out⟩
        case measure => exact hlt1
end Go.Proofs.YtodmnogoacghpaaGreatDoor
