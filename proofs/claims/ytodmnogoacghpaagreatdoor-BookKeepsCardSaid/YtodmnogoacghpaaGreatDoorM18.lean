/- The document's Write. -/
import Derived.Test.YtodmnogoacghpaaGreatDoorM16
import Derived.Test.YtodmnogoacghpaaGreatDoorM17
namespace Go.Proofs.YtodmnogoacghpaaGreatDoor
open Go.RowKit Go.Maps
set_option maxRecDepth 100000
set_option maxHeartbeats 4000000

theorem wpList_lenVw {P : Program} (w : World) {ops : Array Oper} {rest : List Oper} {o : Oper} {a : Act} {Q : Exit → Act → World → Prop} (hw : Region.wanted o (yielded ops a.tmps) = true) (m : Operand) (t : TypeId) (hop : o.op = Op.call { callee := Callee.builtin Builtin.len, args := #[m], argTypes := #[t] }) (k e : TypeId) (hk : P.underlying k = some .string) (ht : P.underlying t = some (.map k e)) (b n : Nat) (f : MapF)
    (hm : a.eval m = .map (some b)) (h : MapV P k w b n f) (ks : List ByteArray) (hks : KeysM f ks)
    (hK : wpList P ops Q rest (a.put o.dst (.int .i64 ((ks.length : Nat) : Int))) w) : wpList P ops Q (o :: rest) a w := by
  refine wpList_step fun K' hK' => ?_
  rw [if_pos hw]
  obtain ⟨ks', hks', _, hlen⟩ := h.keys hk
  have hrun := hlen ht o.type
  rw [hks'.len hks] at hrun
  unfold Oper.wp
  simp [execOp, hop, resolve, invoke, builtin, hm, hrun, Result.andThen]
  exact hK' _ _ hK
theorem rfull_eq (d : DiskD) (f s : ByteArray) {N : Nat} (h : s.size + ftot (fdel d.fs f) = N) : fullB d f s = ((decide (d.bytes ≥ 0) && decide (((N : Nat) : Int) > d.bytes)) || ((fget d.fs f).isNone && decide (((d.fs.length : Nat) : Int) ≥ 5000))) := by
  unfold fullB
  congr 1
  · congr 1
    rw [decide_eq_decide]
    omega
  · congr 1
    rw [decide_eq_decide]
    omega

theorem rwrite_calls (w : World) (a bf : Nat) (G : List Nat) (d : DiskD) (f s : ByteArray) (h : RDisk w a bf G d) (hn : NodupK d.fs) (hl : d.fs.length < 1000000) (htot : ftot d.fs ≤ 1000000000) (hleft : -1 ≤ d.left ∧ d.left ≤ 9223372036854775807) (hf : f.size ≤ maxLen) (hs : s.size ≤ 1000000) :
    Calls Tryz.prog 11 #[.pointer (some ⟨a, 0, none⟩), .string f, .string s] w (OpS w a bf G (writeD d f s)) := by
  obtain ⟨m, hM, hRM⟩ := h.map
  have c00 := h.cells.1
  have hlt := h.alt
  have HP := Lib.hid h
  have HM0 := Lib.hid hM
  have HRM := Lib.hid hRM
  have Hf := Lib.hid hf
  have Hn := Lib.hid hn
  have Hblt := Lib.hid hM.lt
  have HKS := Lib.hid (hRM.keys hn)
  have POW := Lib.hid (power_calls w a bf G d h hleft)
  obtain ⟨N, hN⟩ : ∃ N, s.size + ftot (fdel d.fs f) = N := ⟨_, rfl⟩
  have hN9 : N ≤ 1001000000 := by
    have := ftot_del hn f
    omega
  have HFE0 := Lib.hid (rfull_eq d f s hN)
  have HN : Hid (s.size + sumT (fun p => if p.1 = f then 0 else p.2.now.size) d.fs (fun s => (m s).isSome) = N) := by
    show _ = _
    rw [sumT_all (fun p hp => by show (m p.1).isSome = true; rw [hRM.some]; exact fget_isSome hp), sum_but, hN]
  have HMK : Hid (∀ s v, m s = some v → ∃ c : ByteArray × Option Addr, v = .agg #[.string c.1, .pointer c.2]) := by
    intro z v hv
    cases hx : fget d.fs z with
    | none => rw [(hRM z).1 hx] at hv; cases hv
    | some x =>
      obtain ⟨pv, h1, h2⟩ := (hRM z).2 x hx
      obtain ⟨P, rfl⟩ := h2.ptr
      rw [h1] at hv
      injection hv with hv
      exact ⟨(x.now, P), hv.symm⟩
  cases hnf : nameB f
  case' false =>
    have HR : Hid (writeD d f s = (1, d)) := by show _ = _; unfold writeD; rw [if_pos hnf]
    have HNF := Lib.hid hnf
    clear hnf h hM hRM hn hf POW hN htot
    go_enter Tryz.func11, Tryz.ntmps11
    go_wp2_with fail
    refine (inName_calls f _).mono ?_
    rintro e0 w0 ⟨rfl, rfl⟩
    rw [HNF.out]
    go_wp2_with fail
    go_ret
    rw [HR.out]
    exact ⟨rfl, rstep_same HP.out (Below.refl _ _)⟩
  have HNF := Lib.hid hnf
  have HW : Hid (writeD d f s = if d.left = 0 then (14, d) else if fullB d f s = true then (12, usedD d) else (0, { usedD d with fs := fput d.fs f ⟨s, (fget d.fs f).bind (·.safe)⟩ })) := by
    show _ = _
    unfold writeD
    rw [if_neg (by rw [hnf]; decide)]
  obtain ⟨OLD, P, OK, h1, h2, h3, h4⟩ : ∃ (OLD : ByteArray) (P : Option Addr) (OK : Bool), gotV m (.agg #[.string ⟨#[]⟩, .pointer none]) f = .agg #[.string OLD, .pointer P] ∧ (m f).isSome = OK ∧ SafeP w G ((fget d.fs f).bind (·.safe)) (.pointer P) ∧ (fget d.fs f).isNone = !OK := by
    cases hx : fget d.fs f with
    | none =>
      have hm := (hRM f).1 hx
      exact ⟨⟨#[]⟩, none, false, by unfold gotV; rw [hm]; rfl, by rw [hm]; rfl, rfl, rfl⟩
    | some x =>
      obtain ⟨pv, hm, hsp⟩ := (hRM f).2 x hx
      obtain ⟨P, rfl⟩ := hsp.ptr
      exact ⟨x.now, P, true, by unfold gotV; rw [hm]; rfl, by rw [hm]; rfl, hsp, rfl⟩
  have HFE := Lib.hid (HFE0.out.trans (by rw [h4]))
  have HG := Lib.hid (And.intro h1 h2)
  have HSP := Lib.hid h3
  clear h1 h2 h3 h4 HFE0 hN htot hnf h hM hRM hn hf
  cases OK
  · go_enter Tryz.func11, Tryz.ntmps11
    go_wp2_with fail
    refine (inName_calls f _).mono ?_
    rintro e0 w0 ⟨rfl, rfl⟩
    rw [HNF.out]
    go_wp2_with fail
    refine POW.out.mono ?_
    rintro e1 w2 (⟨h0, rfl, rfl⟩ | ⟨h0, rfl, hD, hT2, hk2, hz2⟩)
    · have HR : Hid (writeD d f s = (14, d)) := by show _ = _; rw [HW.out, if_pos h0]
      clear h0 HW POW
      go_wp2_with fail
      go_ret
      rw [HR.out]
      exact ⟨rfl, rstep_same HP.out (Below.refl _ _)⟩
    have HBAD : Hid (fullB d f s = true → writeD d f s = (12, usedD d)) := fun e => by rw [HW.out, if_neg h0, if_pos e]
    have HG2 : Hid (fullB d f s = false → writeD d f s = (0, { usedD d with fs := fput d.fs f ⟨s, (fget d.fs f).bind (·.safe)⟩ })) := fun e => by rw [HW.out, if_neg h0, if_neg (by rw [e]; decide)]
    have HD := Lib.hid hD
    have HT2 := Lib.hid hT2
    have HM := Lib.hid (HM0.out.keep (hk2 bf HP.out.ne))
    have hkG : ∀ k ∈ G, w2.heap[k]? = w.heap[k]? := fun k hk => hk2 k (HP.out.lt k hk).2.1
    have HRM2 : Hid (RMap w2 G m d.fs) := HRM.out.keep hkG
    have HSP2 := Lib.hid (HSP.out.keep hkG)
    have c0 := hD.cells.1
    have hlt2 := hD.alt
    obtain ⟨W, hW⟩ : ∃ W, W = w2.alloc (.cells #[.string OLD, .pointer P] 47) := ⟨_, rfl⟩
    have HBW : Hid (Below w2.heap.size w2 W) := by show Below _ _ _; rw [hW]; exact (Below.refl _ _).alloc (Nat.le_refl _) _
    have HZW : Hid (W.heap.size = w2.heap.size + 1) := by show _ = _; rw [hW]; simp
    have HMW := Lib.hid (HM.out.keep (HBW.out.block bf HM.out.lt))
    have HXW : Hid (W.heap[w2.heap.size]? = some (.cells #[.string OLD, .pointer P] 47)) := by show _ = _; rw [hW]; exact (Go.MapKept.heap_alloc _ _).1
    have HWW := Lib.hid hW
    clear h0 HW POW hD hT2 hk2 hz2 hkG hW HNF c00
    go_wp2_with (first
      | (at_lookup; refine wpList_lookV_ok _ rfl _ _ 48 rfl 9 47 Tryz.underlying9 Tryz.underlying48 (.agg #[.string ⟨#[]⟩, .pointer none]) (zeroState _) bf d.fs.length _ rfl HM.out f rfl Hf.out (.agg #[.string OLD, .pointer P]) false HG.out.1 HG.out.2 ?_)
      | (at_range; rw [← HWW.out]; refine wpList_rangeV _ rfl _ 48 rfl 9 47 Tryz.underlying9 Tryz.underlying48 bf d.fs.length _ rfl HMW.out ?_; intro w3 cnt0 hrg0 hg0 hs0; rw [HZW.out] at hrg0 ⊢))
    have Hrg0 := Lib.hid hrg0
    have HB0 : Hid (Below W.heap.size W w3) := (Below.refl W.heap.size W).grown hg0 (Nat.le_refl _) (fun k e => by cases e)
    clear hrg0 hg0
    go_frame
    go_loopg [10] cnt0 (fun k v10 wr => ∃ (left : ByteArray → Bool) (n : Nat), v10 = .int .i64 ((n : Nat) : Int) ∧ RangeV Tryz.prog 9 wr bf (w2.heap.size + 1) d.fs.length m left k ∧ n + sumT (fun p => if p.1 = f then 0 else p.2.now.size) d.fs left = N ∧ Below W.heap.size W wr)
    case atStart => exact ⟨_, s.size, rfl, Hrg0.out, HN.out, HB0.out⟩
    case round =>
      obtain ⟨left, n, rfl, hrg, hsum, hB⟩ := hrel
      have Hrg := Lib.hid hrg
      have Hsum := Lib.hid hsum
      have HBWR := Lib.hid hB
      have HBR : Hid (Below w2.heap.size w2 wr) := HBW.out.trans (hB.mono HBW.out.size)
      have hnN : n ≤ N := by omega
      clear hrg hsum hB
      go_wp2_with (at_next; refine wpList_nextV _ (fun c : ByteArray × Option Addr => .agg #[.string c.1, .pointer c.2]) rfl _ rfl 9 Tryz.underlying9 bf (w2.heap.size + 1) d.fs.length m HMK.out left gk rfl Hrg.out ?_ ?_)
      · intro hl0
        have HE : n = N := by have := Hsum.out; rw [sumT_none hl0] at this; omega
        subst HE
        have HMR := Lib.hid Hrg.out.map
        have HXR : Hid (RStep w a bf G (usedD d) wr) := ⟨bf, G, HD.out.below HBR.out, Or.inl rfl, fun _ hk => Or.inl hk, (HT2.out.andBelow HBR.out).more (by simp)⟩
        have HRMR : Hid (RMap wr G m d.fs) := HRM2.out.keep fun k hk => HBR.out.block k (HD.out.lt k hk).1
        have HSPR := Lib.hid (HSP2.out.keep fun k hk => HBR.out.block k (HD.out.lt k hk).1)
        obtain ⟨r0, -, r2⟩ := (HD.out.below HBR.out).cells
        have hltr := (HD.out.below HBR.out).alt
        replace r2 : wr.cell? ⟨a, 2, none⟩ = some (.int .i64 d.bytes) := r2
        have x1 : wr.cell? ⟨w2.heap.size, 1, none⟩ = some (.pointer P) := by
          have h1 := (HBWR.out.block w2.heap.size (by rw [HZW.out]; omega)).trans HXW.out
          simp [World.cell?, h1]
        clear Hrg Hsum c0 hlt2 hnN
        cases hb : decide (d.bytes ≥ 0)
        case' false =>
          cases h5 : decide (((d.fs.length : Nat) : Int) ≥ 5000)
          case' false =>
            have HF := Lib.hid (HG2.out (by rw [HFE.out, hb, h5]; rfl))
            go_wp2_with (at_len; refine wpList_lenVw _ (by kernel_rfl) _ 48 rfl 9 47 Tryz.underlying9 Tryz.underlying48 bf d.fs.length m rfl HMR.out (d.fs.map (·.1)) HKS.out ?_; rw [List.length_map])
            refine wp_region_still_tail 9 (by kernel_rfl) (by kernel_rfl) ?_
            simp only [List.take_succ_cons, List.take_zero, List.drop_succ_cons, List.drop_zero]
            repeat still_step
            refine wpStill_nil ?_
            go_wp2_with (at_mapUpdate; refine wpList_storeV _ rfl _ _ _ 48 rfl 9 47 Tryz.underlying9 Tryz.underlying48 bf d.fs.length _ rfl HMR.out (by unfold maxLen; omega) f rfl Hf.out (.agg #[.string s, .pointer P]) rfl ?_)
            intro w4 hM4 hg4
            replace hg4 : wr.grownBy w4 (some bf) := ⟨hg4.os, hg4.tape, hg4.output, hg4.size, hg4.block⟩
            have HX : Hid (RStep w a bf G { usedD d with fs := fput d.fs f ⟨s, (fget d.fs f).bind (·.safe)⟩ } w4) :=
              ref_end HD.out HT2.out Hblt.out HBR.out hg4 (G' := G) (Hn.out.put _ _) hM4 (HRMR.out.put (HSPR.out)) (fun k hk => Or.inl hk)
            clear hM4 hg4
            go_wp2_with fail
            go_ret
            rw [HF.out]
            exact ⟨rfl, HX.out⟩
          have HF := Lib.hid (HBAD.out (by rw [HFE.out, hb, h5]; rfl))
          go_wp2_with (at_len; refine wpList_lenVw _ (by kernel_rfl) _ 48 rfl 9 47 Tryz.underlying9 Tryz.underlying48 bf d.fs.length m rfl HMR.out (d.fs.map (·.1)) HKS.out ?_; rw [List.length_map])
          go_ret
          rw [HF.out]
          exact ⟨rfl, HXR.out⟩
        cases hg : decide (((n : Nat) : Int) > d.bytes)
        case' false =>
          cases h5 : decide (((d.fs.length : Nat) : Int) ≥ 5000)
          case' false =>
            have HF := Lib.hid (HG2.out (by rw [HFE.out, hb, hg, h5]; rfl))
            go_wp2_with (at_len; refine wpList_lenVw _ (by kernel_rfl) _ 48 rfl 9 47 Tryz.underlying9 Tryz.underlying48 bf d.fs.length m rfl HMR.out (d.fs.map (·.1)) HKS.out ?_; rw [List.length_map])
            refine wp_region_still_tail 9 (by kernel_rfl) (by kernel_rfl) ?_
            simp only [List.take_succ_cons, List.take_zero, List.drop_succ_cons, List.drop_zero]
            repeat still_step
            refine wpStill_nil ?_
            go_wp2_with (at_mapUpdate; refine wpList_storeV _ rfl _ _ _ 48 rfl 9 47 Tryz.underlying9 Tryz.underlying48 bf d.fs.length _ rfl HMR.out (by unfold maxLen; omega) f rfl Hf.out (.agg #[.string s, .pointer P]) rfl ?_)
            intro w4 hM4 hg4
            replace hg4 : wr.grownBy w4 (some bf) := ⟨hg4.os, hg4.tape, hg4.output, hg4.size, hg4.block⟩
            have HX : Hid (RStep w a bf G { usedD d with fs := fput d.fs f ⟨s, (fget d.fs f).bind (·.safe)⟩ } w4) :=
              ref_end HD.out HT2.out Hblt.out HBR.out hg4 (G' := G) (Hn.out.put _ _) hM4 (HRMR.out.put (HSPR.out)) (fun k hk => Or.inl hk)
            clear hM4 hg4
            go_wp2_with fail
            go_ret
            rw [HF.out]
            exact ⟨rfl, HX.out⟩
          have HF := Lib.hid (HBAD.out (by rw [HFE.out, hb, hg, h5]; rfl))
          go_wp2_with (at_len; refine wpList_lenVw _ (by kernel_rfl) _ 48 rfl 9 47 Tryz.underlying9 Tryz.underlying48 bf d.fs.length m rfl HMR.out (d.fs.map (·.1)) HKS.out ?_; rw [List.length_map])
          go_ret
          rw [HF.out]
          exact ⟨rfl, HXR.out⟩
        have HF := Lib.hid (HBAD.out (by rw [HFE.out, hb, hg]; rfl))
        go_wp2_with (at_len; refine wpList_lenVw _ (by kernel_rfl) _ 48 rfl 9 47 Tryz.underlying9 Tryz.underlying48 bf d.fs.length m rfl HMR.out (d.fs.map (·.1)) HKS.out ?_; rw [List.length_map])
        go_ret
        rw [HF.out]
        exact ⟨rfl, HXR.out⟩
      · intro z c1 cp w1 cnt1 hs hls hfs hrg1 hlt1 hg1 hz1 hen
        obtain ⟨x, hx, hxc⟩ : ∃ x, fget d.fs z = some x ∧ x.now = c1 := by
          cases hx : fget d.fs z with
          | none => rw [(HRM.out z).1 hx] at hfs; cases hfs
          | some x =>
            obtain ⟨pv, h1, _⟩ := (HRM.out z).2 x hx
            rw [h1] at hfs
            injection hfs with hfs
            unfold stateV at hfs
            injection hfs with hfs
            simp at hfs
            exact ⟨x, rfl, hfs.1⟩
        have hst := sumT_step (g := fun p : ByteArray × FileD => if p.1 = f then 0 else p.2.now.size) Hn.out hx hls
        dsimp only at hst
        rw [hxc] at hst
        have hsm := Hsum.out
        rw [hst] at hsm
        have HRG2 : Hid (∀ cs, RangeV Tryz.prog 9 (w1.alloc (.cells cs 47)) bf (w2.heap.size + 1) d.fs.length m (tookL left z) cnt1) := fun cs => hrg1.kept (World.grownBy_alloc w1 _ none) (by simp) (by simp)
        have HB1 : Hid (∀ cs, Below W.heap.size W (w1.alloc (.cells cs 47))) := fun cs => (HBWR.out.grown hg1 HBWR.out.size (fun k e => by injection e with e; have := HZW.out; omega)).alloc (Nat.le_trans HBWR.out.size hg1.size) _
        obtain ⟨D, hD⟩ : ∃ D, decide (z = f) = D := ⟨_, rfl⟩
        have HT0 : Hid (D = true → n + sumT (fun p => if p.1 = f then 0 else p.2.now.size) d.fs (tookL left z) = N) := fun e => by
          rw [if_pos (of_decide_eq_true (hD.trans e))] at hsm
          exact hsm
        have HT1 : Hid (D = false → n + c1.size + sumT (fun p => if p.1 = f then 0 else p.2.now.size) d.fs (tookL left z) = N ∧ n + c1.size ≤ N) := fun e => by
          rw [if_neg (of_decide_eq_false (hD.trans e))] at hsm
          omega
        rw [toListEq] at hD
        have hDb : (z.toList == f.toList) = D := by rw [← hD]; exact Bool.eq_iff_iff.2 (by simp)
        clear hst hsm hx hxc hfs hrg1 hg1 hls hs
        cases D
        · have hDp := of_decide_eq_false hD
          have HTT := Lib.hid (HT1.out rfl)
          have hcN := HTT.out.2
          go_wp2_with fail
          go_roundg cnt1
          case rel => exact ⟨tookL left z, n + c1.size, by go_num, HRG2.out _, HTT.out.1, HB1.out _⟩
          case measure => exact hlt1
        · have hDp := of_decide_eq_true hD
          have HTT := Lib.hid (HT0.out rfl)
          go_wp2_with fail
          go_roundg cnt1
          case rel => exact ⟨tookL left z, n, rfl, HRG2.out _, HTT.out, HB1.out _⟩
          case measure => exact hlt1

  · go_enter Tryz.func11, Tryz.ntmps11
    go_wp2_with fail
    refine (inName_calls f _).mono ?_
    rintro e0 w0 ⟨rfl, rfl⟩
    rw [HNF.out]
    go_wp2_with fail
    refine POW.out.mono ?_
    rintro e1 w2 (⟨h0, rfl, rfl⟩ | ⟨h0, rfl, hD, hT2, hk2, hz2⟩)
    · have HR : Hid (writeD d f s = (14, d)) := by show _ = _; rw [HW.out, if_pos h0]
      clear h0 HW POW
      go_wp2_with fail
      go_ret
      rw [HR.out]
      exact ⟨rfl, rstep_same HP.out (Below.refl _ _)⟩
    have HBAD : Hid (fullB d f s = true → writeD d f s = (12, usedD d)) := fun e => by rw [HW.out, if_neg h0, if_pos e]
    have HG2 : Hid (fullB d f s = false → writeD d f s = (0, { usedD d with fs := fput d.fs f ⟨s, (fget d.fs f).bind (·.safe)⟩ })) := fun e => by rw [HW.out, if_neg h0, if_neg (by rw [e]; decide)]
    have HD := Lib.hid hD
    have HT2 := Lib.hid hT2
    have HM := Lib.hid (HM0.out.keep (hk2 bf HP.out.ne))
    have hkG : ∀ k ∈ G, w2.heap[k]? = w.heap[k]? := fun k hk => hk2 k (HP.out.lt k hk).2.1
    have HRM2 : Hid (RMap w2 G m d.fs) := HRM.out.keep hkG
    have HSP2 := Lib.hid (HSP.out.keep hkG)
    have c0 := hD.cells.1
    have hlt2 := hD.alt
    obtain ⟨W, hW⟩ : ∃ W, W = w2.alloc (.cells #[.string OLD, .pointer P] 47) := ⟨_, rfl⟩
    have HBW : Hid (Below w2.heap.size w2 W) := by show Below _ _ _; rw [hW]; exact (Below.refl _ _).alloc (Nat.le_refl _) _
    have HZW : Hid (W.heap.size = w2.heap.size + 1) := by show _ = _; rw [hW]; simp
    have HMW := Lib.hid (HM.out.keep (HBW.out.block bf HM.out.lt))
    have HXW : Hid (W.heap[w2.heap.size]? = some (.cells #[.string OLD, .pointer P] 47)) := by show _ = _; rw [hW]; exact (Go.MapKept.heap_alloc _ _).1
    have HWW := Lib.hid hW
    clear h0 HW POW hD hT2 hk2 hz2 hkG hW HNF c00
    go_wp2_with (first
      | (at_lookup; refine wpList_lookV_ok _ rfl _ _ 48 rfl 9 47 Tryz.underlying9 Tryz.underlying48 (.agg #[.string ⟨#[]⟩, .pointer none]) (zeroState _) bf d.fs.length _ rfl HM.out f rfl Hf.out (.agg #[.string OLD, .pointer P]) true HG.out.1 HG.out.2 ?_)
      | (at_range; rw [← HWW.out]; refine wpList_rangeV _ rfl _ 48 rfl 9 47 Tryz.underlying9 Tryz.underlying48 bf d.fs.length _ rfl HMW.out ?_; intro w3 cnt0 hrg0 hg0 hs0; rw [HZW.out] at hrg0 ⊢))
    have Hrg0 := Lib.hid hrg0
    have HB0 : Hid (Below W.heap.size W w3) := (Below.refl W.heap.size W).grown hg0 (Nat.le_refl _) (fun k e => by cases e)
    clear hrg0 hg0
    go_frame
    go_loopg [10] cnt0 (fun k v10 wr => ∃ (left : ByteArray → Bool) (n : Nat), v10 = .int .i64 ((n : Nat) : Int) ∧ RangeV Tryz.prog 9 wr bf (w2.heap.size + 1) d.fs.length m left k ∧ n + sumT (fun p => if p.1 = f then 0 else p.2.now.size) d.fs left = N ∧ Below W.heap.size W wr)
    case atStart => exact ⟨_, s.size, rfl, Hrg0.out, HN.out, HB0.out⟩
    case round =>
      obtain ⟨left, n, rfl, hrg, hsum, hB⟩ := hrel
      have Hrg := Lib.hid hrg
      have Hsum := Lib.hid hsum
      have HBWR := Lib.hid hB
      have HBR : Hid (Below w2.heap.size w2 wr) := HBW.out.trans (hB.mono HBW.out.size)
      have hnN : n ≤ N := by omega
      clear hrg hsum hB
      go_wp2_with (at_next; refine wpList_nextV _ (fun c : ByteArray × Option Addr => .agg #[.string c.1, .pointer c.2]) rfl _ rfl 9 Tryz.underlying9 bf (w2.heap.size + 1) d.fs.length m HMK.out left gk rfl Hrg.out ?_ ?_)
      · intro hl0
        have HE : n = N := by have := Hsum.out; rw [sumT_none hl0] at this; omega
        subst HE
        have HMR := Lib.hid Hrg.out.map
        have HXR : Hid (RStep w a bf G (usedD d) wr) := ⟨bf, G, HD.out.below HBR.out, Or.inl rfl, fun _ hk => Or.inl hk, (HT2.out.andBelow HBR.out).more (by simp)⟩
        have HRMR : Hid (RMap wr G m d.fs) := HRM2.out.keep fun k hk => HBR.out.block k (HD.out.lt k hk).1
        have HSPR := Lib.hid (HSP2.out.keep fun k hk => HBR.out.block k (HD.out.lt k hk).1)
        obtain ⟨r0, -, r2⟩ := (HD.out.below HBR.out).cells
        have hltr := (HD.out.below HBR.out).alt
        replace r2 : wr.cell? ⟨a, 2, none⟩ = some (.int .i64 d.bytes) := r2
        have x1 : wr.cell? ⟨w2.heap.size, 1, none⟩ = some (.pointer P) := by
          have h1 := (HBWR.out.block w2.heap.size (by rw [HZW.out]; omega)).trans HXW.out
          simp [World.cell?, h1]
        clear Hrg Hsum c0 hlt2 hnN
        cases hb : decide (d.bytes ≥ 0)
        case' false =>
          have HF := Lib.hid (HG2.out (by rw [HFE.out, hb]; rfl))
          go_wp2_with (at_len; refine wpList_lenVw _ (by kernel_rfl) _ 48 rfl 9 47 Tryz.underlying9 Tryz.underlying48 bf d.fs.length m rfl HMR.out (d.fs.map (·.1)) HKS.out ?_; rw [List.length_map])
          refine wp_region_still_tail 9 (by kernel_rfl) (by kernel_rfl) ?_
          simp only [List.take_succ_cons, List.take_zero, List.drop_succ_cons, List.drop_zero]
          repeat still_step
          refine wpStill_nil ?_
          go_wp2_with (at_mapUpdate; refine wpList_storeV _ rfl _ _ _ 48 rfl 9 47 Tryz.underlying9 Tryz.underlying48 bf d.fs.length _ rfl HMR.out (by unfold maxLen; omega) f rfl Hf.out (.agg #[.string s, .pointer P]) rfl ?_)
          intro w4 hM4 hg4
          replace hg4 : wr.grownBy w4 (some bf) := ⟨hg4.os, hg4.tape, hg4.output, hg4.size, hg4.block⟩
          have HX : Hid (RStep w a bf G { usedD d with fs := fput d.fs f ⟨s, (fget d.fs f).bind (·.safe)⟩ } w4) :=
            ref_end HD.out HT2.out Hblt.out HBR.out hg4 (G' := G) (Hn.out.put _ _) hM4 (HRMR.out.put (HSPR.out)) (fun k hk => Or.inl hk)
          clear hM4 hg4
          go_wp2_with fail
          go_ret
          rw [HF.out]
          exact ⟨rfl, HX.out⟩
        cases hg : decide (((n : Nat) : Int) > d.bytes)
        case' false =>
          have HF := Lib.hid (HG2.out (by rw [HFE.out, hb, hg]; rfl))
          go_wp2_with (at_len; refine wpList_lenVw _ (by kernel_rfl) _ 48 rfl 9 47 Tryz.underlying9 Tryz.underlying48 bf d.fs.length m rfl HMR.out (d.fs.map (·.1)) HKS.out ?_; rw [List.length_map])
          refine wp_region_still_tail 9 (by kernel_rfl) (by kernel_rfl) ?_
          simp only [List.take_succ_cons, List.take_zero, List.drop_succ_cons, List.drop_zero]
          repeat still_step
          refine wpStill_nil ?_
          go_wp2_with (at_mapUpdate; refine wpList_storeV _ rfl _ _ _ 48 rfl 9 47 Tryz.underlying9 Tryz.underlying48 bf d.fs.length _ rfl HMR.out (by unfold maxLen; omega) f rfl Hf.out (.agg #[.string s, .pointer P]) rfl ?_)
          intro w4 hM4 hg4
          replace hg4 : wr.grownBy w4 (some bf) := ⟨hg4.os, hg4.tape, hg4.output, hg4.size, hg4.block⟩
          have HX : Hid (RStep w a bf G { usedD d with fs := fput d.fs f ⟨s, (fget d.fs f).bind (·.safe)⟩ } w4) :=
            ref_end HD.out HT2.out Hblt.out HBR.out hg4 (G' := G) (Hn.out.put _ _) hM4 (HRMR.out.put (HSPR.out)) (fun k hk => Or.inl hk)
          clear hM4 hg4
          go_wp2_with fail
          go_ret
          rw [HF.out]
          exact ⟨rfl, HX.out⟩
        have HF := Lib.hid (HBAD.out (by rw [HFE.out, hb, hg]; rfl))
        go_wp2_with (at_len; refine wpList_lenVw _ (by kernel_rfl) _ 48 rfl 9 47 Tryz.underlying9 Tryz.underlying48 bf d.fs.length m rfl HMR.out (d.fs.map (·.1)) HKS.out ?_; rw [List.length_map])
        go_ret
        rw [HF.out]
        exact ⟨rfl, HXR.out⟩
      · intro z c1 cp w1 cnt1 hs hls hfs hrg1 hlt1 hg1 hz1 hen
        obtain ⟨x, hx, hxc⟩ : ∃ x, fget d.fs z = some x ∧ x.now = c1 := by
          cases hx : fget d.fs z with
          | none => rw [(HRM.out z).1 hx] at hfs; cases hfs
          | some x =>
            obtain ⟨pv, h1, _⟩ := (HRM.out z).2 x hx
            rw [h1] at hfs
            injection hfs with hfs
            unfold stateV at hfs
            injection hfs with hfs
            simp at hfs
            exact ⟨x, rfl, hfs.1⟩
        have hst := sumT_step (g := fun p : ByteArray × FileD => if p.1 = f then 0 else p.2.now.size) Hn.out hx hls
        dsimp only at hst
        rw [hxc] at hst
        have hsm := Hsum.out
        rw [hst] at hsm
        have HRG2 : Hid (∀ cs, RangeV Tryz.prog 9 (w1.alloc (.cells cs 47)) bf (w2.heap.size + 1) d.fs.length m (tookL left z) cnt1) := fun cs => hrg1.kept (World.grownBy_alloc w1 _ none) (by simp) (by simp)
        have HB1 : Hid (∀ cs, Below W.heap.size W (w1.alloc (.cells cs 47))) := fun cs => (HBWR.out.grown hg1 HBWR.out.size (fun k e => by injection e with e; have := HZW.out; omega)).alloc (Nat.le_trans HBWR.out.size hg1.size) _
        obtain ⟨D, hD⟩ : ∃ D, decide (z = f) = D := ⟨_, rfl⟩
        have HT0 : Hid (D = true → n + sumT (fun p => if p.1 = f then 0 else p.2.now.size) d.fs (tookL left z) = N) := fun e => by
          rw [if_pos (of_decide_eq_true (hD.trans e))] at hsm
          exact hsm
        have HT1 : Hid (D = false → n + c1.size + sumT (fun p => if p.1 = f then 0 else p.2.now.size) d.fs (tookL left z) = N ∧ n + c1.size ≤ N) := fun e => by
          rw [if_neg (of_decide_eq_false (hD.trans e))] at hsm
          omega
        rw [toListEq] at hD
        have hDb : (z.toList == f.toList) = D := by rw [← hD]; exact Bool.eq_iff_iff.2 (by simp)
        clear hst hsm hx hxc hfs hrg1 hg1 hls hs
        cases D
        · have hDp := of_decide_eq_false hD
          have HTT := Lib.hid (HT1.out rfl)
          have hcN := HTT.out.2
          go_wp2_with fail
          go_roundg cnt1
          case rel => exact ⟨tookL left z, n + c1.size, by go_num, HRG2.out _, HTT.out.1, HB1.out _⟩
          case measure => exact hlt1
        · have hDp := of_decide_eq_true hD
          have HTT := Lib.hid (HT0.out rfl)
          go_wp2_with fail
          go_roundg cnt1
          case rel => exact ⟨tookL left z, n, rfl, HRG2.out _, HTT.out, HB1.out _⟩
          case measure => exact hlt1

end Go.Proofs.YtodmnogoacghpaaGreatDoor
