/- The disk's Sync, Remove, Move. -/
import Derived.Test.YtodmnogoacghpaaGreatDoorM13
namespace Go.Proofs.YtodmnogoacghpaaGreatDoor
open Go.RowKit Go.Maps
set_option maxRecDepth 100000
set_option maxHeartbeats 4000000

theorem DX.hop {w w1 w2 : World} {a : Nat} {F : List Nat} {d : DiskD} {bn bs b : Nat} {l m : Int} (hP : PC w1 a (.map (some bn)) (.map (some bs)) l m d) (hF : ∀ k ∈ [a, bn, bs], k ∈ F ∨ w.heap.size ≤ k) (hT : Turn F w w1) (hg : w1.grownBy w2 (some b)) (hb : b = bn ∨ b = bs) (hne : bn ≠ bs ∧ bn ≠ a ∧ bs ≠ a) : PC w2 a (.map (some bn)) (.map (some bs)) l m d ∧ Turn F w w2 := by
  have hk : w2.heap[a]? = w1.heap[a]? := hg.block a hP.lt (fun e => by
    injection e with e
    rcases hb with h | h
    · exact hne.2.1 (h.symm.trans e.symm)
    · exact hne.2.2 (h.symm.trans e.symm))
  exact ⟨⟨hk.trans hP.blk, hP.left, hP.bytes⟩, hT.grown hg (fun k e => by
    injection e with e
    rcases hb with h | h
    · rw [← e, h]; exact hF bn (by simp)
    · rw [← e, h]; exact hF bs (by simp))⟩

theorem sync_calls (w : World) (a : Nat) (F : List Nat) (d : DiskD) (f : ByteArray) (h : PDisk w a F d) (hn : NodupK d.fs) (hl : d.fs.length < 1000000) (hleft : d.left ≤ 9223372036854775807) (hf : f.size ≤ maxLen) :
    Calls Tryz.prog 46 #[.pointer (some ⟨a, 0, none⟩), .string f] w (OpR w a F (syncD d f)) := by
  have hU : True := (fun _ => trivial) hl
  clear hU
  have HP := Lib.hid h
  have DO := Lib.hid (does_calls w a F d h hleft)
  obtain ⟨nv, sv, l, m, hc, hm⟩ := h
  obtain ⟨c0, c1, c2, c3, c4, c5⟩ := hc.cell
  have hlt := hc.lt
  have Hf := Lib.hid hf
  clear hc c1 c2 c3 c4 c5 hleft hf
  have HNO : Hid (fget d.fs f = none → syncD d f = (7, d)) := fun e => by unfold syncD; rw [e]
  cases hx : fget d.fs f with
  | none =>
    have HR := Lib.hid (HNO.out hx)
    rcases hm with ⟨rfl, rfl, hfs, -⟩ | ⟨bn, bs, rfl, rfl, -, hM⟩
    · clear hfs hx DO HNO
      go_enter Tryz.func46, Tryz.ntmps46
      go_wp2_with (at_lookup; refine wpList_lookNil _ rfl _ _ 24 rfl 9 9 Tryz.underlying9 Tryz.underlying24 (.string ⟨#[]⟩) (Tryz.zeroValue9 _) rfl f rfl Hf.out ?_)
      go_ret
      rw [HR.out]
      exact ⟨rfl, DStep.refl HP.out⟩
    · have hg : gotV (nowM d.fs) (.string ⟨#[]⟩) f = .string ⟨#[]⟩ := by unfold gotV nowM; rw [hx]; rfl
      have hs : (nowM d.fs f).isSome = false := by unfold nowM; rw [hx]; rfl
      have HG := Lib.hid (And.intro hg hs)
      have HM := Lib.hid hM.now
      clear hx hg hs hM DO HNO
      go_enter Tryz.func46, Tryz.ntmps46
      go_wp2_with (at_lookup; refine wpList_lookV_ok _ rfl _ _ 24 rfl 9 9 Tryz.underlying9 Tryz.underlying24 (.string ⟨#[]⟩) (Tryz.zeroValue9 _) bn d.fs.length _ rfl HM.out f rfl Hf.out (.string ⟨#[]⟩) false HG.out.1 HG.out.2 ?_)
      go_ret
      rw [HR.out]
      exact ⟨rfl, DStep.refl HP.out⟩
  | some x =>
    rcases hm with ⟨rfl, rfl, hfs, -⟩ | ⟨bn, bs, rfl, rfl, -, hM⟩
    · rw [hfs] at hx
      cases hx
    have hg : gotV (nowM d.fs) (.string ⟨#[]⟩) f = .string x.now := by unfold gotV nowM; rw [hx]; rfl
    have hs : (nowM d.fs f).isSome = true := by unfold nowM; rw [hx]; rfl
    have HG := Lib.hid (And.intro hg hs)
    have HM := Lib.hid hM.now
    have Hx := Lib.hid hx
    have Hn := Lib.hid hn
    have HRX : Hid (syncD d f = if d.left = 0 then (14, d) else (0, { usedD d with fs := fput d.fs f ⟨x.now, some x.now⟩ })) := by show _ = _; unfold syncD; rw [hx]
    clear hx hg hs hM HNO hn
    go_enter Tryz.func46, Tryz.ntmps46
    go_wp2_with (at_lookup; refine wpList_lookV_ok _ rfl _ _ 24 rfl 9 9 Tryz.underlying9 Tryz.underlying24 (.string ⟨#[]⟩) (Tryz.zeroValue9 _) bn d.fs.length _ rfl HM.out f rfl Hf.out (.string x.now) true HG.out.1 HG.out.2 ?_)
    refine DO.out.mono ?_
    rintro e1 w1 (⟨h0, rfl, rfl⟩ | ⟨h0, rfl, hD⟩)
    · have HR : Hid (syncD d f = (14, d)) := by show _ = _; rw [HRX.out, if_pos h0]
      clear h0 HRX DO
      go_wp2_with fail
      go_ret
      rw [HR.out]
      exact ⟨rfl, DStep.refl HP.out⟩
    · have HR : Hid (syncD d f = (0, { usedD d with fs := fput d.fs f ⟨x.now, some x.now⟩ })) := by show _ = _; rw [HRX.out, if_neg h0]
      obtain ⟨bn1, bs1, l1, m1, hP1, hM1, hF1, hT1⟩ := hD
      have hfs : (usedD d).fs = d.fs := rfl
      rw [hfs] at hM1
      obtain ⟨d0, d1, -, -, -, -⟩ := hP1.cell
      have dlt := hP1.lt
      have HP1 := Lib.hid hP1
      have HM1 := Lib.hid hM1
      have HF1 := Lib.hid hF1
      have HT1 := Lib.hid hT1
      clear h0 HRX DO hP1 hM1 hF1 hT1 c0 hlt hfs
      go_wp2_with (at_mapUpdate; refine wpList_storeV _ rfl _ _ _ 24 rfl 9 9 Tryz.underlying9 Tryz.underlying24 bs1 d.fs.length _ rfl HM1.out.safe (by unfold maxLen; omega) f rfl Hf.out (.string x.now) rfl ?_)
      intro w2 hM2 hg2
      have HX : Hid (DX w a F { usedD d with fs := fput d.fs f ⟨x.now, some x.now⟩ } w2) := by
        refine DX.next HP1.out HF1.out HT1.out hg2 (Or.inr rfl) (PMs.make HM1.out.ne (Hn.out.put _ _) (HM1.out.now.keep (hg2.block bn1 HM1.out.now.lt (fun e => by injection e with e; exact HM1.out.ne.1 e))) (fun s => ?_) hM2 (fun s => ?_))
        · rw [nowM_put]
          unfold putM
          by_cases e : s = f
          · rw [if_pos e, e]; unfold nowM; rw [Hx.out]; rfl
          · rw [if_neg e]
        · rw [safeM_put]
          rfl
      clear hM2 hg2 d0 d1
      go_wp2_with fail
      go_ret
      rw [HR.out]
      exact ⟨rfl, HX.out.step⟩

theorem moveGood_calls (w : World) (a : Nat) (F : List Nat) (d : DiskD) (f t : ByteArray) (h : PDisk w a F d) (hn : NodupK d.fs) (hl : d.fs.length < 1000000) (hleft : d.left ≤ 9223372036854775807) (hf : f.size ≤ maxLen) (ht : t.size ≤ 9223372036854775807) (hnt : nameB t = true) :
    Calls Tryz.prog 35 #[.pointer (some ⟨a, 0, none⟩), .string f, .string t] w (OpR w a F (moveD d f t)) := by
  have hU : True := (fun _ => trivial) hl
  clear hU
  have HP := Lib.hid h
  have DO := Lib.hid (does_calls w a F d h hleft)
  obtain ⟨nv, sv, l, m, hc, hm⟩ := h
  obtain ⟨c0, c1, c2, c3, c4, c5⟩ := hc.cell
  have hlt := hc.lt
  have Hf := Lib.hid hf
  have Ht := Lib.hid ht
  have HNT := Lib.hid hnt
  have Ht80 : Hid (t.size ≤ maxLen) := by show _ ≤ _; unfold maxLen; omega
  clear ht hnt
  clear hc c1 c2 c3 c4 c5 hleft hf
  have HNO : Hid (fget d.fs f = none → moveD d f t = (7, d)) := fun e => by unfold moveD; rw [if_neg (by rw [HNT.out]; decide)]; rw [e]
  cases hx : fget d.fs f with
  | none =>
    have HR := Lib.hid (HNO.out hx)
    rcases hm with ⟨rfl, rfl, hfs, -⟩ | ⟨bn, bs, rfl, rfl, -, hM⟩
    · clear hfs hx DO HNO
      go_enter Tryz.func35, Tryz.ntmps35
      go_wp2_with (at_lookup; refine wpList_lookNil _ rfl _ _ 24 rfl 9 9 Tryz.underlying9 Tryz.underlying24 (.string ⟨#[]⟩) (Tryz.zeroValue9 _) rfl f rfl Hf.out ?_)
      refine (name_calls t _ Ht.out).mono ?_
      rintro e0 w0 ⟨rfl, rfl⟩
      rw [HNT.out]
      go_wp2_with fail
      go_ret
      rw [HR.out]
      exact ⟨rfl, DStep.refl HP.out⟩
    · have hg : gotV (nowM d.fs) (.string ⟨#[]⟩) f = .string ⟨#[]⟩ := by unfold gotV nowM; rw [hx]; rfl
      have hs : (nowM d.fs f).isSome = false := by unfold nowM; rw [hx]; rfl
      have HG := Lib.hid (And.intro hg hs)
      have HM := Lib.hid hM.now
      clear hx hg hs hM DO HNO
      go_enter Tryz.func35, Tryz.ntmps35
      go_wp2_with (at_lookup; refine wpList_lookV_ok _ rfl _ _ 24 rfl 9 9 Tryz.underlying9 Tryz.underlying24 (.string ⟨#[]⟩) (Tryz.zeroValue9 _) bn d.fs.length _ rfl HM.out f rfl Hf.out (.string ⟨#[]⟩) false HG.out.1 HG.out.2 ?_)
      refine (name_calls t _ Ht.out).mono ?_
      rintro e0 w0 ⟨rfl, rfl⟩
      rw [HNT.out]
      go_wp2_with fail
      go_ret
      rw [HR.out]
      exact ⟨rfl, DStep.refl HP.out⟩
  | some x =>
    rcases hm with ⟨rfl, rfl, hfs, -⟩ | ⟨bn, bs, rfl, rfl, -, hM⟩
    · rw [hfs] at hx
      cases hx
    have hg : gotV (nowM d.fs) (.string ⟨#[]⟩) f = .string x.now := by unfold gotV nowM; rw [hx]; rfl
    have hs : (nowM d.fs f).isSome = true := by unfold nowM; rw [hx]; rfl
    have HG := Lib.hid (And.intro hg hs)
    have HM := Lib.hid hM.now
    have Hx := Lib.hid hx
    have Hn := Lib.hid hn
    have HRX : Hid (moveD d f t = if d.left = 0 then (14, d) else (0, { usedD d with fs := fput (fdel d.fs f) t x })) := by show _ = _; unfold moveD; rw [if_neg (by rw [HNT.out]; decide)]; rw [hx]
    clear hx hg hs hM HNO hn
    go_enter Tryz.func35, Tryz.ntmps35
    go_wp2_with (at_lookup; refine wpList_lookV_ok _ rfl _ _ 24 rfl 9 9 Tryz.underlying9 Tryz.underlying24 (.string ⟨#[]⟩) (Tryz.zeroValue9 _) bn d.fs.length _ rfl HM.out f rfl Hf.out (.string x.now) true HG.out.1 HG.out.2 ?_)
    refine (name_calls t _ Ht.out).mono ?_
    rintro e0 w0 ⟨rfl, rfl⟩
    rw [HNT.out]
    go_wp2_with fail
    refine DO.out.mono ?_
    rintro e1 w1 (⟨h0, rfl, rfl⟩ | ⟨h0, rfl, hD⟩)
    · have HR : Hid (moveD d f t = (14, d)) := by show _ = _; rw [HRX.out, if_pos h0]
      clear h0 HRX DO
      go_wp2_with fail
      go_ret
      rw [HR.out]
      exact ⟨rfl, DStep.refl HP.out⟩
    · have HR : Hid (moveD d f t = (0, { usedD d with fs := fput (fdel d.fs f) t x })) := by show _ = _; rw [HRX.out, if_neg h0]
      obtain ⟨bn1, bs1, l1, m1, hP1, hM1, hF1, hT1⟩ := hD
      have hfs : (usedD d).fs = d.fs := rfl
      rw [hfs] at hM1
      obtain ⟨d0, d1, -, -, -, -⟩ := hP1.cell
      have dlt := hP1.lt
      have HP1 := Lib.hid hP1
      have HM1 := Lib.hid hM1
      have HF1 := Lib.hid hF1
      have HT1 := Lib.hid hT1
      clear h0 HRX DO hP1 hM1 hF1 hT1 c0 hlt hfs
      go_wp2_with (at_delete; refine wpList_delV _ rfl _ _ 24 9 rfl 9 Tryz.underlying9 Tryz.underlying24 bn1 d.fs.length _ rfl HM1.out.now f rfl Hf.out ?_)
      intro w2 hM2 hg2
      have HPT2 := Lib.hid (DX.hop HP1.out HF1.out HT1.out hg2 (Or.inl rfl) HM1.out.ne)
      have HS2 : Hid (MapV Tryz.prog 9 w2 bs1 d.fs.length (safeM d.fs)) := HM1.out.safe.keep (hg2.block bs1 HM1.out.safe.lt (fun e => by injection e with e; exact HM1.out.ne.1 e.symm))
      have HM2 := Lib.hid hM2
      clear hM2 hg2
      clear d0 d1 dlt
      obtain ⟨d0, d1, -, -, -, -⟩ := HPT2.out.1.cell
      have dlt := HPT2.out.1.lt
      go_wp2_with (at_mapUpdate; refine wpList_storeV _ rfl _ _ _ 24 rfl 9 9 Tryz.underlying9 Tryz.underlying24 bn1 d.fs.length _ rfl HM2.out (by unfold maxLen; omega) t rfl Ht80.out (.string x.now) rfl ?_)
      intro w3 hM3 hg3
      have HPT3 := Lib.hid (DX.hop HPT2.out.1 HF1.out HPT2.out.2 hg3 (Or.inl rfl) HM1.out.ne)
      have HS3 : Hid (MapV Tryz.prog 9 w3 bs1 d.fs.length (safeM d.fs)) := HS2.out.keep (hg3.block bs1 HS2.out.lt (fun e => by injection e with e; exact HM1.out.ne.1 e.symm))
      have HM3 := Lib.hid hM3
      clear hM3 hg3
      clear d0 d1 dlt
      obtain ⟨d0, d1, -, -, -, -⟩ := HPT3.out.1.cell
      have dlt := HPT3.out.1.lt
      obtain ⟨sv, sb, hsv⟩ : ∃ sv sb, gotV (safeM d.fs) (.string ⟨#[]⟩) f = .string sv ∧ (safeM d.fs f).isSome = sb ∧ x.safe.isSome = sb ∧ (sb = true → x.safe = some sv) := by
        unfold gotV safeM
        rw [Hx.out]
        cases hxs : x.safe with
        | none => exact ⟨⟨#[]⟩, false, by simp [hxs], by simp [hxs], by simp, by simp⟩
        | some y => exact ⟨y, true, by simp [hxs], by simp [hxs], by simp, by simp⟩
      have HSV := Lib.hid hsv
      clear hsv
      go_wp2_with (first
        | (at_lookup; refine wpList_lookV_ok _ rfl _ _ 24 rfl 9 9 Tryz.underlying9 Tryz.underlying24 (.string ⟨#[]⟩) (Tryz.zeroValue9 _) bs1 d.fs.length _ rfl HS3.out f rfl Hf.out (.string sv) sb HSV.out.1 HSV.out.2.1 ?_)
        | (at_delete; refine wpList_delV _ rfl _ _ 24 9 rfl 9 Tryz.underlying9 Tryz.underlying24 bs1 d.fs.length _ rfl HS3.out f rfl Hf.out ?_))
      intro w4 hM4 hg4
      have HPT4 := Lib.hid (DX.hop HPT3.out.1 HF1.out HPT3.out.2 hg4 (Or.inr rfl) HM1.out.ne)
      have HN4 : Hid (MapV Tryz.prog 9 w4 bn1 (d.fs.length + 1) (putM (putM (nowM d.fs) f none) t (some (.string x.now)))) := HM3.out.keep (hg4.block bn1 HM3.out.lt (fun e => by injection e with e; exact HM1.out.ne.1 e))
      have HM4 := Lib.hid hM4
      clear hM4 hg4
      clear d0 d1 dlt
      obtain ⟨d0, d1, -, -, -, -⟩ := HPT4.out.1.cell
      have dlt := HPT4.out.1.lt
      go_wp2_with (at_delete; refine wpList_delV _ rfl _ _ 24 9 rfl 9 Tryz.underlying9 Tryz.underlying24 bs1 d.fs.length _ rfl HM4.out t rfl Ht80.out ?_)
      intro w5 hM5 hg5
      have HPT5 := Lib.hid (DX.hop HPT4.out.1 HF1.out HPT4.out.2 hg5 (Or.inr rfl) HM1.out.ne)
      have HN5 : Hid (MapV Tryz.prog 9 w5 bn1 (d.fs.length + 1) (putM (putM (nowM d.fs) f none) t (some (.string x.now)))) := HN4.out.keep (hg5.block bn1 HN4.out.lt (fun e => by injection e with e; exact HM1.out.ne.1 e))
      have HM5 := Lib.hid hM5
      have Hg5 := Lib.hid hg5
      clear hM5 hg5
      clear d0 d1 dlt
      obtain ⟨d0, d1, -, -, -, -⟩ := HPT5.out.1.cell
      have dlt := HPT5.out.1.lt
      cases sb
      · have hxs : x.safe = none := by
          have := HSV.out.2.2.1
          cases e : x.safe with
          | none => rfl
          | some y => rw [e] at this; cases this
        have HX : Hid (DX w a F { usedD d with fs := fput (fdel d.fs f) t x } w5) := by
          refine DX.next HPT4.out.1 HF1.out HPT4.out.2 Hg5.out (Or.inr rfl) (PMs.make HM1.out.ne ((Hn.out.del _).put _ _) HN5.out (fun s => ?_) HM5.out (fun s => ?_))
          · rw [nowM_put]
            show putM _ _ _ _ = putM (nowM (fdel d.fs f)) t _ s
            rw [show nowM (fdel d.fs f) = putM (nowM d.fs) f none from funext fun s => nowM_del d.fs f s]
          · rw [safeM_put, hxs]
            show putM _ _ _ _ = putM (safeM (fdel d.fs f)) t _ s
            rw [show safeM (fdel d.fs f) = putM (safeM d.fs) f none from funext fun s => safeM_del d.fs f s]
            rfl
        clear hxs d0 d1
        go_wp2_with fail
        go_ret
        rw [HR.out]
        exact ⟨rfl, HX.out.step⟩
      · have hxs : x.safe = some sv := HSV.out.2.2.2 rfl
        have Hxs := Lib.hid hxs
        clear hxs
        go_wp2_with (at_mapUpdate; refine wpList_storeV _ rfl _ _ _ 24 rfl 9 9 Tryz.underlying9 Tryz.underlying24 bs1 d.fs.length _ rfl HM5.out (by unfold maxLen; omega) t rfl Ht80.out (.string sv) rfl ?_)
        intro w6 hM6 hg6
        have HX : Hid (DX w a F { usedD d with fs := fput (fdel d.fs f) t x } w6) := by
          refine DX.next HPT5.out.1 HF1.out HPT5.out.2 hg6 (Or.inr rfl) (PMs.make HM1.out.ne ((Hn.out.del _).put _ _) (HN5.out.keep (hg6.block bn1 HN5.out.lt (fun e => by injection e with e; exact HM1.out.ne.1 e))) (fun s => ?_) hM6 (fun s => ?_))
          · rw [nowM_put]
            show putM _ _ _ _ = putM (nowM (fdel d.fs f)) t _ s
            rw [show nowM (fdel d.fs f) = putM (nowM d.fs) f none from funext fun s => nowM_del d.fs f s]
          · rw [safeM_put, Hxs.out]
            show putM _ _ _ _ = putM (safeM (fdel d.fs f)) t _ s
            rw [show safeM (fdel d.fs f) = putM (safeM d.fs) f none from funext fun s => safeM_del d.fs f s]
            unfold putM
            by_cases e : s = t
            · simp [e]
            · simp [e]
        clear hM6 hg6 d0 d1
        go_wp2_with fail
        go_ret
        rw [HR.out]
        exact ⟨rfl, HX.out.step⟩

theorem move_calls (w : World) (a : Nat) (F : List Nat) (d : DiskD) (f t : ByteArray) (h : PDisk w a F d) (hn : NodupK d.fs) (hl : d.fs.length < 1000000) (hleft : d.left ≤ 9223372036854775807) (hf : f.size ≤ maxLen) (ht : t.size ≤ 9223372036854775807) :
    Calls Tryz.prog 35 #[.pointer (some ⟨a, 0, none⟩), .string f, .string t] w (OpR w a F (moveD d f t)) := by
  cases hnt : nameB t
  case' true => exact moveGood_calls w a F d f t h hn hl hleft hf ht hnt
  have HP := Lib.hid h
  obtain ⟨nv, sv, l, m, hc, hm⟩ := h
  obtain ⟨c0, c1, c2, c3, c4, c5⟩ := hc.cell
  have hlt := hc.lt
  have Hf := Lib.hid hf
  have Ht := Lib.hid ht
  have HNT := Lib.hid hnt
  have HR : Hid (moveD d f t = (1, d)) := by show _ = _; unfold moveD; rw [if_pos hnt]
  clear hc c1 c2 c3 c4 c5 hleft hf ht hnt hn hl
  rcases hm with ⟨rfl, rfl, hfs, -⟩ | ⟨bn, bs, rfl, rfl, -, hM⟩
  · clear hfs
    go_enter Tryz.func35, Tryz.ntmps35
    go_wp2_with (at_lookup; refine wpList_lookNil _ rfl _ _ 24 rfl 9 9 Tryz.underlying9 Tryz.underlying24 (.string ⟨#[]⟩) (Tryz.zeroValue9 _) rfl f rfl Hf.out ?_)
    refine (name_calls t _ Ht.out).mono ?_
    rintro e0 w0 ⟨rfl, rfl⟩
    rw [HNT.out]
    go_wp2_with fail
    go_ret
    rw [HR.out]
    exact ⟨rfl, DStep.refl HP.out⟩
  · obtain ⟨v, hv⟩ : ∃ v, gotV (nowM d.fs) (.string ⟨#[]⟩) f = v := ⟨_, rfl⟩
    obtain ⟨y, hy⟩ : ∃ y, (nowM d.fs f).isSome = y := ⟨_, rfl⟩
    have HG := Lib.hid (And.intro hv hy)
    have HM := Lib.hid hM.now
    clear hv hy hM
    go_enter Tryz.func35, Tryz.ntmps35
    go_wp2_with (at_lookup; refine wpList_lookV_ok _ rfl _ _ 24 rfl 9 9 Tryz.underlying9 Tryz.underlying24 (.string ⟨#[]⟩) (Tryz.zeroValue9 _) bn d.fs.length _ rfl HM.out f rfl Hf.out v y HG.out.1 HG.out.2 ?_)
    refine (name_calls t _ Ht.out).mono ?_
    rintro e0 w0 ⟨rfl, rfl⟩
    rw [HNT.out]
    go_wp2_with fail
    go_ret
    rw [HR.out]
    exact ⟨rfl, DStep.refl HP.out⟩
end Go.Proofs.YtodmnogoacghpaaGreatDoor
