/- A book: Tidy. -/
import Derived.Test.YtodmnogoacghpaaGreatDoorM29
namespace Go.Proofs.YtodmnogoacghpaaGreatDoor
open Go.RowKit
set_option maxRecDepth 100000
set_option maxHeartbeats 4000000

/-- The names' lines in order. -/
def textN (m : FS) (ns : List ByteArray) : List UInt8 := ns.flatMap fun n => (lineT n (nowOf m n)).data.toList
def textM (m : FS) : ByteArray := ⟨(textN m (sortB (m.map (·.1)))).toArray⟩
def tidyD (d : DiskD) (s : ByteArray) : Int × DiskD :=
  if (keepsD d fFresh s).1 = 0 then
    if (moveD (keepsD d fFresh s).2 fFresh fPage).1 = 0 then keepsD (moveD (keepsD d fFresh s).2 fFresh fPage).2 fNotes ⟨#[]⟩
    else moveD (keepsD d fFresh s).2 fFresh fPage
  else keepsD d fFresh s
def tidyB (s : BkS) : Int × BkS :=
  if s.dn = true then (6, s)
  else if (tidyD s.d (textM s.m)).1 = 0 then (0, ⟨(tidyD s.d (textM s.m)).2, s.m, ⟨#[]⟩, false⟩)
  else ((tidyD s.d (textM s.m)).1, ⟨(tidyD s.d (textM s.m)).2, s.m, s.t, true⟩)
theorem textN_take (m : FS) (ns : List ByteArray) (i : Nat) (h : i < ns.length) : textN m (ns.take (i + 1)) = textN m (ns.take i) ++ (lineT (ns.getD i ⟨#[]⟩) (nowOf m (ns.getD i ⟨#[]⟩))).data.toList := by
  unfold textN
  rw [List.take_succ_eq_append_getElem h, List.flatMap_append]
  have e : ns.getD i ⟨#[]⟩ = ns[i] := by simp [List.getD_eq_getElem?_getD, h]
  rw [e]
  simp
theorem textN_len (m : FS) (ns : List ByteArray) (i : Nat) : (textN m (ns.take i)).length ≤ (textN m ns).length := by
  have h : textN m ns = textN m (ns.take i) ++ textN m (ns.drop i) := by
    unfold textN
    rw [← List.flatMap_append, List.take_append_drop]
  rw [h, List.length_append]
  exact Nat.le_add_right _ _
theorem GoodD.keeps {C M : Nat} {d : DiskD} (h : GoodD C M d) {f s : ByteArray} (hs : s.size ≤ M) : GoodD (C + 1) M (keepsD d f s).2 := by
  unfold keepsD
  split
  · exact (h.write hs).sync f
  · exact h.write hs
theorem tidy_calls (w : World) (F : List Nat) (a bb : Nat) (s : BkS) (h : BkW w F a bb s) (hF : OffG F) (hm : MaxV w) (hg : GoodD 998 30000 s.d) (ht : (textM s.m).size ≤ 30000) (hl : s.m.length ≤ 1000) (hns : ∀ n ∈ sortB (s.m.map (·.1)), n.size ≤ maxLen) :
    Calls Tryz.prog 12 #[.pointer (some ⟨bb, 0, none⟩)] w fun e w' => e = .returned (errV (tidyB s).1) ∧ BkN w F a bb (tidyB s).2 w' := by
  obtain ⟨d, m, t, dn⟩ := s
  unfold BkW BkN at *
  dsimp only at h hg ht hl hns
  obtain ⟨bl, c0, c1, c2, c3, hlt, hfr, hM⟩ := h.cells
  have HB := Lib.hid h
  have HF := Lib.hid hF
  have HM := Lib.hid hm
  have HG := Lib.hid hg
  have HMV := Lib.hid hM
  have hMlt := Lib.hid hM.lt
  have Hl := Lib.hid hl
  clear h hF hm hg hfr hM hl
  cases dn
  case' true =>
    have HE : Hid (tidyB ⟨d, m, t, true⟩ = (6, ⟨d, m, t, true⟩)) := by show _ = _; unfold tidyB; exact if_pos rfl
    go_enter Tryz.func12, Tryz.ntmps12
    go_wp2_with fail
    go_ret
    rw [HE.out]
    exact ⟨rfl, BStep.refl HB.out⟩
  obtain ⟨T, hT⟩ : ∃ T, textM m = T := ⟨_, rfl⟩
  obtain ⟨ns, hnsE⟩ : ∃ ns, sortB (m.map (·.1)) = ns := ⟨_, rfl⟩
  have hTE : T = ⟨(textN m ns).toArray⟩ := by rw [← hT, ← hnsE]; rfl
  have HTlen : Hid ((textN m ns).length ≤ 30000) := by
    rw [hT, hTE] at ht
    exact ht
  rw [hT] at ht
  rw [hnsE] at hns
  have HNS := Lib.hid hns
  have HTE := Lib.hid hTE
  obtain ⟨k3, hk3⟩ : ∃ k3, (tidyD d T).1 = k3 := ⟨_, rfl⟩
  obtain ⟨d3, hd3⟩ : ∃ d3, (tidyD d T).2 = d3 := ⟨_, rfl⟩
  have HE : Hid (tidyB ⟨d, m, t, false⟩ = if k3 = 0 then (0, ⟨d3, m, ⟨#[]⟩, false⟩) else (k3, ⟨d3, m, t, true⟩)) := by
    show _ = _
    unfold tidyB
    rw [if_neg (by simp), hT, hk3, hd3]
  have HK3 := Lib.hid (And.intro hk3 hd3)
  have Ht := Lib.hid ht
  have BN : Hid (∀ W, Below w.heap.size w W → Calls Tryz.prog 16 #[.pointer (some ⟨bb, 0, none⟩)] W fun e w' => ∃ v, e = .returned v ∧ Strs w' v ns ∧ (FreshV W.heap.size v ∧ RowS w' v) ∧ Below W.heap.size W w') := fun W hb => by
    have := bnames_calls W F a bb d m t false (HB.out.below hb) (by have := Hl.out; omega)
    rw [hnsE] at this
    exact this
  clear hT hnsE hTE ht hns hk3 hd3
  obtain ⟨z, hz⟩ : ∃ z, w.heap.size = z := ⟨_, rfl⟩
  have Hz := Lib.hid hz
  have hza : (w.alloc (.cells #[.pointer none, .slice none 0 0] 78)).heap.size = z + 1 := by simp [hz]
  have HA1 : Hid ((w.alloc (.cells #[.pointer none, .slice none 0 0] 78)).heap[z]? = some (.cells #[.pointer none, .slice none 0 0] 78)) := by
    show _ = _
    rw [← hz]
    exact heap_alloc_new w _
  have HB1 : Hid (Below z w (w.alloc (.cells #[.pointer none, .slice none 0 0] 78))) := (Below.refl _ _).alloc (by omega) _
  rw [hz] at BN
  have hltz : bb < z := by rw [← hz]; exact hlt
  go_enter Tryz.func12, Tryz.ntmps12
  go_wp2_with fail
  obtain ⟨w1, hw1⟩ : ∃ w1 : World, w.alloc (.cells #[.pointer none, .slice none 0 0] 78) = w1 := ⟨_, rfl⟩
  rw [hw1] at HA1 HB1 hza ⊢
  clear hw1
  refine (BN.out _ HB1.out).mono ?_
  rintro e2 w2 ⟨v2, rfl, hS2, ⟨hfv, hrs⟩, hb2⟩
  obtain ⟨av, cv, rfl, hcv, hmv, hcell⟩ := hS2.1
  unfold maxLen at hmv
  obtain ⟨n, hn⟩ : ∃ n, ns.length = n := ⟨_, rfl⟩
  have HN := Lib.hid hn
  rw [hn] at hcv hcell hfv hrs ⊢
  have HC := Lib.hid hcell
  have HFV := Lib.hid hfv
  have HRS := Lib.hid hrs
  rw [hza] at hb2 HFV
  have HB2 : Hid (Below z w w2) := HB1.out.trans (hb2.mono (by omega))
  have HBL : Hid (Bld z z [] w2) := by
    have := bld_new w w2 (by rw [Hz.out, hb2.block z (by omega)]; exact HA1.out)
    rw [Hz.out] at this
    exact this
  have hz2 : z + 1 ≤ w2.heap.size := by have := hb2.size; omega
  clear hS2 hcell hfv hrs hb2 hn hza BN
  go_wp2_with fail
  go_loopg [15] n (fun k v15 wr => ∃ i : Nat, v15 = .int .i64 i ∧ i ≤ n ∧ k = n - i ∧ Below z w wr ∧ Kept z w2 wr ∧ Bld z z (textN m (ns.take i)) wr ∧ z + 1 ≤ wr.heap.size)
  case atStart => exact ⟨0, rfl, Nat.zero_le _, rfl, HB2.out, Lib.OthersKept.refl _ _ _, HBL.out, hz2⟩
  case round =>
    obtain ⟨i, rfl, hi, hk, hBr, hKr, hLr, hzr⟩ := hrel
    have Hk := Lib.hid hk
    have HBr := Lib.hid hBr
    have HKr := Lib.hid hKr
    have HLr := Lib.hid hLr
    clear hk hKr hLr
    by_cases hlt' : i < n
    · obtain ⟨b1, o1, rfl, hb1, hc1⟩ := HC.out.resolve_left (by omega)
      obtain ⟨x, hx⟩ : ∃ x, ns.getD i ⟨#[]⟩ = x := ⟨_, rfl⟩
      have hxm : x ∈ ns := by
        rw [← hx]
        have hi' : i < ns.length := by rw [HN.out]; exact hlt'
        rw [List.getD_eq_getElem?_getD, List.getElem?_eq_getElem hi']
        exact List.getElem_mem hi'
      have hxs : Hid (x.size ≤ maxLen) := HNS.out x hxm
      have d1 : wr.cell? ⟨b1, o1 + i, none⟩ = some (.string x) := by
        have h1 : w2.cell? ⟨b1, o1 + i * 1 + 0, none⟩ = some (.string (ns.getD i ⟨#[]⟩)) := hc1 i 0 hlt' (by decide)
        rw [hx] at h1
        obtain ⟨cur, fz, hr1⟩ := HRS.out b1 rfl
        have hne : b1 ≠ z := by
          rcases HFV.out with h | ⟨g, n', c', h, hg⟩
          · cases h
          · cases h; omega
        have hk1 := HKr.out b1 _ hr1 (by simpa using hne) (by rintro c fz' h; cases h)
        simp only [World.cell?] at h1 ⊢
        rw [hk1]
        rw [hr1] at h1
        simpa using h1
      have e1 : wr.cell? ⟨bb, 1, none⟩ = some (.map (some bl)) := (hBr.cell (p := ⟨bb, 1, none⟩) hltz).trans c1
      have hbw : bb < wr.heap.size := by omega
      have HMr : Hid (MapV Tryz.prog 9 wr bl m.length (nowM m)) := HMV.out.keep (hBr.block bl (by have := hMlt.out; have := Hz.out; omega))
      have HGx := Lib.hid (nowOf_got m x)
      obtain ⟨y, hy⟩ : ∃ y, nowOf m x = y := ⟨_, rfl⟩
      have HTK : Hid (textN m (ns.take (i + 1)) = textN m (ns.take i) ++ (x ++ ⟨#[9]⟩ ++ y ++ ⟨#[10]⟩).data.toList) := by
        have := textN_take m ns i (by rw [HN.out]; exact hlt')
        rw [hx, hy] at this
        exact this
      rw [hy] at HGx
      have WS := Lib.hid (bld_write z z (textN m (ns.take i)) (x ++ ⟨#[9]⟩ ++ y ++ ⟨#[10]⟩) wr HLr.out (by
        have h1 := congrArg List.length HTK.out
        have h2 := textN_len m ns (i + 1)
        have h3 := HTlen.out
        rw [List.length_append] at h1
        have h4 : (x ++ ⟨#[9]⟩ ++ y ++ ⟨#[10]⟩).data.toList.length = (x ++ ⟨#[9]⟩ ++ y ++ ⟨#[10]⟩).size := rfl
        omega) (by omega))
      have hxy : x.size + y.size ≤ 30000 := by
        have h1 := congrArg List.length HTK.out
        have h2 := textN_len m ns (i + 1)
        have h3 := HTlen.out
        rw [List.length_append] at h1
        have h4 : (x ++ ⟨#[9]⟩ ++ y ++ ⟨#[10]⟩).data.toList.length = (x ++ ⟨#[9]⟩ ++ y ++ ⟨#[10]⟩).size := rfl
        rw [ByteArray.size_append, ByteArray.size_append, ByteArray.size_append] at h4
        omega
      have hx1 : x.size ≤ 30000 := by omega
      have hy1 : y.size ≤ 30000 := by omega
      clear hc1 hx hxm hBr hy c0 c1 c2 c3
      go_wp2_with (at_lookup; refine wpList_lookV _ rfl _ _ 24 rfl 9 9 Tryz.underlying9 Tryz.underlying24 (.string ⟨#[]⟩) (Tryz.zeroValue9 _) bl m.length _ rfl HMr.out x rfl hxs.out (.string y) HGx.out ?_)
      refine WS.out.mono ?_
      rintro e3 w3 ⟨rfl, hl3, hb3, hk3⟩
      have HL3 := Lib.hid (And.intro hl3 (And.intro hb3 hk3))
      clear hl3 hb3 hk3 WS d1 e1
      go_wp2_with fail
      go_roundg (n - (i + 1))
      case rel =>
        refine ⟨i + 1, by go_num, by omega, rfl, HBr.out.trans HL3.out.2.1, HKr.out.trans HL3.out.2.2, ?_, Nat.le_trans hzr HL3.out.2.1.size⟩
        rw [HTK.out]
        exact HL3.out.1
      case measure => have := Hk.out; omega
    · obtain rfl : i = n := by omega
      have hLT : textN m (ns.take i) = textN m ns := by rw [← HN.out, List.take_length]
      rw [hLT] at HLr
      have BS := Lib.hid (bld_string z z (textN m ns) wr HLr.out (by omega))
      rw [← HTE.out] at BS
      clear hLT hBr c0 c1 c2 c3
      go_wp2_with fail
      refine BS.out.mono ?_
      rintro e4 w4 ⟨rfl, hb4, -⟩
      have HB4 : Hid (Below w.heap.size w w4) := by rw [Hz.out]; exact HBr.out.trans hb4
      clear hb4 BS HBr HKr HLr
      have hF4 := HB.out.below HB4.out
      have hM4 := HM.out.below HB4.out
      have BACK : Hid (∀ d' m' t' dn' w9, BStep w4 F a bb d' m' t' dn' w9 → BStep w F a bb d' m' t' dn' w9) := fun d' m' t' dn' w9 h => by
        obtain ⟨F9, q1, q2, q3⟩ := h
        exact ⟨F9, q1, fun k hk => (q2 k hk).imp id (fun h => Nat.le_trans HB4.out.size h), (Turn.of_below (F := F) HB4.out).trans q3 (fun x hx => Or.inl hx)⟩
      have K1 := Lib.hid (keeps_calls w4 F a bb d m t false fFresh T hF4 (HG.out.mono (by decide) (Nat.le_refl _)) (by decide) Ht.out)
      have hG1 : GoodD 999 30000 (keepsD d fFresh T).2 := HG.out.keeps Ht.out
      obtain ⟨k1, hk1⟩ : ∃ k1, (keepsD d fFresh T).1 = k1 := ⟨_, rfl⟩
      obtain ⟨d1, hd1⟩ : ∃ d1, (keepsD d fFresh T).2 = d1 := ⟨_, rfl⟩
      have hTD : tidyD d T = if k1 = 0 then (if (moveD d1 fFresh fPage).1 = 0 then keepsD (moveD d1 fFresh fPage).2 fNotes ⟨#[]⟩ else moveD d1 fFresh fPage) else (k1, d1) := by
        unfold tidyD
        rw [hk1, hd1]
        split
        · rfl
        · rw [← hk1, ← hd1]
      rw [hk1, hd1] at K1
      rw [hd1] at hG1
      have HG1 := Lib.hid hG1
      have HTD := Lib.hid hTD
      have HF4 := Lib.hid hF4
      have HM4 := Lib.hid hM4
      clear hk1 hd1 hG1 hTD hF4 hM4
      go_wp2_with fail
      refine K1.out.mono ?_
      rintro e5 w5 ⟨rfl, hS5⟩
      clear K1
      obtain ⟨F5, hB5, hF5, hM5, hs5, hT5⟩ := hS5.off HF.out HM4.out
      obtain ⟨bl5, c50, -, c52, c53, hlt5, hfr5, -⟩ := hB5.cells
      have hfz5 := hfr5 3
      have HS5 := Lib.hid (And.intro hs5 hT5)
      have HB5 := Lib.hid hB5
      have HF5 := Lib.hid hF5
      have HM5 := Lib.hid hM5
      clear hS5 hB5 hF5 hM5 hs5 hT5 hfr5
      by_cases h1 : k1 = 0
      · subst h1
        rw [errV_zero]
        have hTD := HTD.out
        rw [if_pos rfl] at hTD
        have M1 := Lib.hid (bk_move HB5.out (f := fFresh) (g := fPage) (HG1.out.mono (by decide) (Nat.le_refl _)) (by decide) (by decide))
        have hG2 : GoodD 999 30000 (moveD d1 fFresh fPage).2 := HG1.out.move _ _
        obtain ⟨k2, hk2⟩ : ∃ k2, (moveD d1 fFresh fPage).1 = k2 := ⟨_, rfl⟩
        obtain ⟨d2, hd2⟩ : ∃ d2, (moveD d1 fFresh fPage).2 = d2 := ⟨_, rfl⟩
        have hTD2 : tidyD d T = if k2 = 0 then keepsD d2 fNotes ⟨#[]⟩ else (k2, d2) := by
          rw [hTD, hk2, hd2]
          split
          · rfl
          · rw [← hk2, ← hd2]
        rw [hk2, hd2] at M1
        rw [hd2] at hG2
        have HG2 := Lib.hid hG2
        have HTD2 := Lib.hid hTD2
        clear hTD hG2 hk2 hd2 hTD2
        go_wp2_with fail
        refine M1.out.mono ?_
        rintro e6 w6 ⟨rfl, hS6⟩
        clear M1 c50 c52 c53
        obtain ⟨F6, hB6, hF6, hM6, hs6, hT6⟩ := hS6.off HF5.out HM5.out
        obtain ⟨bl6, -, -, -, c63, hlt6, hfr6, -⟩ := hB6.cells
        have hfz6 := hfr6 3
        have HS6 := Lib.hid (And.intro hs6 hT6)
        have HB6 := Lib.hid hB6
        have HF6 := Lib.hid hF6
        have HM6 := Lib.hid hM6
        clear hS6 hB6 hF6 hM6 hs6 hT6 hfr6
        by_cases h2 : k2 = 0
        · subst h2
          rw [errV_zero]
          have hTD := HTD2.out
          rw [if_pos rfl] at hTD
          have K3 := Lib.hid (keeps_calls w6 F6 a bb d2 m t false fNotes ⟨#[]⟩ HB6.out HG2.out (by decide) (by decide))
          have e3 := HK3.out.1
          have e4 := HK3.out.2
          rw [hTD] at e3 e4
          rw [e3, e4] at K3
          clear hTD e3 e4
          go_wp2_with fail
          refine K3.out.mono ?_
          rintro e7 w7 ⟨rfl, hS7⟩
          clear K3 c63
          obtain ⟨F7, hB7, hF7, hM7, hs7, hT7⟩ := hS7.off HF6.out HM6.out
          obtain ⟨bl7, -, -, c72, c73, hlt7, hfr7, -⟩ := hB7.cells
          have hfz7 := hfr7 3
          have hfz8 := hfr7 2
          have HS7 := Lib.hid (And.intro hs7 hT7)
          have HB7 := Lib.hid hB7
          clear hS7 hB7 hF7 hM7 hs7 hT7 hfr7
          by_cases h3 : k3 = 0
          · subst h3
            rw [errV_zero]
            have HE0 := Lib.hid (HE.out.trans (if_pos rfl))
            clear HE
            go_wp2_with fail
            go_ret
            rw [HE0.out]
            exact ⟨rfl, BACK.out _ _ _ _ _ (BStep.join HS5.out.1 HS5.out.2 (BStep.join HS6.out.1 HS6.out.2 (BStep.join HS7.out.1 HS7.out.2 (HB7.out.setText ⟨#[]⟩))))⟩
          · rw [errV_some h3]
            have H3 := Lib.hid h3
            clear h3
            go_wp2_with fail
            go_ret
            rw [HE.out.trans (if_neg H3.out), errV_some H3.out]
            exact ⟨rfl, BACK.out _ _ _ _ _ (BStep.join HS5.out.1 HS5.out.2 (BStep.join HS6.out.1 HS6.out.2 (BStep.join HS7.out.1 HS7.out.2 (HB7.out.setDown true))))⟩
        · rw [errV_some h2]
          have hTD := HTD2.out
          rw [if_neg h2] at hTD
          have e3 := HK3.out.1
          have e4 := HK3.out.2
          rw [hTD] at e3 e4
          dsimp only at e3 e4
          subst e3 e4
          have H2 := Lib.hid h2
          clear h2 hTD
          go_wp2_with fail
          go_ret
          rw [HE.out.trans (if_neg H2.out), errV_some H2.out]
          exact ⟨rfl, BACK.out _ _ _ _ _ (BStep.join HS5.out.1 HS5.out.2 (BStep.join HS6.out.1 HS6.out.2 (HB6.out.setDown true)))⟩
      · rw [errV_some h1]
        have hTD := HTD.out
        rw [if_neg h1] at hTD
        have e3 := HK3.out.1
        have e4 := HK3.out.2
        rw [hTD] at e3 e4
        dsimp only at e3 e4
        subst e3 e4
        have H1 := Lib.hid h1
        clear h1 hTD
        go_wp2_with fail
        go_ret
        rw [HE.out.trans (if_neg H1.out), errV_some H1.out]
        exact ⟨rfl, BACK.out _ _ _ _ _ (BStep.join HS5.out.1 HS5.out.2 (HB5.out.setDown true))⟩
end Go.Proofs.YtodmnogoacghpaaGreatDoor
