/- A book: Set. -/
import Derived.Test.YtodmnogoacghpaaGreatDoorM27
namespace Go.Proofs.YtodmnogoacghpaaGreatDoor
open Go.RowKit
set_option maxRecDepth 100000
set_option maxHeartbeats 4000000

structure BkS where
  d : DiskD
  m : FS
  t : ByteArray
  dn : Bool
def BkW (w : World) (F : List Nat) (a bb : Nat) (s : BkS) : Prop := BkF w F a bb s.d s.m s.t s.dn
def BkN (w : World) (F : List Nat) (a bb : Nat) (s : BkS) (w' : World) : Prop := BStep w F a bb s.d s.m s.t s.dn w'
def fPage : ByteArray := ⟨#[98, 111, 111, 107, 47, 112, 97, 103, 101]⟩
def fFresh : ByteArray := ⟨#[98, 111, 111, 107, 47, 102, 114, 101, 115, 104]⟩
def fNotes : ByteArray := ⟨#[98, 111, 111, 107, 47, 110, 111, 116, 101, 115]⟩
def setB (s : BkS) (n v : ByteArray) : Int × BkS :=
  if s.dn = true then (6, s)
  else if rightB n v = false then (1, s)
  else if (keepsD s.d fNotes (s.t ++ lineT n v)).1 = 0 then (0, ⟨(keepsD s.d fNotes (s.t ++ lineT n v)).2, lineSet s.m n v, s.t ++ lineT n v, false⟩)
  else ((keepsD s.d fNotes (s.t ++ lineT n v)).1, ⟨(keepsD s.d fNotes (s.t ++ lineT n v)).2, s.m, s.t, true⟩)
section
variable {w w' : World} {F : List Nat} {a bb : Nat} {d : DiskD} {m : FS} {t : ByteArray} {dn : Bool}
theorem BStep.off (h : BStep w F a bb d m t dn w') (hF : OffG F) (hm : MaxV w) : ∃ F', BkF w' F' a bb d m t dn ∧ OffG F' ∧ MaxV w' ∧ (∀ k ∈ F', k ∈ F ∨ w.heap.size ≤ k) ∧ Turn F w w' := by
  obtain ⟨F', hB, hs, hT⟩ := h
  exact ⟨F', hB, fun k hk => (hs k hk).elim (hF k) (fun h => Nat.lt_of_lt_of_le hm.lt h), hm.turn hT hF, hs, hT⟩
theorem BStep.join {w'' : World} {F' : List Nat} {d' : DiskD} {m' : FS} {t' : ByteArray} {dn' : Bool} (hs : ∀ k ∈ F', k ∈ F ∨ w.heap.size ≤ k) (hT : Turn F w w') (h : BStep w' F' a bb d' m' t' dn' w'') : BStep w F a bb d' m' t' dn' w'' := by
  obtain ⟨F2, hB2, hs2, hT2⟩ := h
  exact ⟨F2, hB2, fun j hj => by
    rcases hs2 j hj with hj | hj
    · exact hs j hj
    · exact Or.inr (Nat.le_trans hT.size hj), hT.trans hT2 hs⟩
theorem BkF.setText (h : BkF w F a bb d m t dn) (t' : ByteArray) : BStep w F a bb d m t' dn (w.setCell ⟨bb, 2, none⟩ (.string t')) := by
  obtain ⟨FD, bl, hP, hA, rfl, h1, h2⟩ := h
  refine BkF.own hP h1 h2 ⟨?_, hA.map.cell (by show bl ≠ bb; exact fun e => hA.ne e.symm) _, hA.nodup, hA.ne⟩ ((Turn.refl _ w).setCell (Or.inl (by simp)) _)
  rw [heapSet_same w bb 2 _ hA.blk]
  rfl
theorem BkF.setDown (h : BkF w F a bb d m t dn) (b : Bool) : BStep w F a bb d m t b (w.setCell ⟨bb, 3, none⟩ (.bool b)) := by
  obtain ⟨FD, bl, hP, hA, rfl, h1, h2⟩ := h
  refine BkF.own hP h1 h2 ⟨?_, hA.map.cell (by show bl ≠ bb; exact fun e => hA.ne e.symm) _, hA.nodup, hA.ne⟩ ((Turn.refl _ w).setCell (Or.inl (by simp)) _)
  rw [heapSet_same w bb 3 _ hA.blk]
  rfl
theorem bk_read {s0 : ByteArray} (h : BkF w F a bb d m t dn) (hF : OffG F) (hm : MaxV w) (hs : s0.size ≤ 1000000) (hl : m.length ≤ 1000000) :
    Calls Tryz.prog 25 #[.pointer (some ⟨bb, 0, none⟩), .string s0] w fun e w' => e = .returned (.tuple #[]) ∧ BStep w F a bb d (readS m s0.data.toList) t dn w' := by
  obtain ⟨FD, bl, hP, hA, rfl, h1, h2⟩ := h
  refine (readAt_calls w a bb bl m s0 t dn hA (hF bl (by simp)) hm hs hl).mono ?_
  rintro e w' ⟨rfl, hA', hT⟩
  exact ⟨rfl, BkF.own hP h1 h2 hA' ⟨hT.os, hT.tape, hT.output, hT.size, fun k hk hn => hT.block k hk (fun hf => hn (by simp at hf; simp [hf]))⟩⟩
end
theorem set_calls (w : World) (F : List Nat) (a bb : Nat) (s : BkS) (n v : ByteArray) (h : BkW w F a bb s) (hF : OffG F) (hm : MaxV w) (hg : GoodD 999 30000 s.d) (hn : n.size ≤ 1000000) (hv : v.size ≤ 1000000) (ht : s.t.size ≤ 29000) (hl : s.m.length ≤ 1000) :
    Calls Tryz.prog 9 #[.pointer (some ⟨bb, 0, none⟩), .string n, .string v] w fun e w' => e = .returned (errV (setB s n v).1) ∧ BkN w F a bb (setB s n v).2 w' := by
  obtain ⟨d, m, t, dn⟩ := s
  unfold BkW BkN at *
  dsimp only at h hg ht hl
  obtain ⟨bl, c0, c1, c2, c3, hlt, hfr, -⟩ := h.cells
  have HB := Lib.hid h
  have HF := Lib.hid hF
  have HM := Lib.hid hm
  have HG := Lib.hid hg
  clear h hF hm hg hfr c0 c1
  cases dn
  case' true =>
    have HE : Hid (setB ⟨d, m, t, true⟩ n v = (6, ⟨d, m, t, true⟩)) := by show _ = _; unfold setB; exact if_pos rfl
    go_enter Tryz.func9, Tryz.ntmps9
    go_wp2_with fail
    go_ret
    rw [HE.out]
    exact ⟨rfl, BStep.refl HB.out⟩
  have RC := Lib.hid (right_calls n v w hn hv)
  cases hr : rightB n v
  case' false =>
    rw [hr] at RC
    have HE : Hid (setB ⟨d, m, t, false⟩ n v = (1, ⟨d, m, t, false⟩)) := by show _ = _; unfold setB; rw [if_neg (by simp), if_pos hr]
    clear hr
    go_enter Tryz.func9, Tryz.ntmps9
    go_wp2_with fail
    refine RC.out.mono ?_
    rintro e1 w1 ⟨rfl, hb1⟩
    have HB1 := Lib.hid hb1
    clear hb1
    go_wp2_with fail
    go_ret
    rw [HE.out]
    exact ⟨rfl, BStep.ofBelow HB.out HB1.out⟩
  rw [hr] at RC
  obtain ⟨hz1, hz2, hz3⟩ := rightB_size hr
  have Hr := Lib.hid hr
  have hlz : (lineT n v).size ≤ 326 := by
    unfold lineT
    rw [ByteArray.size_append, ByteArray.size_append, ByteArray.size_append]
    have e1 : (ByteArray.mk #[9]).size = 1 := rfl
    have e2 : (ByteArray.mk #[10]).size = 1 := rfl
    omega
  have htz : (t ++ lineT n v).size ≤ 30000 := by rw [ByteArray.size_append]; omega
  have HTT : Hid (t ++ n ++ ⟨#[9]⟩ ++ v ++ ⟨#[10]⟩ = t ++ lineT n v) := by
    show _ = _
    unfold lineT
    rw [ByteArray.append_assoc, ByteArray.append_assoc, ByteArray.append_assoc, ByteArray.append_assoc, ByteArray.append_assoc]
  have HLT : Hid (n ++ ⟨#[9]⟩ ++ v ++ ⟨#[10]⟩ = lineT n v) := rfl
  have KP : Hid (∀ W, Below w.heap.size w W → Calls Tryz.prog 30 #[.pointer (some ⟨bb, 0, none⟩), .string ⟨#[98, 111, 111, 107, 47, 110, 111, 116, 101, 115]⟩, .string (t ++ n ++ ⟨#[9]⟩ ++ v ++ ⟨#[10]⟩)] W fun e w' => e = .returned (errV (keepsD d fNotes (t ++ lineT n v)).1) ∧ BStep W F a bb (keepsD d fNotes (t ++ lineT n v)).2 m t false w') := fun W hb => by
    rw [HTT.out]
    exact keeps_calls W F a bb d m t false fNotes (t ++ lineT n v) (HB.out.below hb) HG.out (by decide) htz
  obtain ⟨k1, hk1⟩ : ∃ k1, (keepsD d fNotes (t ++ lineT n v)).1 = k1 := ⟨_, rfl⟩
  obtain ⟨d1, hd1⟩ : ∃ d1, (keepsD d fNotes (t ++ lineT n v)).2 = d1 := ⟨_, rfl⟩
  have HE : Hid (setB ⟨d, m, t, false⟩ n v = if k1 = 0 then (0, ⟨d1, lineSet m n v, t ++ lineT n v, false⟩) else (k1, ⟨d1, m, t, true⟩)) := by
    show _ = _
    unfold setB
    rw [if_neg (by simp), if_neg (by rw [hr]; decide), hk1, hd1]
  rw [hk1, hd1] at KP
  clear hr hk1 hd1 hz1 hz2 hz3
  by_cases h0 : k1 = 0
  · subst h0
    rw [errV_zero] at KP
    have HE0 : Hid (setB ⟨d, m, t, false⟩ n v = (0, ⟨d1, lineSet m n v, t ++ lineT n v, false⟩)) := by show _ = _; rw [HE.out]; exact if_pos rfl
    go_enter Tryz.func9, Tryz.ntmps9
    go_wp2_with fail
    refine RC.out.mono ?_
    rintro e1 w1 ⟨rfl, hb1⟩
    have HB1 := Lib.hid hb1
    have c21 : w1.cell? ⟨bb, 2, none⟩ = some (.string t) := (hb1.cell (p := ⟨bb, 2, none⟩) hlt).trans c2
    clear hb1 RC c2 c3
    go_wp2_with fail
    refine (KP.out _ HB1.out).mono ?_
    rintro e2 w2 ⟨rfl, hS2⟩
    obtain ⟨F2, hB2, hF2, hM2, hs2, hT2⟩ := hS2.off HF.out (HM.out.below HB1.out)
    obtain ⟨bl2, -, -, c22, -, hlt2, hfr2, -⟩ := hB2.cells
    have hfz := hfr2 2
    have HS2 := Lib.hid (And.intro hs2 hT2)
    obtain ⟨F3, hB3, hF3, hM3, hs3, hT3⟩ := (hB2.setText (t ++ lineT n v)).off hF2 hM2
    have HS3 := Lib.hid (And.intro hs3 hT3)
    obtain ⟨w3, hw3⟩ : ∃ w3 : World, w2.setCell ⟨bb, 2, none⟩ (.string (t ++ n ++ ⟨#[9]⟩ ++ v ++ ⟨#[10]⟩)) = w3 := ⟨_, rfl⟩
    have Hw3 := Lib.hid hw3
    rw [← HTT.out] at hB3 hM3
    rw [hw3] at hB3 hM3
    have HB3 := Lib.hid hB3
    have RD : Hid (Calls Tryz.prog 25 #[.pointer (some ⟨bb, 0, none⟩), .string (n ++ ⟨#[9]⟩ ++ v ++ ⟨#[10]⟩)] w3 fun e w' => e = .returned (.tuple #[]) ∧ BStep w3 F3 a bb d1 (lineSet m n v) (t ++ lineT n v) false w') := by
      have h := bk_read (s0 := lineT n v) hB3 hF3 hM3 (by omega) (by omega)
      rw [readS_one m Hr.out, HTT.out] at h
      rw [HLT.out]
      exact h
    clear hS2 hB2 hF2 hM2 hs2 hT2 hfr2 hB3 hF3 hM3 hs3 hT3 hw3 KP c21
    go_wp2_with fail
    rw [Hw3.out]
    go_wp2_with fail
    refine RD.out.mono ?_
    rintro e4 w4 ⟨rfl, hS4⟩
    have HS4 := Lib.hid hS4
    clear hS4 RD
    go_wp2_with fail
    go_ret
    rw [HE0.out]
    refine ⟨rfl, ?_⟩
    have h3 : Turn F2 w2 w3 := by have := HS3.out.2; rw [← HTT.out, Hw3.out] at this; exact this
    have s3 : BStep w1 F a bb d1 (lineSet m n v) (t ++ lineT n v) false w4 := BStep.join HS2.out.1 HS2.out.2 (BStep.join HS3.out.1 h3 HS4.out)
    obtain ⟨F9, q1, q2, q3⟩ := s3
    exact ⟨F9, q1, fun k hk => (q2 k hk).imp id (fun h => Nat.le_trans HB1.out.size h), (Turn.of_below (F := F) HB1.out).trans q3 (fun x hx => Or.inl hx)⟩
  · have HE0 : Hid (setB ⟨d, m, t, false⟩ n v = (k1, ⟨d1, m, t, true⟩)) := by show _ = _; rw [HE.out]; exact if_neg h0
    rw [errV_some h0] at KP
    have H0 := Lib.hid h0
    clear h0
    go_enter Tryz.func9, Tryz.ntmps9
    go_wp2_with fail
    refine RC.out.mono ?_
    rintro e1 w1 ⟨rfl, hb1⟩
    have HB1 := Lib.hid hb1
    have c21 : w1.cell? ⟨bb, 2, none⟩ = some (.string t) := (hb1.cell (p := ⟨bb, 2, none⟩) hlt).trans c2
    clear hb1 RC c2 c3
    go_wp2_with fail
    refine (KP.out _ HB1.out).mono ?_
    rintro e2 w2 ⟨rfl, hS2⟩
    obtain ⟨F2, hB2, hF2, hM2, hs2, hT2⟩ := hS2.off HF.out (HM.out.below HB1.out)
    obtain ⟨bl2, -, -, -, c32, hlt2, hfr2, -⟩ := hB2.cells
    have hfz := hfr2 3
    have HS2 := Lib.hid (And.intro hs2 hT2)
    have HS3 := Lib.hid (hB2.setDown true)
    clear hS2 hB2 hF2 hM2 hs2 hT2 hfr2 KP c21
    go_wp2_with fail
    go_ret
    rw [HE0.out, errV_some H0.out]
    refine ⟨rfl, ?_⟩
    have s3 : BStep w1 F a bb d1 m t true _ := BStep.join HS2.out.1 HS2.out.2 HS3.out
    obtain ⟨F9, q1, q2, q3⟩ := s3
    exact ⟨F9, q1, fun k hk => (q2 k hk).imp id (fun h => Nat.le_trans HB1.out.size h), (Turn.of_below (F := F) HB1.out).trans q3 (fun x hx => Or.inl hx)⟩
end Go.Proofs.YtodmnogoacghpaaGreatDoor
