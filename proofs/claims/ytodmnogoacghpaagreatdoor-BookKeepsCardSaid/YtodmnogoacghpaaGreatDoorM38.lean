/- One book; a second one on a new disk. · For the walk of BookKeeps: what Set and Tidy do to a book whose disk may be cut, and what stands then. · A round of BookKeeps, in plain words: what Set and Tidy answer, what stands then, and what stands when the power is on again. -/
import Derived.Test.YtodmnogoacghpaaGreatDoorM37
namespace Go.Proofs.YtodmnogoacghpaaGreatDoor
open Go.RowKit
set_option maxRecDepth 100000

def OneB (w : World) (B : Nat) (X : List Nat) (a bb : Nat) (s : BkS) : Prop :=
  ∃ F, BkW w F a bb s ∧ (∀ k ∈ F, B ≤ k) ∧ (∀ k ∈ X, k < w.heap.size ∧ k ∉ F) ∧ MaxV w ∧ 1 < B
theorem TwoB.one {w : World} {B : Nat} {X : List Nat} {a bb a2 b2 : Nat} {s s2 : BkS} (h : TwoB w B X a bb s a2 b2 s2) : OneB w B X a bb s := by
  obtain ⟨F, F2, h1, h2, h3, h4, h5, h6, h7, h8⟩ := h
  exact ⟨F, h1, h4, fun k hk => ⟨(h6 k hk).1, (h6 k hk).2.1⟩, h7, h8⟩
theorem OneB.other {w w' : World} {B : Nat} {X : List Nat} {a bb : Nat} {s : BkS} (h : OneB w B X a bb s) (hb : Below w.heap.size w w') : OneB w' B X a bb s := by
  obtain ⟨F, h1, h2, h3, h4, h5⟩ := h
  have h1' : BkF w F a bb s.d s.m s.t s.dn := h1
  exact ⟨F, h1'.below hb, h2, fun k hk => ⟨Nat.lt_of_lt_of_le (h3 k hk).1 hb.size, (h3 k hk).2⟩, h4.below hb, h5⟩
theorem OneB.lt {w : World} {B : Nat} {X : List Nat} {a bb : Nat} {s : BkS} (h : OneB w B X a bb s) : ∀ k ∈ X, k < w.heap.size := by
  obtain ⟨F, h1, h2, h3, h4, h5⟩ := h
  exact fun k hk => (h3 k hk).1
/-- The second book, opened on a new disk at block z: all its blocks are new. -/
theorem OneB.two {w w1 w' : World} {B z : Nat} {X : List Nat} {a bb b2 : Nat} {s s2 : BkS} {F2 : List Nat} (h : OneB w B X a bb s) (hz : w.heap.size ≤ z) (hBz : B ≤ z) (hb1 : Below w.heap.size w w1) (hb2 : Below w.heap.size w1 w') (h2 : BkW w' F2 z b2 s2) (hF : ∀ k ∈ F2, z ≤ k) : TwoB w' B X a bb s z b2 s2 := by
  obtain ⟨F, h1, h4, h6, h7, h8⟩ := h
  have h1' : BkF w F a bb s.d s.m s.t s.dn := h1
  have hb : Below w.heap.size w w' := hb1.trans hb2
  refine ⟨F, F2, h1'.below hb, h2, fun k hk hf => ?_, h4, fun k hk => Nat.le_trans hBz (hF k hk), fun k hk => ⟨Nat.lt_of_lt_of_le (h6 k hk).1 hb.size, (h6 k hk).2, fun hf => ?_⟩, h7.below hb, h8⟩
  · have := h1'.lt k hk; have := hF k hf; omega
  · have := (h6 k hk).1; have := hF k hf; omega
end Go.Proofs.YtodmnogoacghpaaGreatDoor
namespace Go.Proofs.YtodmnogoacghpaaGreatDoor
set_option maxRecDepth 10000

theorem cut_off {k : Nat} {d : DiskD} {m : FS} {t : ByteArray} (h : KInv k d m t) : cutD d (-1) = d := by
  obtain ⟨fs, left, bytes⟩ := d
  have := h.left
  dsimp only at this
  subst this
  rfl
theorem KInv.tsize {k : Nat} {d : DiskD} {m : FS} {t : ByteArray} (h : KInv k d m t) (hk : k ≤ 60) : t.size ≤ 29000 := by
  obtain ⟨lp, ln, r, g1, g2, g3, g4, g5, g6, -⟩ := h.ex
  have h6 := encE_len ln g2
  rw [g6]
  have : (ofL (encE ln)).size = (encE ln).length := rfl
  omega
/-- Nothing was written: the same lines stand. -/
theorem stay_crash {k : Nat} {d : DiskD} {m : FS} {t : ByteArray} (h : KInv k d m t) {L : Int} (hL : L ≤ 9223372036854775807) (keeps : Int) :
    ∃ m' t', openB (startD (cutD d L) keeps) = ⟨startD (cutD d L) keeps, m', t', false⟩ ∧ KInv (k + 1) (startD (cutD d L) keeps) m' t' ∧ ∀ f, fget m' f = fget m f := by
  obtain ⟨lp, ln, r, g1, g2, g3, g4, g5, g6, g7, g8, g9⟩ := h.ex
  have k3 := cutD_good h.good hL
  have q6 : (nowOf (startD (cutD d L) keeps).fs fNotes).data.toList = encE ln ++ r := by rw [start_now_all k3.nodup h.safe keeps (f := fNotes) rfl, g7]
  have q7 : nowOf (startD (cutD d L) keeps).fs fPage = ofL (encE lp) := by rw [start_now_all k3.nodup h.safe keeps (f := fPage) rfl, g8]
  obtain ⟨e1, e2, e3, e4⟩ := openB_at g1 g2 g5 q6 q7
  have hnd : NodupK (setE (setE [] lp) ln) := setE_nodup _ (setE_nodup _ (show NodupK [] from List.nodup_nil))
  have hl1 : (setE (setE [] lp) ln).length = m.length := by
    have := (keysPerm hnd h.ok.nodup fun f => by rw [g9]).length_eq
    simpa using this
  refine ⟨_, _, ?_, ⟨rfl, h.bytes, (k3.start keeps).mono (by omega) (Nat.le_refl _), startSafe k3.nodup keeps, ⟨hnd, fun f x hx => h.ok.each f x (by rw [g9]; exact hx)⟩, by have := h.len; omega, lp, ln, r, g1, g2, by omega, by omega, g5, rfl, q6, q7, fun f => rfl⟩, fun f => (g9 f).symm⟩
  rw [← e2, ← e4]
  rfl
end Go.Proofs.YtodmnogoacghpaaGreatDoor
namespace Go.Proofs.YtodmnogoacghpaaGreatDoor
set_option maxRecDepth 10000

/-- k rounds are done; m: the lines that were; s8: the book now, s2: the one with what would be written. -/
structure RoundOk (k : Nat) (m : FS) (code : Int) (s8 s2 : BkS) : Prop where
  kind : code = 0 ∨ code = 1 ∨ code = 14
  dn : s8.dn = decide (code = 14)
  good : GoodD 999 30000 s8.d
  text : code = 14 → s8.t.size ≤ 29000
  ok8 : LinesOk s8.m
  len8 : s8.m.length ≤ 100
  ok2 : LinesOk s2.m
  len2 : s2.m.length ≤ 100
  c0 : code = 0 → linesM s8.m = linesM s2.m
  c1 : code = 1 → linesM s8.m = linesM m
  ex : ∀ keeps : Int, ∃ m' t', openB (startD s8.d keeps) = ⟨startD s8.d keeps, m', t', false⟩ ∧ KInv (k + 1) (startD s8.d keeps) m' t' ∧ (code ≠ 14 → linesM m' = linesM s8.m) ∧ (code = 14 → linesM m' = linesM m ∨ linesM m' = linesM s2.m)

theorem round_bad {k : Nat} {d : DiskD} {m : FS} {t : ByteArray} (h : KInv k d m t) (hk : k ≤ 60) {L : Int} (hL : L ≤ 9223372036854775807) {s2 : BkS} (h2 : LinesOk s2.m) (hl2 : s2.m.length ≤ 100) :
    RoundOk k m 1 ⟨cutD d L, m, t, false⟩ s2 := by
  have hlen := h.len
  refine ⟨Or.inr (Or.inl rfl), rfl, (cutD_good h.good hL).mono (by omega) (Nat.le_refl _), fun e => absurd e (by decide), h.ok, by show m.length ≤ 100; omega, h2, hl2, fun e => absurd e (by decide), fun _ => rfl, fun keeps => ?_⟩
  obtain ⟨m', t', e1, e2, e3⟩ := stay_crash h hL keeps
  exact ⟨m', t', e1, e2, fun _ => linesM_eq e2.ok.nodup h.ok.nodup e3, fun e => absurd e (by decide)⟩
theorem round_set {k : Nat} {d : DiskD} {m : FS} {t : ByteArray} (h : KInv k d m t) (hk : k ≤ 60) {L : Int} (hL : L ≤ 9223372036854775807) {n v : ByteArray} (hr : rightB n v = true) {s2 : BkS} (h2 : LinesOk s2.m) (hl2 : s2.m.length ≤ 100) (he : ∀ f, fget s2.m f = fget (lineSet m n v) f) :
    RoundOk k m (setB ⟨cutD d L, m, t, false⟩ n v).1 (setB ⟨cutD d L, m, t, false⟩ n v).2 s2 := by
  have hlen := h.len
  have hts := h.tsize hk
  have hm1 : LinesOk (lineSet m n v) := h.ok.set hr
  have hl1 := lineSet_len m n v
  have hsz : (t ++ lineT n v).size ≤ 30000 := by
    have := lineT_size hr
    rw [ByteArray.size_append]
    omega
  have hgk : GoodD (3 * k + 1) 30000 (keepsD (cutD d L) fNotes (t ++ lineT n v)).2 := (cutD_good h.good hL).keeps hsz
  have hgk9 := hgk.mono (show 3 * k + 1 ≤ 999 by omega) (Nat.le_refl _)
  have S := fun keeps => set_crash h hk hL keeps hr
  unfold setB
  dsimp only
  rw [if_neg (by decide), if_neg (by rw [hr]; decide)]
  rcases (S 0).1 with c | c
  · rw [if_pos c]
    refine ⟨Or.inl rfl, rfl, hgk9, fun e => absurd (show (0 : Int) = 14 from e) (by decide), hm1, by show (lineSet m n v).length ≤ 100; omega, h2, hl2, fun _ => (linesM_eq h2.nodup hm1.nodup he).symm, fun e => absurd (show (0 : Int) = 1 from e) (by decide), fun keeps => ?_⟩
    obtain ⟨m', t', e1, e2, e3⟩ := (S keeps).2
    refine ⟨m', t', e1, e2, fun _ => ?_, fun e => absurd (show (0 : Int) = 14 from e) (by decide)⟩
    rcases e3 with e3 | ⟨e3, -⟩
    · exact linesM_eq e2.ok.nodup hm1.nodup e3
    · rw [c] at e3; exact absurd e3 (by decide)
  · rw [if_neg (by rw [c]; decide), c]
    refine ⟨Or.inr (Or.inr rfl), rfl, hgk9, fun _ => hts, h.ok, by show m.length ≤ 100; omega, h2, hl2, fun e => absurd e (by decide), fun e => absurd e (by decide), fun keeps => ?_⟩
    obtain ⟨m', t', e1, e2, e3⟩ := (S keeps).2
    refine ⟨m', t', e1, e2, fun e => absurd rfl e, fun _ => ?_⟩
    rcases e3 with e3 | ⟨-, e3⟩
    · exact Or.inr (linesM_eq e2.ok.nodup h2.nodup fun f => (e3 f).trans (he f).symm)
    · exact Or.inl (linesM_eq e2.ok.nodup h.ok.nodup e3)
theorem round_tidy {k : Nat} {d : DiskD} {m : FS} {t : ByteArray} (h : KInv k d m t) (hk : k ≤ 60) {L : Int} (hL : L ≤ 9223372036854775807) {s2 : BkS} (h2 : LinesOk s2.m) (hl2 : s2.m.length ≤ 100) (he : ∀ f, fget s2.m f = fget m f) :
    RoundOk k m (tidyB ⟨cutD d L, m, t, false⟩).1 (tidyB ⟨cutD d L, m, t, false⟩).2 s2 := by
  have hlen := h.len
  have hts := h.tsize hk
  have hT := h.text hk
  have hgc := cutD_good h.good hL
  have hgk : GoodD 999 30000 (tidyD (cutD d L) (textM m)).2 := by
    unfold tidyD
    have g1 : GoodD (3 * k + 1) 30000 (keepsD (cutD d L) fFresh (textM m)).2 := hgc.keeps hT
    have g2 := g1.move fFresh fPage
    have g3 : GoodD (3 * k + 1 + 1) 30000 (keepsD (moveD (keepsD (cutD d L) fFresh (textM m)).2 fFresh fPage).2 fNotes ⟨#[]⟩).2 := g2.keeps (Nat.zero_le _)
    split
    · split
      · exact g3.mono (by omega) (Nat.le_refl _)
      · exact g2.mono (by omega) (Nat.le_refl _)
    · exact g1.mono (by omega) (Nat.le_refl _)
  have S := fun keeps => tidy_crash h hk hL keeps
  have e2m : linesM m = linesM s2.m := linesM_eq h.ok.nodup h2.nodup fun f => (he f).symm
  unfold tidyB
  dsimp only
  rw [if_neg (by decide)]
  rcases (S 0).1 with c | c
  · rw [if_pos c]
    refine ⟨Or.inl rfl, rfl, hgk, fun e => absurd (show (0 : Int) = 14 from e) (by decide), h.ok, by show m.length ≤ 100; omega, h2, hl2, fun _ => e2m, fun e => absurd (show (0 : Int) = 1 from e) (by decide), fun keeps => ?_⟩
    obtain ⟨m', t', e1, e2, e3⟩ := (S keeps).2
    exact ⟨m', t', e1, e2, fun _ => linesM_eq e2.ok.nodup h.ok.nodup e3, fun e => absurd (show (0 : Int) = 14 from e) (by decide)⟩
  · rw [if_neg (by rw [c]; decide), c]
    refine ⟨Or.inr (Or.inr rfl), rfl, hgk, fun _ => hts, h.ok, by show m.length ≤ 100; omega, h2, hl2, fun e => absurd e (by decide), fun e => absurd e (by decide), fun keeps => ?_⟩
    obtain ⟨m', t', e1, e2, e3⟩ := (S keeps).2
    exact ⟨m', t', e1, e2, fun e => absurd rfl e, fun _ => Or.inl (linesM_eq e2.ok.nodup h.ok.nodup e3)⟩

/-! ### the book with what would be written: all the lines of b are set, in order -/
/-- After j names. -/
def Copied (m : FS) (j : Nat) (s2 : BkS) : Prop := (∃ r, BInv j s2 r) ∧ s2.m = setE [] ((pairsM m).take j)
theorem Copied.zero (m : FS) : Copied m 0 (openB zeroD) := ⟨⟨zeroD, BInv.start _ _ rfl rfl⟩, by kernel_rfl⟩
theorem Copied.step {k : Nat} {d : DiskD} {m : FS} {t : ByteArray} (h : KInv k d m t) (hk : k ≤ 60) {j : Nat} (hj : j < m.length) {s2 : BkS} (hc : Copied m j s2) {n : ByteArray} (hn : (sortB (m.map (·.1))).getD j ⟨#[]⟩ = n) :
    (setB s2 n (nowOf m n)).1 = 0 ∧ Copied m (j + 1) (setB s2 n (nowOf m n)).2 ∧ n.size ≤ 24 ∧ (nowOf m n).size ≤ 300 := by
  have hlen := h.len
  obtain ⟨⟨r, hI⟩, he⟩ := hc
  have hpl := pairs_len m
  have hjl : j < (pairsM m).length := by omega
  have hnm : (pairsM m)[j] = (n, nowOf m n) := by
    have hs : j < (sortB (m.map (·.1))).length := by rw [sortB_len, List.length_map]; exact hj
    have e : (sortB (m.map (·.1)))[j] = n := by rw [← hn]; simp [List.getD_eq_getElem?_getD, hs]
    exact (List.getElem_map (fun n => (n, nowOf m n))).trans (by rw [e])
  have hr : rightB n (nowOf m n) = true := by
    have := h.right (pairsM m)[j] (List.getElem_mem hjl)
    rw [hnm] at this
    exact this
  obtain ⟨q1, q2⟩ := hI.set (by omega) hr
  refine ⟨q1, ⟨⟨_, q2⟩, ?_⟩, ?_⟩
  · rw [hI.setm (by omega) hr, he, pairs_take m hjl, setE_append, hnm]
    rfl
  · unfold rightB at hr
    simp only [Bool.and_eq_true, decide_eq_true_eq] at hr
    omega
theorem Copied.all {m : FS} {s2 : BkS} (hok : LinesOk m) (hc : Copied m m.length s2) (f : ByteArray) : fget s2.m f = fget m f := by
  obtain ⟨-, he⟩ := hc
  rw [he, List.take_of_length_le (by rw [pairs_len]; exact Nat.le_refl _), pairs_get hok]
theorem setBad {s : BkS} {n v : ByteArray} (hd : s.dn = false) (h : rightB n v = false) : setB s n v = (1, s) := by
  unfold setB
  rw [if_neg (by rw [hd]; decide), if_pos h]
/-- A round: the book's disk may be cut (L), then Set or Tidy; the other book has what would be written. -/
theorem round_all {k : Nat} {d : DiskD} {m : FS} {t : ByteArray} (h : KInv k d m t) (hk : k ≤ 50) {L : Int} (hL : L ≤ 9223372036854775807) (what : Int) (name v : ByteArray) {s2 : BkS} (hc : Copied m m.length s2) :
    RoundOk k m (if what = 0 then setB ⟨cutD d L, m, t, false⟩ name v else tidyB ⟨cutD d L, m, t, false⟩).1 (if what = 0 then setB ⟨cutD d L, m, t, false⟩ name v else tidyB ⟨cutD d L, m, t, false⟩).2 (if what = 0 then (setB s2 name v).2 else s2) := by
  have hlen := h.len
  have ha := fun f => hc.all h.ok f
  obtain ⟨⟨r, hI⟩, -⟩ := hc
  have hl2 := hI.len
  by_cases hw : what = 0
  · rw [if_pos hw, if_pos hw]
    cases hr : rightB name v with
    | false =>
      rw [setBad rfl hr, setBad hI.dn hr]
      exact round_bad h (by omega) hL hI.ok (show s2.m.length ≤ 100 by omega)
    | true =>
      obtain ⟨q1, q2⟩ := hI.set (by omega) hr
      have hl3 := q2.len
      refine round_set h (by omega) hL hr q2.ok (by omega) fun f => ?_
      rw [hI.setm (by omega) hr, lineSet_get, lineSet_get, ha]
  · rw [if_neg hw, if_neg hw]
    exact round_tidy h (by omega) hL hI.ok (show s2.m.length ≤ 100 by omega) ha
theorem KInv.more {k : Nat} {d : DiskD} {m : FS} {t : ByteArray} (h : KInv k d m t) : KInv (k + 1) d m t := by
  obtain ⟨lp, ln, r, g1, g2, g3, g4, g5⟩ := h.ex
  exact ⟨h.left, h.bytes, h.good.mono (by omega) (Nat.le_refl _), h.safe, h.ok, by have := h.len; omega, lp, ln, r, g1, g2, by omega, by omega, g5⟩
theorem KInv.nameLen {k : Nat} {d : DiskD} {m : FS} {t : ByteArray} (h : KInv k d m t) {n : ByteArray} (hn : n ∈ sortB (m.map (·.1))) : n.size ≤ maxLen := by
  have hn' : n ∈ m.map (·.1) := sortB_mem.1 hn
  cases hx : fget m n with
  | none => exact absurd hn' (fget_none.1 hx)
  | some x =>
    have := rightB_size (h.ok.each n x hx).1
    unfold maxLen
    omega
theorem toL_inj {a b : ByteArray} (h : a.toList = b.toList) : a = b := of_decide_eq_true ((toListEq a b).trans (decide_eq_true h))
end Go.Proofs.YtodmnogoacghpaaGreatDoor
