/- A book and the power: Tidy that may be cut. · Keep's pick. · Two books in one world. · The book with what would be written (e), in plain words: BInv with a ghost of the document's disk. · Two books: what only reads. -/
import Derived.Test.YtodmnogoacghpaaGreatDoorM36
namespace Go.Proofs.YtodmnogoacghpaaGreatDoor
set_option maxRecDepth 10000

theorem KInv.right {k : Nat} {d : DiskD} {m : FS} {t : ByteArray} (h : KInv k d m t) : RightE (pairsM m) := by
  intro e he
  obtain ⟨n, hn, rfl⟩ := List.mem_map.1 he
  have hn' : n ∈ m.map (·.1) := sortB_mem.1 hn
  cases hx : fget m n with
  | none => exact absurd hn' (fget_none.1 hx)
  | some x =>
    have := (h.ok.each n x hx).1
    dsimp only
    unfold nowOf nowG
    rw [hx]
    exact this
theorem KInv.text {k : Nat} {d : DiskD} {m : FS} {t : ByteArray} (h : KInv k d m t) (hk : k ≤ 60) : (textM m).size ≤ 30000 := by
  rw [textM_enc]
  have h1 := encE_len _ h.right
  rw [pairs_len] at h1
  have h2 := h.len
  have : (ofL (encE (pairsM m))).size = (encE (pairsM m)).length := rfl
  omega
theorem tidy_crash {k : Nat} {d : DiskD} {m : FS} {t : ByteArray} (h : KInv k d m t) (hk : k ≤ 60) {L : Int} (hL : L ≤ 9223372036854775807) (keeps : Int) :
    ((tidyD (cutD d L) (textM m)).1 = 0 ∨ (tidyD (cutD d L) (textM m)).1 = 14) ∧
    ∃ m' t', openB (startD (tidyD (cutD d L) (textM m)).2 keeps) = ⟨startD (tidyD (cutD d L) (textM m)).2 keeps, m', t', false⟩ ∧ KInv (k + 1) (startD (tidyD (cutD d L) (textM m)).2 keeps) m' t' ∧ ∀ f, fget m' f = fget m f := by
  obtain ⟨lp, ln, r, g1, g2, g3, g4, g5, g6, g7, g8, g9⟩ := h.ex
  have hlen := h.good.len
  have hT := h.text hk
  obtain ⟨T, hTe⟩ : ∃ T, textM m = T := ⟨_, rfl⟩
  have hTE : T = ofL (encE (pairsM m)) := by rw [← hTe, textM_enc]
  rw [hTe] at hT ⊢
  have hgc := cutD_good h.good hL
  -- what the disk may be: the page old or new, the notes old, not safe, or empty
  have key : ((tidyD (cutD d L) T).1 = 0 ∨ (tidyD (cutD d L) T).1 = 14) ∧ (tidyD (cutD d L) T).2.bytes = -1 ∧ GoodD (3 * k + 2) 30000 (tidyD (cutD d L) T).2 ∧
      ((fget (tidyD (cutD d L) T).2.fs fPage = fget d.fs fPage ∧ fget (tidyD (cutD d L) T).2.fs fNotes = fget d.fs fNotes) ∨
       (fget (tidyD (cutD d L) T).2.fs fPage = some ⟨T, some T⟩ ∧ (fget (tidyD (cutD d L) T).2.fs fNotes = fget d.fs fNotes ∨ fget (tidyD (cutD d L) T).2.fs fNotes = some ⟨⟨#[]⟩, some ⟨#[]⟩⟩ ∨ fget (tidyD (cutD d L) T).2.fs fNotes = some ⟨⟨#[]⟩, (fget d.fs fNotes).bind (·.safe)⟩))) := by
    obtain ⟨c1, c2, c3, c4, c5⟩ := keeps_cut (d := cutD d L) h.bytes (show d.fs.length < 5000 by omega) (f := fFresh) rfl T
    have ga : GoodD (3 * k + 1) 30000 (keepsD (cutD d L) fFresh T).2 := hgc.keeps hT
    obtain ⟨d1, hd1⟩ : ∃ d1, keepsD (cutD d L) fFresh T = d1 := ⟨_, rfl⟩
    rw [hd1] at c1 c2 c3 c4 c5 ga
    have p1 : fget d1.2.fs fPage = fget d.fs fPage := c3 fPage (by decide)
    have n1 : fget d1.2.fs fNotes = fget d.fs fNotes := c3 fNotes (by decide)
    unfold tidyD
    rw [hd1]
    rcases c1 with c1 | c1
    · rw [if_pos c1]
      obtain ⟨b1, b2, b3, b4⟩ := move_cut (d := d1.2) (f := fFresh) (t := fPage) rfl (c4 c1)
      have gb := ga.move fFresh fPage
      obtain ⟨d2, hd2⟩ : ∃ d2, moveD d1.2 fFresh fPage = d2 := ⟨_, rfl⟩
      rw [hd2] at b1 b2 b3 b4 gb ⊢
      rcases b1 with b1 | b1
      · rw [if_pos b1]
        have p2 : fget d2.2.fs fPage = some ⟨T, some T⟩ := by rw [b3 b1, if_pos rfl]
        have n2 : fget d2.2.fs fNotes = fget d.fs fNotes := by rw [b3 b1, if_neg (by decide), if_neg (by decide), n1]
        obtain ⟨a1, a2, a3, a4, a5⟩ := keeps_cut (d := d2.2) (b2.trans c2) (by have := gb.len; omega) (f := fNotes) rfl ⟨#[]⟩
        have gd : GoodD (3 * k + 1 + 1) 30000 (keepsD d2.2 fNotes ⟨#[]⟩).2 := gb.keeps (Nat.zero_le _)
        refine ⟨a1, a2, gd, Or.inr ⟨(a3 fPage (by decide)).trans p2, ?_⟩⟩
        rcases a1 with a1 | a1
        · exact Or.inr (Or.inl (a4 a1))
        · rcases a5 a1 with q | q
          · exact Or.inl (q.trans n2)
          · exact Or.inr (Or.inr (by rw [q, n2]))
      · rw [if_neg (by rw [b1]; decide)]
        refine ⟨Or.inr b1, b2.trans c2, gb.mono (by omega) (Nat.le_refl _), Or.inl ?_⟩
        rw [b4 b1]
        exact ⟨p1, n1⟩
    · rw [if_neg (by rw [c1]; decide)]
      exact ⟨Or.inr c1, c2, ga.mono (by omega) (Nat.le_refl _), Or.inl ⟨p1, n1⟩⟩
  obtain ⟨k1, k2, k3, k4⟩ := key
  refine ⟨k1, ?_⟩
  obtain ⟨d3, hd3⟩ : ∃ d3, (tidyD (cutD d L) T).2 = d3 := ⟨_, rfl⟩
  rw [hd3] at k2 k3 k4 ⊢
  have mk : ∀ lp' ln' r', RightE lp' → RightE ln' → lp'.length ≤ k + 1 → ln'.length ≤ k + 1 → (10 : UInt8) ∉ r' → (nowOf (startD d3 keeps).fs fNotes).data.toList = encE ln' ++ r' → nowOf (startD d3 keeps).fs fPage = ofL (encE lp') → (∀ f, fget (setE (setE [] lp') ln') f = fget m f) → ∃ m' t', openB (startD d3 keeps) = ⟨startD d3 keeps, m', t', false⟩ ∧ KInv (k + 1) (startD d3 keeps) m' t' ∧ ∀ f, fget m' f = fget m f := fun lp' ln' r' q1 q2 q3 q4 q5 q6 q7 q8 => by
    obtain ⟨e1, e2, e3, e4⟩ := openB_at q1 q2 q5 q6 q7
    have hnd : NodupK (setE (setE [] lp') ln') := setE_nodup _ (setE_nodup _ (show NodupK [] from List.nodup_nil))
    have hl1 : (setE (setE [] lp') ln').length = m.length := by
      have := (keysPerm hnd h.ok.nodup fun f => by rw [q8]).length_eq
      simpa using this
    refine ⟨_, _, ?_, ⟨rfl, k2, (k3.start keeps).mono (by omega) (Nat.le_refl _), startSafe k3.nodup keeps, ⟨hnd, fun f x hx => h.ok.each f x (by rw [← q8]; exact hx)⟩, by have := h.len; omega, lp', ln', r', q1, q2, q3, q4, q5, rfl, q6, q7, fun f => rfl⟩, q8⟩
    rw [← e2, ← e4]
    rfl
  rcases k4 with ⟨p, n⟩ | ⟨p, n⟩
  · refine mk lp ln r g1 g2 (by omega) (by omega) g5 ?_ ?_ fun f => (g9 f).symm
    · rw [start_now_all k3.nodup h.safe keeps n, g7]
    · rw [start_now_all k3.nodup h.safe keeps p, g8]
  · have hp : nowOf (startD d3 keeps).fs fPage = ofL (encE (pairsM m)) := by rw [start_now_safe k3.nodup keeps p, hTE]
    have hpl : (pairsM m).length ≤ k + 1 := by rw [pairs_len]; have := h.len; omega
    have old : (nowOf (startD d3 keeps).fs fNotes).data.toList = encE ln ++ r → ∃ m' t', openB (startD d3 keeps) = ⟨startD d3 keeps, m', t', false⟩ ∧ KInv (k + 1) (startD d3 keeps) m' t' ∧ ∀ f, fget m' f = fget m f := fun hn => by
      refine mk (pairsM m) ln r h.right g2 hpl (by omega) g5 hn hp fun f => ?_
      rw [setE_congr (pairs_get h.ok) ln f]
      exact setE_idem g9 f
    rcases n with n | n | n
    · exact old (by rw [start_now_all k3.nodup h.safe keeps n, g7])
    · refine mk (pairsM m) [] [] h.right (fun _ h => by cases h) hpl (Nat.zero_le _) (by simp) ?_ hp fun f => pairs_get h.ok f
      rw [start_now_safe k3.nodup keeps n]
      rfl
    · refine old ?_
      have hn : (nowOf (startD d3 keeps).fs fNotes) = ((startF keeps ⟨⟨#[]⟩, (fget d.fs fNotes).bind (·.safe)⟩).getD ⟨#[]⟩) := by
        rw [start_now k3.nodup, n]
      obtain ⟨j, hj0, hj⟩ := start_mix ⟨#[]⟩ ((fget d.fs fNotes).bind (·.safe)) keeps
      have hj1 : j = 0 := Nat.le_zero.1 hj0
      subst hj1
      rw [hn, hj, old_of h.safe, g7]
      simp
end Go.Proofs.YtodmnogoacghpaaGreatDoor
namespace Go.Proofs.YtodmnogoacghpaaGreatDoor
open Go.RowKit
set_option maxRecDepth 100000
set_option maxHeartbeats 4000000

def InJ2 (n : Int) : Prop := -9223372036854775808 ≤ n ∧ n ≤ 9223372036854775807
def pickI (a : Int) (n : Nat) : Nat := ((a % 18446744073709551616) % n).toNat
theorem pickI_lt (a : Int) {n : Nat} (hn : 0 < n) : pickI a n < n := by
  unfold pickI
  have h1 := Int.emod_nonneg (a % 18446744073709551616) (show (n : Int) ≠ 0 by omega)
  have h2 := Int.emod_lt_of_pos (a % 18446744073709551616) (show (0 : Int) < n by omega)
  omega
theorem pick_calls (a : Int) (n : Nat) (w : World) (ha : InJ2 a) (hn : 1 ≤ n ∧ n ≤ 1000) :
    Calls Tryz.prog 21 #[.int .i64 a, .int .i64 ((n : Nat) : Int)] w fun e w' => e = .returned (.int .i64 ((pickI a n : Nat) : Int)) ∧ w = w' := by
  obtain ⟨h1, h2⟩ := ha
  obtain ⟨p, hp⟩ : ∃ p, pickI a n = p := ⟨_, rfl⟩
  rw [hp]
  unfold pickI at hp
  have e1 : IntKind.u64.wrap a = a % 18446744073709551616 := IntKind.wrap_u64 a
  have e2 : IntKind.u64.wrap ((n : Nat) : Int) = ((n : Nat) : Int) := by rw [IntKind.wrap_u64]; omega
  obtain ⟨u, hu⟩ : ∃ u, a % 18446744073709551616 = u := ⟨_, rfl⟩
  rw [hu] at e1 hp
  have hu1 : 0 ≤ u := by omega
  have hn0 : ((n : Nat) : Int) ≠ 0 := by omega
  have hq1 := Int.emod_nonneg u hn0
  have hq2 := Int.emod_lt_of_pos u (show (0 : Int) < n by omega)
  have hqp : u % ((n : Nat) : Int) = ((p : Nat) : Int) := by omega
  have ht : u.tmod ((n : Nat) : Int) = ((p : Nat) : Int) := by rw [Int.tmod_eq_emod_of_nonneg hu1]; exact hqp
  have hz : ((n : Nat) : Int) ≠ 0 := hn0
  have hzb : (((n : Nat) : Int) == 0) = false := beq_eq_false_iff_ne.2 hn0
  have e3 : IntKind.u64.wrap ((p : Nat) : Int) = ((p : Nat) : Int) := by rw [IntKind.wrap_u64]; omega
  have e4 : IntKind.i64.wrap ((p : Nat) : Int) = ((p : Nat) : Int) := by rw [IntKind.wrap_i64]; omega
  clear hq1 hq2 hu hp
  go_enter Tryz.func21, Tryz.ntmps21
  go_wp2_with fail
  go_ret
  exact ⟨rfl, rfl⟩

end Go.Proofs.YtodmnogoacghpaaGreatDoor
namespace Go.Proofs.YtodmnogoacghpaaGreatDoor
open Go.RowKit
set_option maxRecDepth 100000

/-- B: a bound below all of their blocks; X: blocks of others. -/
def TwoB (w : World) (B : Nat) (X : List Nat) (a bb : Nat) (s : BkS) (a2 b2 : Nat) (s2 : BkS) : Prop :=
  ∃ F F2, BkW w F a bb s ∧ BkW w F2 a2 b2 s2 ∧ (∀ k ∈ F, k ∉ F2) ∧ (∀ k ∈ F, B ≤ k) ∧ (∀ k ∈ F2, B ≤ k) ∧ (∀ k ∈ X, k < w.heap.size ∧ k ∉ F ∧ k ∉ F2) ∧ MaxV w ∧ 1 < B
section
variable {w w' : World} {B : Nat} {X : List Nat} {a bb a2 b2 : Nat} {s s2 s' : BkS}
theorem TwoB.swap (h : TwoB w B X a bb s a2 b2 s2) : TwoB w B X a2 b2 s2 a bb s := by
  obtain ⟨F, F2, h1, h2, h3, h4, h5, h6, h7⟩ := h
  exact ⟨F2, F, h2, h1, fun k hk hf => h3 k hf hk, h5, h4, fun k hk => ⟨(h6 k hk).1, (h6 k hk).2.2, (h6 k hk).2.1⟩, h7⟩
theorem TwoB.step {F F2 : List Nat} (hB : B ≤ w.heap.size) (hP2 : BkW w F2 a2 b2 s2) (h3 : ∀ k ∈ F, k ∉ F2) (h4 : ∀ k ∈ F, B ≤ k) (h5 : ∀ k ∈ F2, B ≤ k) (h6 : ∀ k ∈ X, k < w.heap.size ∧ k ∉ F ∧ k ∉ F2) (h7 : MaxV w) (h8 : 1 < B) (hs : BkN w F a bb s' w') : TwoB w' B X a bb s' a2 b2 s2 ∧ KeptX B X w w' := by
  obtain ⟨F', hP', hF', hT⟩ := hs
  have hP2' : BkF w F2 a2 b2 s2.d s2.m s2.t s2.dn := hP2
  have hx : ∀ k ∈ X, w'.heap[k]? = w.heap[k]? := fun k hk => hT.block k (h6 k hk).1 (h6 k hk).2.1
  refine ⟨⟨F', F2, hP', hP2'.other hT (fun k hk hf => h3 k hf hk), fun k hk hf => ?_, fun k hk => ?_, h5, fun k hk => ⟨Nat.lt_of_lt_of_le (h6 k hk).1 hT.size, fun hk' => ?_, (h6 k hk).2.2⟩, h7.turn hT (fun k hk => Nat.lt_of_lt_of_le h8 (h4 k hk)), h8⟩, hT.below h4 hB, hx⟩
  · rcases hF' k hk with h | h
    · exact h3 k h hf
    · have := hP2'.lt k hf; omega
  · rcases hF' k hk with h | h
    · exact h4 k h
    · omega
  · rcases hF' k hk' with h | h
    · exact (h6 k hk).2.1 h
    · have := (h6 k hk).1; omega
theorem TwoB.other (h : TwoB w B X a bb s a2 b2 s2) (hb : Below w.heap.size w w') : TwoB w' B X a bb s a2 b2 s2 := by
  obtain ⟨F, F2, h1, h2, h3, h4, h5, h6, h7, h8⟩ := h
  have h1' : BkF w F a bb s.d s.m s.t s.dn := h1
  have h2' : BkF w F2 a2 b2 s2.d s2.m s2.t s2.dn := h2
  exact ⟨F, F2, h1'.below hb, h2'.below hb, h3, h4, h5, fun k hk => ⟨Nat.lt_of_lt_of_le (h6 k hk).1 hb.size, (h6 k hk).2⟩, h7.below hb, h8⟩
end
end Go.Proofs.YtodmnogoacghpaaGreatDoor
namespace Go.Proofs.YtodmnogoacghpaaGreatDoor
open Go.RowKit
set_option maxRecDepth 10000

theorem BInv.setm {k : Nat} {s : BkS} {r : DiskD} (h : BInv k s r) (hk : k ≤ 60) {n v : ByteArray} (hr : rightB n v = true) : (setB s n v).2.m = lineSet s.m n v := by
  have hlen := h.good.len
  obtain ⟨k1, -, -⟩ := keeps_free h.free (f := fNotes) (by omega) rfl (s.t ++ lineT n v)
  unfold setB
  rw [if_neg (by rw [h.dn]; decide), if_neg (by rw [hr]; decide), if_pos k1]
/-- All of a book's lines, set in order on a new one. -/
theorem pairs_take (m : FS) {j : Nat} (h : j < (pairsM m).length) : (pairsM m).take (j + 1) = (pairsM m).take j ++ [(pairsM m)[j]] := List.take_succ_eq_append_getElem h
theorem KInv.zero : KInv 0 zeroD [] ⟨#[]⟩ := ⟨rfl, rfl, GoodD.zero _ _, (fun f x hx => by cases hx), ⟨List.nodup_nil, fun f x hx => by cases hx⟩, Nat.zero_le _, [], [], [], (fun _ h => by cases h), (fun _ h => by cases h), Nat.le_refl _, Nat.le_refl _, by simp, rfl, rfl, rfl, fun f => rfl⟩
/-- A step of the first book, the second one as it was. -/
theorem TwoB.lift {w : World} {B : Nat} {X : List Nat} {a bb a2 b2 : Nat} {s s2 s' : BkS} {fn : FuncId} {args : Array Value} {v : Ending} (hB : B ≤ w.heap.size) (h : TwoB w B X a bb s a2 b2 s2)
    (hc : ∀ F, BkW w F a bb s → OffG F → MaxV w → Calls Tryz.prog fn args w fun e w' => e = v ∧ BkN w F a bb s' w') :
    Calls Tryz.prog fn args w fun e w' => e = v ∧ TwoB w' B X a bb s' a2 b2 s2 ∧ KeptX B X w w' := by
  obtain ⟨F, F2, h1, h2, h3, h4, h5, h6, h7, h8⟩ := h
  refine (hc F h1 (fun k hk => Nat.lt_of_lt_of_le h8 (h4 k hk)) h7).mono ?_
  rintro e w' ⟨rfl, hs⟩
  exact ⟨rfl, TwoB.step hB h2 h3 h4 h5 h6 h7 h8 hs⟩
theorem tb_set {w : World} {B : Nat} {X : List Nat} {a bb a2 b2 : Nat} {s s2 : BkS} (hB : B ≤ w.heap.size) (h : TwoB w B X a bb s a2 b2 s2) (hg : GoodD 999 30000 s.d) {n v : ByteArray} (hn : n.size ≤ 400) (hv : v.size ≤ 400) (ht : s.t.size ≤ 29000) (hl : s.m.length ≤ 1000) :
    Calls Tryz.prog 9 #[.pointer (some ⟨bb, 0, none⟩), .string n, .string v] w fun e w' => e = .returned (errV (setB s n v).1) ∧ TwoB w' B X a bb (setB s n v).2 a2 b2 s2 ∧ KeptX B X w w' :=
  h.lift hB fun F hP hF hM => set_calls w F a bb s n v hP hF hM hg (by omega) (by omega) ht hl
theorem tb_tidy {w : World} {B : Nat} {X : List Nat} {a bb a2 b2 : Nat} {s s2 : BkS} (hB : B ≤ w.heap.size) (h : TwoB w B X a bb s a2 b2 s2) (hg : GoodD 998 30000 s.d) (ht : (textM s.m).size ≤ 30000) (hl : s.m.length ≤ 1000) (hns : ∀ n ∈ sortB (s.m.map (·.1)), n.size ≤ maxLen) :
    Calls Tryz.prog 12 #[.pointer (some ⟨bb, 0, none⟩)] w fun e w' => e = .returned (errV (tidyB s).1) ∧ TwoB w' B X a bb (tidyB s).2 a2 b2 s2 ∧ KeptX B X w w' :=
  h.lift hB fun F hP hF hM => tidy_calls w F a bb s hP hF hM hg ht hl hns
theorem tb_start {w : World} {B : Nat} {X : List Nat} {a bb a2 b2 : Nat} {s s2 : BkS} (hB : B ≤ w.heap.size) (h : TwoB w B X a bb s a2 b2 s2) (hg : GoodD 1000 30000 s.d) (n : Int) :
    Calls Tryz.prog 23 #[.pointer (some ⟨a, 0, none⟩), .int .i64 n] w fun e w' => e = .returned (.tuple #[]) ∧ TwoB w' B X a bb ⟨startD s.d n, s.m, s.t, s.dn⟩ a2 b2 s2 ∧ KeptX B X w w' :=
  h.lift hB fun _ hP _ _ => bk_start hP hg n
theorem tb_cut {w : World} {B : Nat} {X : List Nat} {a bb a2 b2 : Nat} {s s2 : BkS} (hB : B ≤ w.heap.size) (h : TwoB w B X a bb s a2 b2 s2) (n : Int) (hn : -9223372036854775808 ≤ n ∧ n ≤ 9223372036854775807) :
    Calls Tryz.prog 20 #[.pointer (some ⟨a, 0, none⟩), .int .i64 n] w fun e w' => e = .returned (.tuple #[]) ∧ TwoB w' B X a bb ⟨cutD s.d n, s.m, s.t, s.dn⟩ a2 b2 s2 ∧ KeptX B X w w' :=
  h.lift hB fun _ hP _ _ => bk_cut hP n hn
end Go.Proofs.YtodmnogoacghpaaGreatDoor
namespace Go.Proofs.YtodmnogoacghpaaGreatDoor
open Go.RowKit
set_option maxRecDepth 100000

section
variable {w : World} {B : Nat} {X : List Nat} {a bb a2 b2 : Nat} {s s2 : BkS}
theorem tb_lines (h : TwoB w B X a bb s a2 b2 s2) (hok : LinesOk s.m) (hl : s.m.length ≤ 100) : Calls Tryz.prog 19 #[.pointer (some ⟨bb, 0, none⟩)] w fun e w' => e = .returned (.string (linesM s.m)) ∧ Below w.heap.size w w' := by
  obtain ⟨F, F2, h1, h2, h3, h4, h5, h6, h7, h8⟩ := h
  exact lines_calls w F a bb s h1 hok hl
theorem tb_get (h : TwoB w B X a bb s a2 b2 s2) {n : ByteArray} (hn : n.size ≤ 400) : Calls Tryz.prog 14 #[.pointer (some ⟨bb, 0, none⟩), .string n] w fun e w' => e = .returned (.string (nowOf s.m n)) ∧ w = w' := by
  obtain ⟨F, F2, h1, h2, h3, h4, h5, h6, h7, h8⟩ := h
  exact get_calls w F a bb s.d s.m s.t s.dn n h1 (by unfold maxLen; omega)
theorem tb_names (h : TwoB w B X a bb s a2 b2 s2) (hl : s.m.length ≤ 1000) : Calls Tryz.prog 16 #[.pointer (some ⟨bb, 0, none⟩)] w fun e w' => ∃ v, e = .returned v ∧ Strs w' v (sortB (s.m.map (·.1))) ∧ (FreshV w.heap.size v ∧ RowS w' v) ∧ Below w.heap.size w w' := by
  obtain ⟨F, F2, h1, h2, h3, h4, h5, h6, h7, h8⟩ := h
  exact bnames_calls w F a bb s.d s.m s.t s.dn h1 (by omega)
theorem tb_down (h : TwoB w B X a bb s a2 b2 s2) : Calls Tryz.prog 13 #[.pointer (some ⟨bb, 0, none⟩)] w fun e w' => e = .returned (.bool s.dn) ∧ w = w' := by
  obtain ⟨F, F2, h1, h2, h3, h4, h5, h6, h7, h8⟩ := h
  exact down_calls w F a bb s.d s.m s.t s.dn h1
end
end Go.Proofs.YtodmnogoacghpaaGreatDoor
