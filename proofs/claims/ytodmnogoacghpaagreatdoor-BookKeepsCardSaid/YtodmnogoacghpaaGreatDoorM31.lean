/- A book in plain words: what stands on the disk and what is known, act by act. -/
import Derived.Test.YtodmnogoacghpaaGreatDoorM30
namespace Go.Proofs.YtodmnogoacghpaaGreatDoor
set_option maxRecDepth 10000

structure Free (d : DiskD) : Prop where
  left : d.left = -1
  bytes : d.bytes = -1
theorem Free.used {d : DiskD} (h : Free d) : (usedD d).left = -1 := by unfold usedD; dsimp only; rw [h.left]; rfl
theorem writeF {d : DiskD} (h : Free d) (hl : d.fs.length < 5000) {f : ByteArray} (hn : nameB f = true) (s : ByteArray) :
    writeD d f s = (0, { usedD d with fs := fput d.fs f ⟨s, (fget d.fs f).bind (·.safe)⟩ }) := by
  have e : fullB d f s = false := by
    unfold fullB
    rw [h.bytes]
    have : ¬ 5000 ≤ d.fs.length := by omega
    simp [this]
  unfold writeD
  rw [if_neg (by rw [hn]; decide), if_neg (by rw [h.left]; decide), if_neg (by rw [e]; decide)]
theorem keeps_free {d : DiskD} (h : Free d) (hl : d.fs.length < 5000) {f : ByteArray} (hn : nameB f = true) (s : ByteArray) :
    (keepsD d f s).1 = 0 ∧ Free (keepsD d f s).2 ∧ ∀ g, fget (keepsD d f s).2.fs g = if g = f then some ⟨s, some s⟩ else fget d.fs g := by
  have hu := h.used
  have e1 : fget (fput d.fs f ⟨s, (fget d.fs f).bind (·.safe)⟩) f = some ⟨s, (fget d.fs f).bind (·.safe)⟩ := by rw [fget_put, if_pos rfl]
  have ek : keepsD d f s = (0, { usedD { usedD d with fs := fput d.fs f ⟨s, (fget d.fs f).bind (·.safe)⟩ } with fs := fput (fput d.fs f ⟨s, (fget d.fs f).bind (·.safe)⟩) f ⟨s, some s⟩ }) := by
    unfold keepsD
    rw [writeF h hl hn, if_pos rfl]
    unfold syncD
    dsimp only
    rw [e1]
    dsimp only
    rw [if_neg (by rw [hu]; decide)]
  rw [ek]
  refine ⟨rfl, ⟨?_, h.bytes⟩, fun g => ?_⟩
  · show (if 0 < (usedD d).left then _ else (usedD d).left) = -1
    rw [hu]
    rfl
  · dsimp only
    rw [fget_put, fget_put]
    by_cases e : g = f
    · rw [if_pos e, if_pos e]
    · rw [if_neg e, if_neg e, if_neg e]
theorem move_free {d : DiskD} (h : Free d) {f t : ByteArray} (hn : nameB t = true) {x : FileD} (hx : fget d.fs f = some x) :
    (moveD d f t).1 = 0 ∧ Free (moveD d f t).2 ∧ ∀ g, fget (moveD d f t).2.fs g = if g = t then some x else if g = f then none else fget d.fs g := by
  have ek : moveD d f t = (0, { usedD d with fs := fput (fdel d.fs f) t x }) := by
    unfold moveD
    rw [if_neg (by rw [hn]; decide), hx]
    dsimp only
    rw [if_neg (by rw [h.left]; decide)]
  rw [ek]
  refine ⟨rfl, ⟨h.used, h.bytes⟩, fun g => ?_⟩
  dsimp only
  rw [fget_put, fget_del]
theorem keysPerm {a b : FS} (ha : NodupK a) (hb : NodupK b) (h : ∀ f, (fget a f).isSome = (fget b f).isSome) : (a.map (·.1)).Perm (b.map (·.1)) := by
  refine (List.perm_ext_iff_of_nodup ha hb).2 fun s => ?_
  have h1 := h s
  have e1 := @fget_none a s
  have e2 := @fget_none b s
  cases ea : fget a s <;> cases eb : fget b s <;> rw [ea, eb] at h1 <;> simp_all
theorem setE_pairs (g : ByteArray → ByteArray) : ∀ (ns : List ByteArray) (m : FS) (f : ByteArray), (∀ n ∈ ns, (g n).size ≠ 0) → (f ∈ ns → fget (setE m (ns.map fun n => (n, g n))) f = some ⟨g f, none⟩) ∧ (f ∉ ns → fget (setE m (ns.map fun n => (n, g n))) f = fget m f)
  | [], _, _, _ => ⟨(fun h => absurd h (by simp)), (fun _ => rfl)⟩
  | n :: ns, m, f, h => by
    have ih := setE_pairs g ns (lineSet m n (g n)) f (fun x hx => h x (by simp [hx]))
    have e : setE m ((n :: ns).map fun n => (n, g n)) = setE (lineSet m n (g n)) (ns.map fun n => (n, g n)) := rfl
    rw [e]
    have e2 : fget (lineSet m n (g n)) f = if f = n then some ⟨g n, none⟩ else fget m f := by rw [lineSet_get, if_neg (h n (by simp))]
    constructor
    · intro hf
      by_cases h1 : f ∈ ns
      · exact ih.1 h1
      · rcases List.mem_cons.1 hf with h2 | h2
        · rw [ih.2 h1, e2, if_pos h2, h2]
        · exact absurd h2 h1
    · intro hf
      rw [ih.2 (fun h => hf (by simp [h])), e2, if_neg (fun h => hf (by simp [h]))]
def pairsM (m : FS) : List Ent := (sortB (m.map (·.1))).map fun n => (n, nowOf m n)
theorem textM_enc (m : FS) : textM m = ofL (encE (pairsM m)) := by
  unfold textM textN encE pairsM ofL
  rw [List.flatMap_map]
theorem lineT_size {n v : ByteArray} (h : rightB n v = true) : (lineT n v).size ≤ 326 := by
  obtain ⟨h1, h2, h3⟩ := rightB_size h
  unfold lineT
  rw [ByteArray.size_append, ByteArray.size_append, ByteArray.size_append]
  have e1 : (ByteArray.mk #[9]).size = 1 := rfl
  have e2 : (ByteArray.mk #[10]).size = 1 := rfl
  omega
theorem encE_len : ∀ (l : List Ent), RightE l → (encE l).length ≤ 326 * l.length
  | [], _ => Nat.le_refl _
  | e :: l, h => by
    have ih := encE_len l (fun x hx => h x (by simp [hx]))
    have h1 := lineT_size (h e (by simp))
    have h2 : (lineT e.1 e.2).data.toList.length = (lineT e.1 e.2).size := rfl
    have h3 : encE (e :: l) = (lineT e.1 e.2).data.toList ++ encE l := rfl
    rw [h3, List.length_append, List.length_cons]
    omega
theorem wholeL_all {l : List Ent} (h : RightE l) : wholeL (encE l) = encE l := by
  have := wholeL_enc l [] h
  rw [List.append_nil] at this
  rw [this]
  exact List.append_nil _

/-- What is known of the lines. -/
structure LinesOk (m : FS) : Prop where
  nodup : NodupK m
  each : ∀ f x, fget m f = some x → rightB f x.now = true ∧ x.safe = none ∧ x.now.size ≠ 0
/-- What the disk keeps is what the lines are. -/
structure Keeps (k : Nat) (d : DiskD) (m : FS) (t : ByteArray) : Prop where
  ex : ∃ lp ln, RightE lp ∧ RightE ln ∧ lp.length ≤ k ∧ ln.length ≤ k ∧ t = ofL (encE ln) ∧ nowOf d.fs fNotes = t ∧ nowOf d.fs fPage = ofL (encE lp) ∧ ∀ f, fget m f = fget (setE (setE [] lp) ln) f
structure BInv (k : Nat) (s : BkS) (r : DiskD) : Prop where
  dn : s.dn = false
  free : Free s.d
  good : GoodD (3 * k) 30000 s.d
  rfree : Free r
  rgood : GoodD k 400 r
  ok : LinesOk s.m
  len : s.m.length ≤ k
  keeps : Keeps k s.d s.m s.t
  same : ∀ f, nowG s.m f = nowG r.fs f
theorem LinesOk.set {m : FS} (h : LinesOk m) {n v : ByteArray} (hr : rightB n v = true) : LinesOk (lineSet m n v) := by
  refine ⟨lineSet_nodup h.nodup n v, fun f x hx => ?_⟩
  rw [lineSet_get] at hx
  by_cases e : f = n
  · rw [if_pos e] at hx
    by_cases e2 : v.size = 0
    · rw [if_pos e2] at hx; cases hx
    · rw [if_neg e2] at hx
      injection hx with hx
      subst e hx
      exact ⟨hr, rfl, e2⟩
  · rw [if_neg e] at hx
    exact h.each f x hx
theorem BInv.right {k : Nat} {s : BkS} {r : DiskD} (h : BInv k s r) : RightE (pairsM s.m) := by
  intro e he
  obtain ⟨n, hn, rfl⟩ := List.mem_map.1 he
  have hn' : n ∈ s.m.map (·.1) := sortB_mem.1 hn
  cases hx : fget s.m n with
  | none => exact absurd hn' (fget_none.1 hx)
  | some x =>
    have := (h.ok.each n x hx).1
    dsimp only
    unfold nowOf nowG
    rw [hx]
    exact this
theorem BInv.start (d r : DiskD) (hd : d = zeroD) (hr : r = zeroD) : BInv 0 (openB d) r := by
  subst hd hr
  have e : ∀ f, nowOf zeroD.fs f = ⟨#[]⟩ := fun f => rfl
  unfold openB
  refine ⟨rfl, ⟨rfl, rfl⟩, GoodD.zero _ _, ⟨rfl, rfl⟩, GoodD.zero _ _, ⟨List.nodup_nil, fun f x hx => by cases hx⟩, Nat.zero_le _, ⟨[], [], (fun _ h => by cases h), (fun _ h => by cases h), Nat.le_refl _, Nat.le_refl _, rfl, rfl, rfl, fun f => rfl⟩, fun f => rfl⟩
theorem BInv.mono {k : Nat} {s : BkS} {r : DiskD} (h : BInv k s r) : BInv (k + 1) s r := by
  obtain ⟨lp, ln, h1, h2, h3, h4, h5⟩ := h.keeps.ex
  exact ⟨h.dn, h.free, h.good.mono (by omega) (Nat.le_refl _), h.rfree, h.rgood.mono (by omega) (Nat.le_refl _), h.ok, Nat.le_succ_of_le h.len, ⟨lp, ln, h1, h2, Nat.le_succ_of_le h3, Nat.le_succ_of_le h4, h5⟩, h.same⟩
theorem BInv.tsize {k : Nat} {s : BkS} {r : DiskD} (h : BInv k s r) (hk : k ≤ 60) : s.t.size ≤ 29000 := by
  obtain ⟨lp, ln, h1, h2, h3, h4, h5, -⟩ := h.keeps.ex
  have h6 := encE_len ln h2
  rw [h5]
  have : (ofL (encE ln)).size = (encE ln).length := rfl
  omega
theorem BInv.names {k : Nat} {s : BkS} {r : DiskD} (h : BInv k s r) : sortB (s.m.map (·.1)) = sortB (r.fs.map (·.1)) := by
  refine sortB_perm (keysPerm h.ok.nodup h.rgood.nodup fun f => ?_)
  have := congrArg Option.isSome (h.same f)
  unfold nowG at this
  simpa using this
/-- The document's disk behind a line that is set. -/
def refSet (r : DiskD) (n v : ByteArray) : DiskD := if v.size = 0 then (removeD r n).2 else (writeD r n v).2
theorem nameB_24 {n : ByteArray} (h1 : 1 ≤ n.size) (h2 : n.size ≤ 24) : nameB n = true := by
  unfold nameB
  have : n.size ≤ 80 := by omega
  simp [h1, this]
theorem BInv.set {k : Nat} {s : BkS} {r : DiskD} (h : BInv k s r) (hk : k ≤ 60) {n v : ByteArray} (hr : rightB n v = true) :
    (setB s n v).1 = 0 ∧ BInv (k + 1) (setB s n v).2 (refSet r n v) := by
  obtain ⟨h1, h2, h3⟩ := rightB_size hr
  have hlen := h.good.len
  have hrl := h.rgood.len
  obtain ⟨k1, k2, k3⟩ := keeps_free h.free (f := fNotes) (by omega) rfl (s.t ++ lineT n v)
  have hts := h.tsize hk
  have hlz := lineT_size hr
  have hsz : (s.t ++ lineT n v).size ≤ 30000 := by rw [ByteArray.size_append]; omega
  have eS : setB s n v = (0, ⟨(keepsD s.d fNotes (s.t ++ lineT n v)).2, lineSet s.m n v, s.t ++ lineT n v, false⟩) := by
    unfold setB
    rw [if_neg (by rw [h.dn]; decide), if_neg (by rw [hr]; decide), if_pos k1]
  rw [eS]
  refine ⟨rfl, rfl, k2, (h.good.keeps hsz).mono (by omega) (Nat.le_refl _), ?_, ?_, h.ok.set hr, ?_, ?_, fun f => ?_⟩
  · unfold refSet
    split
    · unfold removeD
      cases fget r.fs n with
      | none => exact h.rfree
      | some x =>
        dsimp only
        rw [if_neg (by rw [h.rfree.left]; decide)]
        exact ⟨h.rfree.used, h.rfree.bytes⟩
    · rw [writeF h.rfree (by omega) (nameB_24 h1 h2)]
      exact ⟨h.rfree.used, h.rfree.bytes⟩
  · unfold refSet
    split
    · exact (h.rgood.remove n).mono (by omega) (Nat.le_refl _)
    · exact h.rgood.write (by omega)
  · have := lineSet_len s.m n v
    have := h.len
    dsimp only
    omega
  · obtain ⟨lp, ln, g1, g2, g3, g4, g5, g6, g7, g8⟩ := h.keeps.ex
    refine ⟨lp, ln ++ [(n, v)], g1, ?_, by omega, by simp; omega, ?_, ?_, ?_, ?_⟩
    · intro e he
      rcases List.mem_append.1 he with he | he
      · exact g2 e he
      · rw [List.mem_singleton.1 he]; exact hr
    · rw [encE_append, g5]
      have : encE [(n, v)] = (lineT n v).data.toList := by unfold encE; simp
      rw [this]
      unfold ofL
      apply ByteArray.ext
      simp
    · unfold nowOf nowG
      dsimp only
      rw [k3, if_pos rfl]
      rfl
    · rw [← g7]
      unfold nowOf nowG
      dsimp only
      rw [k3, if_neg (by decide)]
    · intro f
      rw [setE_append]
      have : setE (setE (setE [] lp) ln) [(n, v)] = lineSet (setE (setE [] lp) ln) n v := rfl
      dsimp only
      rw [this, lineSet_get, lineSet_get, g8]
  · have hs := h.same f
    dsimp only
    unfold nowG at *
    rw [lineSet_get]
    unfold refSet
    by_cases e2 : v.size = 0
    · rw [if_pos e2, if_pos e2]
      unfold removeD
      cases ex : fget r.fs n with
      | none =>
        dsimp only
        by_cases e : f = n
        · subst e; rw [if_pos rfl, ex]
        · rw [if_neg e]; exact hs
      | some x =>
        have hrl : ¬ r.left = 0 := by rw [h.rfree.left]; decide
        simp only [if_neg hrl, fget_del]
        by_cases e : f = n
        · rw [if_pos e, if_pos e]
        · rw [if_neg e, if_neg e]; exact hs
    · rw [if_neg e2, if_neg e2, writeF h.rfree (by omega) (nameB_24 h1 h2)]
      dsimp only
      rw [fget_put]
      by_cases e : f = n
      · rw [if_pos e, if_pos e]; rfl
      · rw [if_neg e, if_neg e]; exact hs
theorem pairs_get {m : FS} (h : LinesOk m) (f : ByteArray) : fget (setE [] (pairsM m)) f = fget m f := by
  have hn : ∀ n ∈ sortB (m.map (·.1)), (nowOf m n).size ≠ 0 := fun n hn => by
    have hn' : n ∈ m.map (·.1) := sortB_mem.1 hn
    cases hx : fget m n with
    | none => exact absurd hn' (fget_none.1 hx)
    | some x =>
      unfold nowOf nowG
      rw [hx]
      exact (h.each n x hx).2.2
  unfold pairsM
  obtain ⟨q1, q2⟩ := setE_pairs (nowOf m) (sortB (m.map (·.1))) [] f hn
  by_cases e : f ∈ sortB (m.map (·.1))
  · rw [q1 e]
    have hn' : f ∈ m.map (·.1) := sortB_mem.1 e
    cases hx : fget m f with
    | none => exact absurd hn' (fget_none.1 hx)
    | some x =>
      obtain ⟨now, safe⟩ := x
      have := (h.each f _ hx).2.1
      dsimp only at this
      subst this
      unfold nowOf nowG
      rw [hx]
      rfl
  · rw [q2 e]
    have : f ∉ m.map (·.1) := fun h => e (sortB_mem.2 h)
    rw [fget_none.2 this]
    rfl
theorem pairs_len (m : FS) : (pairsM m).length = m.length := by unfold pairsM; rw [List.length_map, sortB_len, List.length_map]
theorem BInv.text {k : Nat} {s : BkS} {r : DiskD} (h : BInv k s r) (hk : k ≤ 60) : (textM s.m).size ≤ 30000 := by
  rw [textM_enc]
  have h1 := encE_len _ h.right
  rw [pairs_len] at h1
  have h2 := h.len
  have : (ofL (encE (pairsM s.m))).size = (encE (pairsM s.m)).length := rfl
  omega
theorem BInv.tidy {k : Nat} {s : BkS} {r : DiskD} (h : BInv k s r) (hk : k ≤ 60) : (tidyB s).1 = 0 ∧ BInv (k + 1) (tidyB s).2 r := by
  have hlen := h.good.len
  have hT := h.text hk
  obtain ⟨T, hTe⟩ : ∃ T, textM s.m = T := ⟨_, rfl⟩
  rw [hTe] at hT
  obtain ⟨a1, a2, a3⟩ := keeps_free h.free (f := fFresh) (by omega) rfl T
  have ga := h.good.keeps (f := fFresh) hT
  obtain ⟨b1, b2, b3⟩ := move_free a2 (f := fFresh) (t := fPage) rfl (by rw [a3, if_pos rfl])
  have gb := ga.move fFresh fPage
  obtain ⟨c1, c2, c3⟩ := keeps_free b2 (f := fNotes) (by have := gb.len; omega) rfl ⟨#[]⟩
  have gc := gb.keeps (f := fNotes) (s := ⟨#[]⟩) (Nat.zero_le _)
  have eD : tidyD s.d T = keepsD (moveD (keepsD s.d fFresh T).2 fFresh fPage).2 fNotes ⟨#[]⟩ := by
    unfold tidyD
    rw [if_pos a1, if_pos b1]
  have eT : tidyB s = (0, ⟨(keepsD (moveD (keepsD s.d fFresh T).2 fFresh fPage).2 fNotes ⟨#[]⟩).2, s.m, ⟨#[]⟩, false⟩) := by
    unfold tidyB
    rw [if_neg (by rw [h.dn]; decide), hTe, eD, if_pos c1]
  rw [eT]
  refine ⟨rfl, rfl, c2, gc.mono (by omega) (Nat.le_refl _), h.rfree, h.rgood.mono (by omega) (Nat.le_refl _), h.ok, Nat.le_succ_of_le h.len, ?_, h.same⟩
  refine ⟨pairsM s.m, [], h.right, (fun _ h => by cases h), ?_, Nat.zero_le _, rfl, ?_, ?_, ?_⟩
  · rw [pairs_len]; exact Nat.le_succ_of_le h.len
  · unfold nowOf nowG
    dsimp only
    rw [c3, if_pos rfl]
    rfl
  · rw [← textM_enc, hTe]
    unfold nowOf nowG
    dsimp only
    rw [c3, if_neg (by decide), b3, if_pos rfl]
    rfl
  · intro f
    exact (pairs_get h.ok f).symm
theorem openB_keeps {k : Nat} {d : DiskD} {m : FS} {t : ByteArray} (h : Keeps k d m t) : (openB d).d = d ∧ (openB d).t = t ∧ (openB d).dn = false ∧ NodupK (openB d).m ∧ ∀ f, fget (openB d).m f = fget m f := by
  obtain ⟨lp, ln, g1, g2, g3, g4, g5, g6, g7, g8⟩ := h.ex
  refine ⟨rfl, ?_, rfl, readS_nodup (readS_nodup (show NodupK [] from List.nodup_nil) _) _, fun f => ?_⟩
  · unfold openB
    dsimp only
    rw [g6, g5, ofL_data, wholeL_all g2]
  · unfold openB
    dsimp only
    rw [g6, g7, g5, ofL_data, ofL_data, readS_all _ _ g1, readS_all _ _ g2, g8]
theorem BInv.reopen {k : Nat} {s : BkS} {r : DiskD} (h : BInv k s r) : BInv k (openB s.d) r := by
  obtain ⟨h1, h2, h3, h4, h5⟩ := openB_keeps h.keeps
  have hp := keysPerm h4 h.ok.nodup fun f => by rw [h5]
  refine ⟨h3, h.free, h.good, h.rfree, h.rgood, ⟨h4, fun f x hx => h.ok.each f x (by rw [← h5]; exact hx)⟩, ?_, ?_, fun f => ?_⟩
  · have := hp.length_eq
    rw [List.length_map, List.length_map] at this
    rw [this]
    exact h.len
  · obtain ⟨lp, ln, g1, g2, g3, g4, g5, g6, g7, g8⟩ := h.keeps.ex
    exact ⟨lp, ln, g1, g2, g3, g4, h2.trans g5, g6.trans h2.symm, g7, fun f => (h5 f).trans (g8 f)⟩
  · unfold nowG
    rw [h5]
    exact h.same f
end Go.Proofs.YtodmnogoacghpaaGreatDoor
