/- A book and the power, in plain words. · A book and the power: Set that may be cut. -/
import Derived.Test.YtodmnogoacghpaaGreatDoorM35
namespace Go.Proofs.YtodmnogoacghpaaGreatDoor
set_option maxRecDepth 10000

theorem sayT_congr {a b : FS} (h : ∀ n, nowOf a n = nowOf b n) : ∀ (ns : List ByteArray) (t : ByteArray), sayT a ns t = sayT b ns t
  | [], _ => rfl
  | n :: ns, t => by
    have e : sayN a n = sayN b n := by unfold sayN; rw [h]
    show sayT a ns (t ++ sayN a n) = sayT b ns (t ++ sayN b n)
    rw [e]
    exact sayT_congr h ns _
theorem linesM_eq {a b : FS} (ha : NodupK a) (hb : NodupK b) (h : ∀ f, fget a f = fget b f) : linesM a = linesM b := by
  have e1 : sortB (a.map (·.1)) = sortB (b.map (·.1)) := sortB_perm (keysPerm ha hb fun f => by rw [h])
  unfold linesM
  rw [e1]
  exact sayT_congr (fun n => by unfold nowOf nowG; rw [h]) _ _
theorem readS_tail (l : List Ent) (m : FS) {r : List UInt8} (h : RightE l) (hr : (10 : UInt8) ∉ r) : readS m (encE l ++ r) = setE m l := by rw [readS_enc l m r h, readS_no _ hr]
theorem wholeL_tail (l : List Ent) {r : List UInt8} (h : RightE l) (hr : (10 : UInt8) ∉ r) : wholeL (encE l ++ r) = encE l := by rw [wholeL_enc l r h, wholeL_no hr, List.append_nil]
/-- A write that the power cut short: the new text's beginning, the old one's rest. -/
theorem mix_line {E r p : List UInt8} (hr : (10 : UInt8) ∉ r) (hp : (10 : UInt8) ∉ p) (k : Nat) :
    ∃ r', (10 : UInt8) ∉ r' ∧ ((E ++ (p ++ [10])).take k ++ (E ++ r).drop (min k (E ++ r).length) = E ++ r' ∨ (E ++ (p ++ [10])).take k ++ (E ++ r).drop (min k (E ++ r).length) = E ++ (p ++ [10]) ++ r') := by
  rcases Nat.lt_or_ge E.length k with h | h
  · obtain ⟨j, rfl⟩ : ∃ j, k = E.length + j := ⟨k - E.length, by omega⟩
    obtain ⟨q, hq, hq2⟩ : ∃ q, (E ++ r).drop (min (E.length + j) (E ++ r).length) = q ∧ (10 : UInt8) ∉ q := by
      refine ⟨_, rfl, fun hm => ?_⟩
      have e : min (E.length + j) (E ++ r).length = E.length + min j r.length := by rw [List.length_append]; omega
      rw [e, List.drop_append] at hm
      have e2 : E.drop (E.length + min j r.length) = [] := List.drop_eq_nil_of_le (by omega)
      rw [e2, List.nil_append] at hm
      exact hr (List.mem_of_mem_drop hm)
    have et : (E ++ (p ++ [10])).take (E.length + j) = E ++ (p ++ [10]).take j := by
      rw [List.take_append, List.take_of_length_le (by omega)]
      congr 2
      omega
    rw [hq, et]
    rcases Nat.lt_or_ge p.length j with hj | hj
    · refine ⟨q, hq2, Or.inr ?_⟩
      rw [List.take_of_length_le (l := p ++ [10]) (by simp; omega)]
    · refine ⟨p.take j ++ q, ?_, Or.inl ?_⟩
      · intro hm
        rcases List.mem_append.1 hm with hm | hm
        · exact hp (List.mem_of_mem_take hm)
        · exact hq2 hm
      · rw [List.take_append_of_le_length hj, List.append_assoc]
  · refine ⟨r, hr, Or.inl ?_⟩
    have e : min k (E ++ r).length = k := by rw [List.length_append]; omega
    rw [e, List.take_append_of_le_length h, List.drop_append_of_le_length h, ← List.append_assoc, List.take_append_drop]
/-! ### a write that may be cut -/
theorem keeps_cut {d : DiskD} (hb : d.bytes = -1) (hl : d.fs.length < 5000) {f : ByteArray} (hn : nameB f = true) (s : ByteArray) :
    ((keepsD d f s).1 = 0 ∨ (keepsD d f s).1 = 14) ∧ (keepsD d f s).2.bytes = -1 ∧ (∀ g, g ≠ f → fget (keepsD d f s).2.fs g = fget d.fs g) ∧
    ((keepsD d f s).1 = 0 → fget (keepsD d f s).2.fs f = some ⟨s, some s⟩) ∧
    ((keepsD d f s).1 = 14 → fget (keepsD d f s).2.fs f = fget d.fs f ∨ fget (keepsD d f s).2.fs f = some ⟨s, (fget d.fs f).bind (·.safe)⟩) := by
  have e : fullB d f s = false := by
    unfold fullB
    rw [hb]
    have : ¬ 5000 ≤ d.fs.length := by omega
    simp [this]
  by_cases h0 : d.left = 0
  · have ek : keepsD d f s = (14, d) := by
      have ew : writeD d f s = (14, d) := by
        unfold writeD
        rw [if_neg (by rw [hn]; decide), if_pos h0]
      unfold keepsD
      exact (if_neg (by rw [ew]; exact (show ¬ (14 : Int) = 0 by decide))).trans ew
    rw [ek]
    exact ⟨Or.inr rfl, hb, fun _ _ => rfl, (fun h => absurd (show (14 : Int) = 0 from h) (by decide)), fun _ => Or.inl rfl⟩
  · have ew : writeD d f s = (0, { usedD d with fs := fput d.fs f ⟨s, (fget d.fs f).bind (·.safe)⟩ }) := by
      unfold writeD
      rw [if_neg (by rw [hn]; decide), if_neg h0, if_neg (by rw [e]; decide)]
    have e1 : fget (fput d.fs f ⟨s, (fget d.fs f).bind (·.safe)⟩) f = some ⟨s, (fget d.fs f).bind (·.safe)⟩ := by rw [fget_put, if_pos rfl]
    by_cases h1 : (usedD d).left = 0
    · have ek : keepsD d f s = (14, { usedD d with fs := fput d.fs f ⟨s, (fget d.fs f).bind (·.safe)⟩ }) := by
        unfold keepsD
        rw [ew, if_pos rfl]
        unfold syncD
        dsimp only
        rw [e1]
        dsimp only
        rw [if_pos h1]
      rw [ek]
      refine ⟨Or.inr rfl, hb, fun g hg => ?_, (fun h => absurd (show (14 : Int) = 0 from h) (by decide)), fun _ => Or.inr e1⟩
      dsimp only
      rw [fget_put, if_neg hg]
    · have ek : keepsD d f s = (0, { usedD { usedD d with fs := fput d.fs f ⟨s, (fget d.fs f).bind (·.safe)⟩ } with fs := fput (fput d.fs f ⟨s, (fget d.fs f).bind (·.safe)⟩) f ⟨s, some s⟩ }) := by
        unfold keepsD
        rw [ew, if_pos rfl]
        unfold syncD
        dsimp only
        rw [e1]
        dsimp only
        rw [if_neg h1]
      rw [ek]
      refine ⟨Or.inl rfl, hb, fun g hg => ?_, fun _ => ?_, (fun h => absurd (show (0 : Int) = 14 from h) (by decide))⟩
      · dsimp only
        rw [fget_put, if_neg hg, fget_put, if_neg hg]
      · dsimp only
        rw [fget_put, if_pos rfl]
theorem move_cut {d : DiskD} {f t : ByteArray} (hn : nameB t = true) {x : FileD} (hx : fget d.fs f = some x) :
    ((moveD d f t).1 = 0 ∨ (moveD d f t).1 = 14) ∧ (moveD d f t).2.bytes = d.bytes ∧
    ((moveD d f t).1 = 0 → ∀ g, fget (moveD d f t).2.fs g = if g = t then some x else if g = f then none else fget d.fs g) ∧
    ((moveD d f t).1 = 14 → (moveD d f t).2 = d) := by
  by_cases h0 : d.left = 0
  · have ek : moveD d f t = (14, d) := by
      unfold moveD
      rw [if_neg (by rw [hn]; decide), hx]
      dsimp only
      rw [if_pos h0]
    rw [ek]
    exact ⟨Or.inr rfl, rfl, (fun h => absurd (show (14 : Int) = 0 from h) (by decide)), fun _ => rfl⟩
  · have ek : moveD d f t = (0, { usedD d with fs := fput (fdel d.fs f) t x }) := by
      unfold moveD
      rw [if_neg (by rw [hn]; decide), hx]
      dsimp only
      rw [if_neg h0]
    rw [ek]
    refine ⟨Or.inl rfl, rfl, fun _ g => ?_, (fun h => absurd (show (0 : Int) = 14 from h) (by decide))⟩
    dsimp only
    rw [fget_put, fget_del]
/-! ### what stands when the power is on again -/
theorem startSafe {d : DiskD} (hn : NodupK d.fs) (keeps : Int) : AllSafe (startD d keeps).fs := by
  intro f x hx
  have e : fget (startFs keeps d.fs) f = some x := hx
  rw [startFs_get keeps hn] at e
  cases h1 : fget d.fs f with
  | none => rw [h1] at e; cases e
  | some y =>
    rw [h1] at e
    cases h2 : startF keeps y with
    | none => simp [h2] at e
    | some z =>
      simp [h2] at e
      rw [← e]
theorem start_now {d : DiskD} (hn : NodupK d.fs) (keeps : Int) (f : ByteArray) : nowOf (startD d keeps).fs f = (match fget d.fs f with | none => ⟨#[]⟩ | some x => (startF keeps x).getD ⟨#[]⟩) := by
  have e : fget (startD d keeps).fs f = (fget d.fs f).bind fun x => (startF keeps x).map fun s => ⟨s, some s⟩ := startFs_get keeps hn f
  unfold nowOf nowG
  rw [e]
  cases fget d.fs f with
  | none => rfl
  | some x =>
    dsimp only [Option.bind]
    cases startF keeps x <;> rfl
theorem start_now_safe {d : DiskD} (hn : NodupK d.fs) (keeps : Int) {f s : ByteArray} (h : fget d.fs f = some ⟨s, some s⟩) : nowOf (startD d keeps).fs f = s := by
  rw [start_now hn, h]
  unfold startF
  dsimp only
  rw [if_pos rfl]
  rfl
theorem start_now_all {d d0 : DiskD} (hn : NodupK d.fs) (hs : AllSafe d0.fs) (keeps : Int) {f : ByteArray} (h : fget d.fs f = fget d0.fs f) : nowOf (startD d keeps).fs f = nowOf d0.fs f := by
  cases e : fget d0.fs f with
  | none =>
    rw [start_now hn, h, e]
    unfold nowOf nowG
    rw [e]
    rfl
  | some x =>
    obtain ⟨now, safe⟩ := x
    have := hs f _ e
    dsimp only at this
    subst this
    rw [start_now_safe hn keeps (h.trans e)]
    unfold nowOf nowG
    rw [e]
    rfl

/-! ### a round of BookKeeps -/
/-- What a book that was opened knows, the power on, all safe. -/
structure KInv (k : Nat) (d : DiskD) (m : FS) (t : ByteArray) : Prop where
  left : d.left = -1
  bytes : d.bytes = -1
  good : GoodD (3 * k) 30000 d
  safe : AllSafe d.fs
  ok : LinesOk m
  len : m.length ≤ k
  ex : ∃ lp ln r, RightE lp ∧ RightE ln ∧ lp.length ≤ k ∧ ln.length ≤ k ∧ (10 : UInt8) ∉ r ∧ t = ofL (encE ln) ∧ (nowOf d.fs fNotes).data.toList = encE ln ++ r ∧ nowOf d.fs fPage = ofL (encE lp) ∧ ∀ f, fget m f = fget (setE (setE [] lp) ln) f
/-- Opened at such files, the book knows these lines. -/
theorem openB_at {d : DiskD} {lp ln : List Ent} {r : List UInt8} (h1 : RightE lp) (h2 : RightE ln) (hr : (10 : UInt8) ∉ r) (hN : (nowOf d.fs fNotes).data.toList = encE ln ++ r) (hP : nowOf d.fs fPage = ofL (encE lp)) :
    (openB d).d = d ∧ (openB d).t = ofL (encE ln) ∧ (openB d).dn = false ∧ (openB d).m = setE (setE [] lp) ln := by
  refine ⟨rfl, ?_, rfl, ?_⟩
  · unfold openB
    dsimp only
    rw [hN, wholeL_tail ln h2 hr]
  · unfold openB
    dsimp only
    rw [hN, hP, ofL_data, readS_all _ _ h1, readS_tail ln _ h2 hr]
theorem ext_take (s : ByteArray) (k : Nat) : (s.extract 0 k).data.toList = s.data.toList.take k := by rw [ByteArray.data_extract, Array.toList_extract]; simp
theorem ext_drop (s : ByteArray) (k : Nat) : (s.extract k s.size).data.toList = s.data.toList.drop k := by
  rw [ByteArray.data_extract, Array.toList_extract]
  rw [List.extract_eq_take_drop]
  exact List.take_of_length_le (by rw [List.length_drop]; exact Nat.le_refl _)
/-- A write that is not safe yet: what stands when the power is on again. -/
theorem start_mix (new : ByteArray) (o : Option ByteArray) (keeps : Int) : ∃ k, k ≤ new.size ∧ ((startF keeps ⟨new, o⟩).getD ⟨#[]⟩).data.toList = new.data.toList.take k ++ (o.getD ⟨#[]⟩).data.toList.drop (min k (o.getD ⟨#[]⟩).data.toList.length) := by
  unfold startF
  dsimp only
  by_cases h1 : o = some new
  · rw [if_pos h1, h1]
    exact ⟨0, Nat.zero_le _, by simp⟩
  · rw [if_neg h1]
    by_cases h2 : 0 < keeps
    · rw [if_pos h2]
      obtain ⟨k, hk⟩ : ∃ k, (min keeps ((new.size : Nat) : Int)).toNat = k := ⟨_, rfl⟩
      rw [hk]
      refine ⟨k, by omega, ?_⟩
      show (new.extract 0 k ++ (o.getD ⟨#[]⟩).extract (min k (o.getD ⟨#[]⟩).size) (o.getD ⟨#[]⟩).size).data.toList = _
      rw [ByteArray.data_append, Array.toList_append, ext_take, ext_drop]
      rfl
    · rw [if_neg h2]
      exact ⟨0, Nat.zero_le _, by simp⟩
end Go.Proofs.YtodmnogoacghpaaGreatDoor
namespace Go.Proofs.YtodmnogoacghpaaGreatDoor
set_option maxRecDepth 10000

theorem cutD_good {C : Nat} {d : DiskD} (h : GoodD C 30000 d) {n : Int} (hn : n ≤ 9223372036854775807) : GoodD C 30000 (cutD d n) := h.cut hn
theorem old_of {d : DiskD} (hs : AllSafe d.fs) (f : ByteArray) : ((fget d.fs f).bind (·.safe)).getD ⟨#[]⟩ = nowOf d.fs f := by
  unfold nowOf nowG
  cases e : fget d.fs f with
  | none => rfl
  | some x =>
    have := hs f x e
    show x.safe.getD ⟨#[]⟩ = x.now
    rw [this]
    rfl
theorem encE_line (ln : List Ent) (n v : ByteArray) : encE (ln ++ [(n, v)]) = encE ln ++ (lineL n v ++ [10]) := by
  rw [encE_append]
  have : encE [(n, v)] = (lineT n v).data.toList := by unfold encE; simp
  rw [this, lineT_data]
theorem RightE.snoc {ln : List Ent} (h : RightE ln) {n v : ByteArray} (hr : rightB n v = true) : RightE (ln ++ [(n, v)]) := by
  intro e he
  rcases List.mem_append.1 he with he | he
  · exact h e he
  · rw [List.mem_singleton.1 he]; exact hr
/-- Which lines stand when the power is on again. -/
theorem set_crash {k : Nat} {d : DiskD} {m : FS} {t : ByteArray} (h : KInv k d m t) (hk : k ≤ 60) {L : Int} (hL : L ≤ 9223372036854775807) (keeps : Int) {n v : ByteArray} (hr : rightB n v = true) :
    ((keepsD (cutD d L) fNotes (t ++ lineT n v)).1 = 0 ∨ (keepsD (cutD d L) fNotes (t ++ lineT n v)).1 = 14) ∧
    ∃ m' t', openB (startD (keepsD (cutD d L) fNotes (t ++ lineT n v)).2 keeps) = ⟨startD (keepsD (cutD d L) fNotes (t ++ lineT n v)).2 keeps, m', t', false⟩ ∧ KInv (k + 1) (startD (keepsD (cutD d L) fNotes (t ++ lineT n v)).2 keeps) m' t' ∧
    ((∀ f, fget m' f = fget (lineSet m n v) f) ∨ ((keepsD (cutD d L) fNotes (t ++ lineT n v)).1 = 14 ∧ ∀ f, fget m' f = fget m f)) := by
  obtain ⟨lp, ln, r, g1, g2, g3, g4, g5, g6, g7, g8, g9⟩ := h.ex
  have hlen := h.good.len
  have htl : (t ++ lineT n v).data.toList = encE ln ++ (lineL n v ++ [10]) := by
    rw [ByteArray.data_append, Array.toList_append, g6, ofL_data, lineT_data]
  have hsz : (t ++ lineT n v).size ≤ 30000 := by
    have h1 : (t ++ lineT n v).size = (t ++ lineT n v).data.toList.length := rfl
    have h2 := encE_len (ln ++ [(n, v)]) (g2.snoc hr)
    rw [encE_line] at h2
    rw [h1, htl]
    simp only [List.length_append, List.length_cons, List.length_nil] at h2 ⊢
    omega
  have hgc := cutD_good h.good hL
  obtain ⟨c1, c2, c3, c4, c5⟩ := keeps_cut (d := cutD d L) h.bytes (show d.fs.length < 5000 by omega) (f := fNotes) rfl (t ++ lineT n v)
  have hgk : GoodD (3 * k + 1) 30000 (keepsD (cutD d L) fNotes (t ++ lineT n v)).2 := hgc.keeps hsz
  obtain ⟨d1, hd1⟩ : ∃ d1, (keepsD (cutD d L) fNotes (t ++ lineT n v)).2 = d1 := ⟨_, rfl⟩
  obtain ⟨code, hcode⟩ : ∃ code, (keepsD (cutD d L) fNotes (t ++ lineT n v)).1 = code := ⟨_, rfl⟩
  rw [hd1] at c2 c3 c4 c5 hgk ⊢
  rw [hcode] at c1 c4 c5 ⊢
  have hpage : nowOf (startD d1 keeps).fs fPage = ofL (encE lp) := by
    rw [← g8]
    exact start_now_all hgk.nodup h.safe keeps (c3 fPage (by decide))
  have key : ∃ r', (10 : UInt8) ∉ r' ∧ (((nowOf (startD d1 keeps).fs fNotes).data.toList = encE ln ++ r' ∧ code = 14) ∨ (nowOf (startD d1 keeps).fs fNotes).data.toList = encE (ln ++ [(n, v)]) ++ r') := by
    rcases c1 with c1 | c1
    · refine ⟨[], by simp, Or.inr ?_⟩
      rw [start_now_safe hgk.nodup keeps (c4 c1), htl, encE_line, List.append_nil]
    · rcases c5 c1 with c5 | c5
      · refine ⟨r, g5, Or.inl ⟨?_, c1⟩⟩
        rw [start_now_all hgk.nodup h.safe keeps c5, g7]
      · obtain ⟨j, -, hj⟩ := start_mix (t ++ lineT n v) ((fget d.fs fNotes).bind (·.safe)) keeps
        rw [old_of h.safe, g7, htl] at hj
        have hn : (nowOf (startD d1 keeps).fs fNotes) = ((startF keeps ⟨t ++ lineT n v, (fget d.fs fNotes).bind (·.safe)⟩).getD ⟨#[]⟩) := by
          rw [start_now hgk.nodup, c5]
          rfl
        obtain ⟨r', hr', hm⟩ := mix_line (E := encE ln) (r := r) (p := lineL n v) g5 (lineL_no hr) j
        rw [hn, hj]
        refine ⟨r', hr', ?_⟩
        rcases hm with hm | hm
        · exact Or.inl ⟨hm, c1⟩
        · refine Or.inr ?_
          rw [hm, encE_line]
  obtain ⟨r', hr', hkey⟩ := key
  refine ⟨c1, ?_⟩
  have mk : ∀ ln', RightE ln' → ln'.length ≤ k + 1 → (nowOf (startD d1 keeps).fs fNotes).data.toList = encE ln' ++ r' → LinesOk (setE (setE [] lp) ln') → (setE (setE [] lp) ln').length ≤ k + 1 → openB (startD d1 keeps) = ⟨startD d1 keeps, setE (setE [] lp) ln', ofL (encE ln'), false⟩ ∧ KInv (k + 1) (startD d1 keeps) (setE (setE [] lp) ln') (ofL (encE ln')) := fun ln' q1 q2 q3 q4 q5 => by
    obtain ⟨e1, e2, e3, e4⟩ := openB_at g1 q1 hr' q3 hpage
    refine ⟨?_, rfl, c2, (hgk.start keeps).mono (by omega) (Nat.le_refl _), startSafe hgk.nodup keeps, q4, q5, lp, ln', r', g1, q1, by omega, q2, hr', rfl, q3, hpage, fun f => rfl⟩
    rw [← e2, ← e4]
    rfl
  have hm1 : LinesOk (setE (setE [] lp) ln) := ⟨setE_nodup _ (setE_nodup _ (show NodupK [] from List.nodup_nil)), fun f x hx => h.ok.each f x (by rw [g9]; exact hx)⟩
  have hl1 : (setE (setE [] lp) ln).length = m.length := by
    have := (keysPerm hm1.nodup h.ok.nodup fun f => by rw [g9]).length_eq
    simpa using this
  have he : setE (setE [] lp) (ln ++ [(n, v)]) = lineSet (setE (setE [] lp) ln) n v := by rw [setE_append]; rfl
  rcases hkey with ⟨hkey, hc⟩ | hkey
  · obtain ⟨q1, q2⟩ := mk ln g2 (by omega) hkey hm1 (by have := h.len; omega)
    exact ⟨_, _, q1, q2, Or.inr ⟨hc, fun f => (g9 f).symm⟩⟩
  · obtain ⟨q1, q2⟩ := mk (ln ++ [(n, v)]) (g2.snoc hr) (by simp; omega) hkey (by rw [he]; exact hm1.set hr) (by
      rw [he]
      have h1 := lineSet_len (setE (setE [] lp) ln) n v
      have := h.len
      omega)
    refine ⟨_, _, q1, q2, Or.inl fun f => ?_⟩
    rw [he, lineSet_get, lineSet_get, g9]
/-! ### Tidy that may be cut -/
theorem setE_kind : ∀ (l : List Ent) (f : ByteArray), (∀ m, fget (setE m l) f = fget m f) ∨ ∃ o, ∀ m, fget (setE m l) f = o
  | [], _ => Or.inl fun _ => rfl
  | e :: l, f => by
    have hs : ∀ m, setE m (e :: l) = setE (lineSet m e.1 e.2) l := fun m => rfl
    rcases setE_kind l f with h | ⟨o, h⟩
    · by_cases hf : f = e.1
      · exact Or.inr ⟨if e.2.size = 0 then none else some ⟨e.2, none⟩, fun m => by rw [hs, h, lineSet_get, if_pos hf]⟩
      · exact Or.inl fun m => by rw [hs, h, lineSet_get, if_neg hf]
    · exact Or.inr ⟨o, fun m => by rw [hs, h]⟩
theorem setE_idem {a b : FS} {l : List Ent} (h : ∀ f, fget a f = fget (setE b l) f) (f : ByteArray) : fget (setE a l) f = fget a f := by
  rcases setE_kind l f with k | ⟨o, k⟩
  · exact k a
  · rw [k a, h f, k b]
theorem setE_congr {a b : FS} (h : ∀ f, fget a f = fget b f) (l : List Ent) (f : ByteArray) : fget (setE a l) f = fget (setE b l) f := by
  rcases setE_kind l f with k | ⟨o, k⟩
  · rw [k a, k b, h]
  · rw [k a, k b]
end Go.Proofs.YtodmnogoacghpaaGreatDoor
