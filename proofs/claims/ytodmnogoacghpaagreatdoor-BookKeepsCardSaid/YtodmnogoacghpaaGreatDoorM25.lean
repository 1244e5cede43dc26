/- DiskKeeps: all that a disk has, as one text; that text parted again. · A book, in plain Lean: lines, what a text of lines says, what is written. -/
import Derived.Test.YtodmnogoacghpaaGreatDoorM24
import Derived.Test.YtodmnogoacghpaaGreatDoorM03
namespace Go.Proofs.YtodmnogoacghpaaGreatDoor
set_option maxRecDepth 10000

def nowOf (fs : FS) (f : ByteArray) : ByteArray := (nowG fs f).getD ⟨#[]⟩
def pieceS (fs : FS) (f : ByteArray) : ByteArray := f ++ ⟨#[61]⟩ ++ nowOf fs f ++ ⟨#[59]⟩
def allK (fs : FS) (ks : List ByteArray) : ByteArray := ks.foldl (fun s f => s ++ pieceS fs f) ⟨#[]⟩
def allS (fs : FS) : ByteArray := allK fs (sortB (fs.map (·.1)))
theorem allK_snoc (fs : FS) (ks : List ByteArray) (f : ByteArray) : allK fs (ks ++ [f]) = allK fs ks ++ pieceS fs f := by
  unfold allK
  rw [List.foldl_append]
  rfl
theorem keys_mem {fs : FS} {f : ByteArray} : f ∈ fs.map (·.1) ↔ (nowG fs f).isSome = true := by
  rw [nowG_some]
  cases e : fget fs f with
  | none =>
    have := fget_none.1 e
    constructor
    · intro h; exact absurd h this
    · intro h; cases h
  | some x => exact ⟨fun _ => rfl, fun _ => List.mem_map_of_mem (f := (·.1)) (fget_mem e)⟩
theorem keys_perm {fs fs' : FS} (hn : NodupK fs) (hn' : NodupK fs') (h : ∀ f, nowG fs f = nowG fs' f) : (fs.map (·.1)).Perm (fs'.map (·.1)) :=
  (List.perm_ext_iff_of_nodup hn hn').2 fun f => by rw [keys_mem, keys_mem, h f]
theorem allS_congr {fs fs' : FS} (hn : NodupK fs) (hn' : NodupK fs') (h : ∀ f, nowG fs f = nowG fs' f) : allS fs = allS fs' := by
  unfold allS
  rw [sortB_perm (keys_perm hn hn' h)]
  have : (fun (s f : ByteArray) => s ++ pieceS fs f) = fun s f => s ++ pieceS fs' f := by
    funext s f
    unfold pieceS nowOf
    rw [h f]
  unfold allK
  rw [this]
theorem nowOf_get {fs : FS} {f : ByteArray} {x : FileD} (h : fget fs f = some x) : nowOf fs f = x.now := by
  unfold nowOf nowG
  rw [h]
  rfl
theorem dataA (a b : ByteArray) : (a ++ b).data.toList = a.data.toList ++ b.data.toList := by
  rw [ByteArray.data_append, Array.toList_append]
def pieceL (fs : FS) (f : ByteArray) : List UInt8 := f.data.toList ++ 61 :: (nowOf fs f).data.toList
theorem piece_data (fs : FS) (f : ByteArray) : (pieceS fs f).data.toList = pieceL fs f ++ [59] := by
  unfold pieceS pieceL
  rw [dataA, dataA, dataA]
  simp
theorem allK_data (fs : FS) (ks : List ByteArray) : (allK fs ks).data.toList = ks.flatMap fun f => pieceL fs f ++ [59] := by
  have key : ∀ (ks : List ByteArray) (s : ByteArray), (ks.foldl (fun s f => s ++ pieceS fs f) s).data.toList = s.data.toList ++ ks.flatMap fun f => pieceL fs f ++ [59] := by
    intro ks
    induction ks with
    | nil => intro s; simp
    | cons f ks ih =>
      intro s
      rw [List.foldl_cons, ih, dataA, piece_data, List.flatMap_cons, List.append_assoc]
  have := key ks ⟨#[]⟩
  unfold allK
  rw [this]
  rfl
theorem splitC_pieces {fs : FS} : ∀ (ks : List ByteArray), (∀ f ∈ ks, (59 : UInt8) ∉ pieceL fs f) → splitC 59 (ks.flatMap fun f => pieceL fs f ++ [59]) = ks.map (pieceL fs) ++ [[]]
  | [], _ => rfl
  | f :: ks, h => by
    rw [List.flatMap_cons, List.append_assoc, List.singleton_append, splitC_cons (h f (by simp)), splitC_pieces ks (fun g hg => h g (by simp [hg]))]
    rfl
theorem LowB.ne {b : UInt8} (h : LowB b) : b ≠ 59 ∧ b ≠ 61 := by
  unfold LowB at h
  constructor <;> (rintro rfl; revert h; decide)
theorem NameL.data {f : ByteArray} (h : NameL f) : ∀ b ∈ f.data.toList, LowB b := by
  obtain ⟨c, rfl, hc⟩ := h
  intro b hb
  simp at hb
  rw [hb]; exact hc
theorem piece_clean {d : DiskD} (hp : PlainD d) {f : ByteArray} (hf : (fget d.fs f).isSome = true) : (59 : UInt8) ∉ pieceL d.fs f ∧ (61 : UInt8) ∉ f.data.toList := by
  cases e : fget d.fs f with
  | none => rw [e] at hf; cases hf
  | some x =>
    obtain ⟨h1, h2⟩ := hp.get e
    constructor
    · unfold pieceL
      rw [nowOf_get e]
      intro hm
      rcases List.mem_append.1 hm with hm | hm
      · exact (h1.data _ hm).ne.1 rfl
      · rcases List.mem_cons.1 hm with hm | hm
        · exact absurd hm (by decide)
        · exact (h2 _ hm).ne.1 rfl
    · intro hm
      exact (h1.data _ hm).ne.2 rfl
/-- The text parted at each ';'. -/
theorem all_split {d : DiskD} (hp : PlainD d) : splitC 59 (allS d.fs).data.toList = (sortB (d.fs.map (·.1))).map (pieceL d.fs) ++ [[]] := by
  unfold allS
  rw [allK_data]
  refine splitC_pieces _ fun f hf => ?_
  rw [sortB_mem, keys_mem, nowG_some] at hf
  exact (piece_clean hp hf).1
/-- What one part says: a name and its text. -/
theorem piece_cut {d : DiskD} (hp : PlainD d) {f : ByteArray} (hf : (fget d.fs f).isSome = true) : Lib.cut (pieceL d.fs f) [61] = (f.data.toList, (nowOf d.fs f).data.toList, true) := by
  unfold pieceL
  exact cut_hit (piece_clean hp hf).2
theorem empty_cut : Lib.cut [] [61] = ([], [], false) := cut_no (by simp)

/-- What the size of all is. -/
theorem allK_size {fs : FS} : ∀ (ks : List ByteArray), (∀ f ∈ ks, f.size ≤ 80 ∧ (nowOf fs f).size ≤ 30000) → (allK fs ks).size ≤ 30082 * ks.length := by
  have key : ∀ (ks : List ByteArray) (s : ByteArray), (∀ f ∈ ks, f.size ≤ 80 ∧ (nowOf fs f).size ≤ 30000) → (ks.foldl (fun s f => s ++ pieceS fs f) s).size ≤ s.size + 30082 * ks.length := by
    intro ks
    induction ks with
    | nil => intro s _; simp
    | cons f ks ih =>
      intro s h
      rw [List.foldl_cons]
      have h1 := ih (s ++ pieceS fs f) (fun g hg => h g (by simp [hg]))
      obtain ⟨h2, h3⟩ := h f (by simp)
      have h4 : (pieceS fs f).size ≤ 30082 := by
        unfold pieceS
        rw [ByteArray.size_append, ByteArray.size_append, ByteArray.size_append]
        have e1 : (ByteArray.mk #[61]).size = 1 := rfl
        have e2 : (ByteArray.mk #[59]).size = 1 := rfl
        omega
      rw [ByteArray.size_append] at h1
      simp only [List.length_cons]
      omega
  intro ks h
  have := key ks ⟨#[]⟩ h
  have e : (ByteArray.mk #[]).size = 0 := rfl
  unfold allK
  omega
/-- What the second start leaves is as the law asks. -/
theorem kept_ok {k : Int} (hk : 0 < k) (s : ByteArray) (o : Option ByteArray) : ∃ y, startF k ⟨s, o⟩ = some y ∧
    (s ≠ o.getD ⟨#[]⟩ → y.extract 0 (min k ((s.size : Nat) : Int)).toNat = s.extract 0 (min k ((s.size : Nat) : Int)).toNat ∧ y.size = max (min k ((s.size : Nat) : Int)).toNat (o.getD ⟨#[]⟩).size) ∧ (s = o.getD ⟨#[]⟩ → y = s) := by
  by_cases hs : o = some s
  · subst hs
    refine ⟨s, by unfold startF; exact if_pos rfl, fun h => absurd rfl h, fun _ => rfl⟩
  · refine ⟨_, by unfold startF; rw [if_neg hs, if_pos hk], ?_, ?_⟩
    · intro _
      unfold oldOf
      dsimp only
      obtain ⟨n, hn⟩ : ∃ n, (min k ((s.size : Nat) : Int)).toNat = n := ⟨_, rfl⟩
      have hns : n ≤ s.size := by omega
      rw [hn]
      have e0 : (s.extract 0 n).size = n := by rw [ByteArray.size_extract]; omega
      constructor
      · apply ByteArray.ext
        apply Array.ext'
        have h1 : ∀ (a : ByteArray) (i j : Nat), (a.extract i j).data.toList = (a.data.toList.drop i).take (j - i) := fun a i j => by rw [ByteArray.data_extract, Array.toList_extract]
        rw [h1, dataA, h1, h1]
        simp only [List.drop_zero, Nat.sub_zero]
        have hl : (s.data.toList.take n).length = n := by rw [List.length_take, Array.length_toList]; exact Nat.min_eq_left hns
        rw [List.take_append_of_le_length (by omega), List.take_take, Nat.min_self]
      · rw [ByteArray.size_append, e0, ByteArray.size_extract]
        omega
    · intro hse
      cases o with
      | some t => exact absurd (congrArg some hse.symm) (by intro e; exact hs (by rw [e.symm]; simp at e; simp [e] at hse ⊢))
      | none =>
        simp only [Option.getD_none] at hse
        subst hse
        unfold oldOf
        have h : ∀ i j, (ByteArray.mk #[]).extract i j = ⟨#[]⟩ := fun i j => by
          apply ByteArray.ext
          rw [ByteArray.data_extract]
          simp
        dsimp only [Option.getD_none]
        rw [h, h]
        rfl
end Go.Proofs.YtodmnogoacghpaaGreatDoor
namespace Go.Proofs.YtodmnogoacghpaaGreatDoor
set_option maxRecDepth 10000

def rightB (n v : ByteArray) : Bool := decide (1 ≤ n.size) && decide (n.size ≤ 24) && decide (v.size ≤ 300) && !hasTL (n ++ v).data.toList
def lineT (n v : ByteArray) : ByteArray := n ++ ⟨#[9]⟩ ++ v ++ ⟨#[10]⟩
/-- What is written at names: as a disk's files, none of them safe. -/
def lineSet (m : FS) (n v : ByteArray) : FS := if v.size = 0 then fdel m n else fput m n ⟨v, none⟩
def parseL (p : List UInt8) : Option (ByteArray × ByteArray) :=
  if (Lib.cut p [9]).2.2 && rightB (ofL (Lib.cut p [9]).1) (ofL (Lib.cut p [9]).2.1) then some (ofL (Lib.cut p [9]).1, ofL (Lib.cut p [9]).2.1) else none
def readP : FS → List (List UInt8) → FS
  | m, [] => m
  | m, p :: ps => match parseL p with
    | none => m
    | some x => readP (lineSet m x.1 x.2) ps
def readS (m : FS) (s : List UInt8) : FS := readP m (splitC 10 s).dropLast
theorem readS_nil (m : FS) : readS m [] = m := rfl
theorem readS_no (m : FS) {s : List UInt8} (h : (10 : UInt8) ∉ s) : readS m s = m := by
  unfold readS
  rw [splitC_no h]
  rfl
theorem readS_line (m : FS) {p r : List UInt8} (h : (10 : UInt8) ∉ p) : readS m (p ++ 10 :: r) = match parseL p with
    | none => m
    | some x => readS (lineSet m x.1 x.2) r := by
  unfold readS
  rw [splitC_cons h, List.dropLast_cons_of_ne_nil (splitC_ne 10 r)]
  rfl
/-- All ahead of a line that is not whole. -/
def wholeL : List UInt8 → List UInt8
  | [] => []
  | b :: s => if (10 : UInt8) ∈ b :: s then b :: wholeL s else []
theorem wholeL_cons (b : UInt8) (s : List UInt8) : wholeL (b :: s) = if (10 : UInt8) ∈ b :: s then b :: wholeL s else [] := rfl
theorem wholeL_no {s : List UInt8} (h : (10 : UInt8) ∉ s) : wholeL s = [] := by
  cases s with
  | nil => rfl
  | cons b s => unfold wholeL; rw [if_neg h]
theorem wholeL_line {r : List UInt8} : ∀ (p : List UInt8), wholeL (p ++ 10 :: r) = p ++ 10 :: wholeL r
  | [] => by
    show wholeL (10 :: r) = _
    rw [wholeL_cons, if_pos (by simp)]
    rfl
  | b :: p => by
    show wholeL (b :: (p ++ 10 :: r)) = _
    rw [wholeL_cons, if_pos (by simp), wholeL_line p]
    rfl
theorem wholeL_take : ∀ (s : List UInt8) (i : Nat), i < s.length → s[i]? = some 10 → (∀ j, i < j → s[j]? ≠ some 10) → wholeL s = s.take (i + 1)
  | [], i, h, _, _ => by simp at h
  | b :: s, i, h, hi, hj => by
    have hm : (10 : UInt8) ∈ b :: s := List.mem_of_getElem? hi
    unfold wholeL
    rw [if_pos hm]
    cases i with
    | zero =>
      have hno : (10 : UInt8) ∉ s := fun hm => by
        obtain ⟨k, hk⟩ := List.mem_iff_getElem?.1 hm
        exact hj (k + 1) (by omega) (by simpa using hk)
      rw [wholeL_no hno]
      rfl
    | succ i =>
      rw [wholeL_take s i (by simpa using h) (by simpa using hi) (fun j hij => by simpa using hj (j + 1) (by omega))]
      rfl
theorem readS_whole (m : FS) (s : List UInt8) : readS m (wholeL s) = readS m s := by
  have key : ∀ (n : Nat) (s : List UInt8), s.length ≤ n → ∀ m, readS m (wholeL s) = readS m s := by
    intro n
    induction n with
    | zero => intro s hs m; rw [List.length_eq_zero_iff.1 (Nat.le_zero.1 hs)]; rfl
    | succ n ih =>
      intro s hs m
      rcases parts1 10 s with ⟨h1, _⟩ | ⟨p, r, h1, h2, _⟩
      · rw [wholeL_no h1, readS_no m h1]; rfl
      · subst h1
        rw [wholeL_line p, readS_line m h2, readS_line m h2]
        cases parseL p with
        | none => rfl
        | some x => exact ih r (by simp at hs; omega) _
  exact key s.length s (Nat.le_refl _) m

/-! ### a line that is written -/
theorem hasTL_mem {l : List UInt8} : hasTL l = false ↔ (9 : UInt8) ∉ l ∧ (10 : UInt8) ∉ l := by
  unfold hasTL
  rw [List.any_eq_false]
  constructor
  · intro h
    exact ⟨fun hm => h _ hm (by decide), fun hm => h _ hm (by decide)⟩
  · rintro ⟨h1, h2⟩ b hb
    have e1 : b ≠ 9 := fun e => h1 (by rw [← e]; exact hb)
    have e2 : b ≠ 10 := fun e => h2 (by rw [← e]; exact hb)
    simp [e1, e2]
theorem rightB_no {n v : ByteArray} (h : rightB n v = true) : ((9 : UInt8) ∉ n.data.toList ∧ (10 : UInt8) ∉ n.data.toList) ∧ (9 : UInt8) ∉ v.data.toList ∧ (10 : UInt8) ∉ v.data.toList := by
  unfold rightB at h
  simp only [Bool.and_eq_true, Bool.not_eq_true'] at h
  have := hasTL_mem.1 h.2
  rw [dataA] at this
  simp only [List.mem_append, not_or] at this
  exact ⟨⟨this.1.1, this.2.1⟩, this.1.2, this.2.2⟩
theorem rightB_size {n v : ByteArray} (h : rightB n v = true) : 1 ≤ n.size ∧ n.size ≤ 24 ∧ v.size ≤ 300 := by
  unfold rightB at h
  simp only [Bool.and_eq_true, decide_eq_true_eq] at h
  exact ⟨h.1.1.1, h.1.1.2, h.1.2⟩
def lineL (n v : ByteArray) : List UInt8 := n.data.toList ++ 9 :: v.data.toList
theorem lineT_data (n v : ByteArray) : (lineT n v).data.toList = lineL n v ++ [10] := by
  unfold lineT lineL
  rw [dataA, dataA, dataA]
  simp
theorem lineL_no {n v : ByteArray} (h : rightB n v = true) : (10 : UInt8) ∉ lineL n v := by
  obtain ⟨⟨h1, h2⟩, h3, h4⟩ := rightB_no h
  unfold lineL
  intro hm
  rcases List.mem_append.1 hm with hm | hm
  · exact h2 hm
  · rcases List.mem_cons.1 hm with hm | hm
    · exact absurd hm (by decide)
    · exact h4 hm
theorem parse_line {n v : ByteArray} (h : rightB n v = true) : parseL (lineL n v) = some (n, v) := by
  obtain ⟨⟨h1, h2⟩, h3, h4⟩ := rightB_no h
  unfold parseL lineL
  rw [cut_hit h1]
  dsimp only
  rw [ofL_eta, ofL_eta, h]
  rfl
theorem readS_lineT (m : FS) {n v : ByteArray} (h : rightB n v = true) (r : List UInt8) : readS m ((lineT n v).data.toList ++ r) = readS (lineSet m n v) r := by
  rw [lineT_data, List.append_assoc, List.singleton_append, readS_line m (lineL_no h), parse_line h]
theorem readS_one (m : FS) {n v : ByteArray} (h : rightB n v = true) : readS m (lineT n v).data.toList = lineSet m n v := by
  have := readS_lineT m h []
  rw [List.append_nil] at this
  rw [this]
  rfl
/-- Lines, one behind the other. -/
abbrev Ent := ByteArray × ByteArray
def encE (l : List Ent) : List UInt8 := l.flatMap fun e => (lineT e.1 e.2).data.toList
def setE (m : FS) (l : List Ent) : FS := l.foldl (fun m e => lineSet m e.1 e.2) m
def RightE (l : List Ent) : Prop := ∀ e ∈ l, rightB e.1 e.2 = true
theorem encE_append (a b : List Ent) : encE (a ++ b) = encE a ++ encE b := by unfold encE; rw [List.flatMap_append]
theorem setE_append (m : FS) (a b : List Ent) : setE m (a ++ b) = setE (setE m a) b := by unfold setE; rw [List.foldl_append]
theorem readS_enc : ∀ (l : List Ent) (m : FS) (r : List UInt8), RightE l → readS m (encE l ++ r) = readS (setE m l) r
  | [], _, _, _ => rfl
  | e :: l, m, r, h => by
    unfold encE
    rw [List.flatMap_cons, List.append_assoc, readS_lineT m (h e (by simp))]
    exact readS_enc l _ r (fun x hx => h x (by simp [hx]))
theorem readS_all (l : List Ent) (m : FS) (h : RightE l) : readS m (encE l) = setE m l := by
  have := readS_enc l m [] h
  rw [List.append_nil] at this
  rw [this, readS_nil]
theorem wholeL_enc : ∀ (l : List Ent) (r : List UInt8), RightE l → wholeL (encE l ++ r) = encE l ++ wholeL r
  | [], _, _ => rfl
  | e :: l, r, h => by
    have h1 := wholeL_enc l r (fun x hx => h x (by simp [hx]))
    unfold encE at *
    rw [List.flatMap_cons, List.append_assoc, lineT_data, List.append_assoc, List.singleton_append, wholeL_line, h1]
    simp

/-! ### what stands at a name -/
theorem lineSet_nodup {m : FS} (h : NodupK m) (n v : ByteArray) : NodupK (lineSet m n v) := by
  unfold lineSet
  split
  · exact h.del n
  · exact h.put n _
theorem lineSet_get (m : FS) (n v f : ByteArray) : fget (lineSet m n v) f = if f = n then (if v.size = 0 then none else some ⟨v, none⟩) else fget m f := by
  unfold lineSet
  split
  · rw [fget_del]
  · rw [fget_put]
theorem setE_nodup : ∀ (l : List Ent) {m : FS}, NodupK m → NodupK (setE m l)
  | [], _, h => h
  | e :: l, _, h => setE_nodup l (lineSet_nodup h e.1 e.2)
theorem readP_nodup : ∀ (ps : List (List UInt8)) {m : FS}, NodupK m → NodupK (readP m ps)
  | [], _, h => h
  | p :: ps, m, h => by
    unfold readP
    cases parseL p with
    | none => exact h
    | some x => exact readP_nodup ps (lineSet_nodup h x.1 x.2)
theorem readS_nodup {m : FS} (h : NodupK m) (s : List UInt8) : NodupK (readS m s) := readP_nodup _ h
end Go.Proofs.YtodmnogoacghpaaGreatDoor
