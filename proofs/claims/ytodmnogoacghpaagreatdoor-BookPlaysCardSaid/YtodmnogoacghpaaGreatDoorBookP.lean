/- A book, in plain Lean: lines, what a text of lines says, what is written. -/
import Derived.Test.YtodmnogoacghpaaGreatDoorAny
import Derived.Test.YtodmnogoacghpaaGreatDoorKeepQ
namespace Go.Proofs.YtodmnogoacghpaaGreatDoor
set_option maxRecDepth 10000

def rightB (n v : ByteArray) : Bool := decide (1 ≤ n.size) && decide (n.size ≤ 24) && decide (v.size ≤ 300) && !hasTL (n ++ v).data.toList
def lineT (n v : ByteArray) : ByteArray := n ++ ⟨#[9]⟩ ++ v ++ ⟨#[10]⟩
/-- What is written at names: as a disk's files, none of them safe. -/
def lineSet (m : FS) (n v : ByteArray) : FS := if v.size = 0 then fdel m n else fput m n ⟨v, none⟩
def parseL (p : List UInt8) : Option (ByteArray × ByteArray) :=
  if (Lib.cut p [9]).2.2 && rightB (ofL (Lib.cut p [9]).1) (ofL (Lib.cut p [9]).2.1) then some (ofL (Lib.cut p [9]).1, ofL (Lib.cut p [9]).2.1) else none
def readP : FS → List (List UInt8) → FS
  | m, [] => m
  | m, p :: ps => match parseL p with
    | none => m
    | some x => readP (lineSet m x.1 x.2) ps
def readS (m : FS) (s : List UInt8) : FS := readP m (splitC 10 s).dropLast
theorem readS_nil (m : FS) : readS m [] = m := rfl
theorem readS_no (m : FS) {s : List UInt8} (h : (10 : UInt8) ∉ s) : readS m s = m := by
  unfold readS
  rw [splitC_no h]
  rfl
theorem readS_line (m : FS) {p r : List UInt8} (h : (10 : UInt8) ∉ p) : readS m (p ++ 10 :: r) = match parseL p with
    | none => m
    | some x => readS (lineSet m x.1 x.2) r := by
  unfold readS
  rw [splitC_cons h, List.dropLast_cons_of_ne_nil (splitC_ne 10 r)]
  rfl
/-- All ahead of a line that is not whole. -/
def wholeL : List UInt8 → List UInt8
  | [] => []
  | b :: s => if (10 : UInt8) ∈ b :: s then b :: wholeL s else []
theorem wholeL_cons (b : UInt8) (s : List UInt8) : wholeL (b :: s) = if (10 : UInt8) ∈ b :: s then b :: wholeL s else [] := rfl
theorem wholeL_no {s : List UInt8} (h : (10 : UInt8) ∉ s) : wholeL s = [] := by
  cases s with
  | nil => rfl
  | cons b s => unfold wholeL; rw [if_neg h]
theorem wholeL_line {r : List UInt8} : ∀ (p : List UInt8), wholeL (p ++ 10 :: r) = p ++ 10 :: wholeL r
  | [] => by
    show wholeL (10 :: r) = _
    rw [wholeL_cons, if_pos (by simp)]
    rfl
  | b :: p => by
    show wholeL (b :: (p ++ 10 :: r)) = _
    rw [wholeL_cons, if_pos (by simp), wholeL_line p]
    rfl
theorem wholeL_take : ∀ (s : List UInt8) (i : Nat), i < s.length → s[i]? = some 10 → (∀ j, i < j → s[j]? ≠ some 10) → wholeL s = s.take (i + 1)
  | [], i, h, _, _ => by simp at h
  | b :: s, i, h, hi, hj => by
    have hm : (10 : UInt8) ∈ b :: s := List.mem_of_getElem? hi
    unfold wholeL
    rw [if_pos hm]
    cases i with
    | zero =>
      have hno : (10 : UInt8) ∉ s := fun hm => by
        obtain ⟨k, hk⟩ := List.mem_iff_getElem?.1 hm
        exact hj (k + 1) (by omega) (by simpa using hk)
      rw [wholeL_no hno]
      rfl
    | succ i =>
      rw [wholeL_take s i (by simpa using h) (by simpa using hi) (fun j hij => by simpa using hj (j + 1) (by omega))]
      rfl
theorem readS_whole (m : FS) (s : List UInt8) : readS m (wholeL s) = readS m s := by
  have key : ∀ (n : Nat) (s : List UInt8), s.length ≤ n → ∀ m, readS m (wholeL s) = readS m s := by
    intro n
    induction n with
    | zero => intro s hs m; rw [List.length_eq_zero_iff.1 (Nat.le_zero.1 hs)]; rfl
    | succ n ih =>
      intro s hs m
      rcases parts1 10 s with ⟨h1, _⟩ | ⟨p, r, h1, h2, _⟩
      · rw [wholeL_no h1, readS_no m h1]; rfl
      · subst h1
        rw [wholeL_line p, readS_line m h2, readS_line m h2]
        cases parseL p with
        | none => rfl
        | some x => exact ih r (by simp at hs; omega) _
  exact key s.length s (Nat.le_refl _) m

/-! ### a line that is written -/
theorem hasTL_mem {l : List UInt8} : hasTL l = false ↔ (9 : UInt8) ∉ l ∧ (10 : UInt8) ∉ l := by
  unfold hasTL
  rw [List.any_eq_false]
  constructor
  · intro h
    exact ⟨fun hm => h _ hm (by decide), fun hm => h _ hm (by decide)⟩
  · rintro ⟨h1, h2⟩ b hb
    have e1 : b ≠ 9 := fun e => h1 (by rw [← e]; exact hb)
    have e2 : b ≠ 10 := fun e => h2 (by rw [← e]; exact hb)
    simp [e1, e2]
theorem rightB_no {n v : ByteArray} (h : rightB n v = true) : ((9 : UInt8) ∉ n.data.toList ∧ (10 : UInt8) ∉ n.data.toList) ∧ (9 : UInt8) ∉ v.data.toList ∧ (10 : UInt8) ∉ v.data.toList := by
  unfold rightB at h
  simp only [Bool.and_eq_true, Bool.not_eq_true'] at h
  have := hasTL_mem.1 h.2
  rw [dataA] at this
  simp only [List.mem_append, not_or] at this
  exact ⟨⟨this.1.1, this.2.1⟩, this.1.2, this.2.2⟩
theorem rightB_size {n v : ByteArray} (h : rightB n v = true) : 1 ≤ n.size ∧ n.size ≤ 24 ∧ v.size ≤ 300 := by
  unfold rightB at h
  simp only [Bool.and_eq_true, decide_eq_true_eq] at h
  exact ⟨h.1.1.1, h.1.1.2, h.1.2⟩
def lineL (n v : ByteArray) : List UInt8 := n.data.toList ++ 9 :: v.data.toList
theorem lineT_data (n v : ByteArray) : (lineT n v).data.toList = lineL n v ++ [10] := by
  unfold lineT lineL
  rw [dataA, dataA, dataA]
  simp
theorem lineL_no {n v : ByteArray} (h : rightB n v = true) : (10 : UInt8) ∉ lineL n v := by
  obtain ⟨⟨h1, h2⟩, h3, h4⟩ := rightB_no h
  unfold lineL
  intro hm
  rcases List.mem_append.1 hm with hm | hm
  · exact h2 hm
  · rcases List.mem_cons.1 hm with hm | hm
    · exact absurd hm (by decide)
    · exact h4 hm
theorem parse_line {n v : ByteArray} (h : rightB n v = true) : parseL (lineL n v) = some (n, v) := by
  obtain ⟨⟨h1, h2⟩, h3, h4⟩ := rightB_no h
  unfold parseL lineL
  rw [cut_hit h1]
  dsimp only
  rw [ofL_eta, ofL_eta, h]
  rfl
theorem readS_lineT (m : FS) {n v : ByteArray} (h : rightB n v = true) (r : List UInt8) : readS m ((lineT n v).data.toList ++ r) = readS (lineSet m n v) r := by
  rw [lineT_data, List.append_assoc, List.singleton_append, readS_line m (lineL_no h), parse_line h]
theorem readS_one (m : FS) {n v : ByteArray} (h : rightB n v = true) : readS m (lineT n v).data.toList = lineSet m n v := by
  have := readS_lineT m h []
  rw [List.append_nil] at this
  rw [this]
  rfl
/-- Lines, one behind the other. -/
abbrev Ent := ByteArray × ByteArray
def encE (l : List Ent) : List UInt8 := l.flatMap fun e => (lineT e.1 e.2).data.toList
def setE (m : FS) (l : List Ent) : FS := l.foldl (fun m e => lineSet m e.1 e.2) m
def RightE (l : List Ent) : Prop := ∀ e ∈ l, rightB e.1 e.2 = true
theorem encE_append (a b : List Ent) : encE (a ++ b) = encE a ++ encE b := by unfold encE; rw [List.flatMap_append]
theorem setE_append (m : FS) (a b : List Ent) : setE m (a ++ b) = setE (setE m a) b := by unfold setE; rw [List.foldl_append]
theorem readS_enc : ∀ (l : List Ent) (m : FS) (r : List UInt8), RightE l → readS m (encE l ++ r) = readS (setE m l) r
  | [], _, _, _ => rfl
  | e :: l, m, r, h => by
    unfold encE
    rw [List.flatMap_cons, List.append_assoc, readS_lineT m (h e (by simp))]
    exact readS_enc l _ r (fun x hx => h x (by simp [hx]))
theorem readS_all (l : List Ent) (m : FS) (h : RightE l) : readS m (encE l) = setE m l := by
  have := readS_enc l m [] h
  rw [List.append_nil] at this
  rw [this, readS_nil]
theorem wholeL_enc : ∀ (l : List Ent) (r : List UInt8), RightE l → wholeL (encE l ++ r) = encE l ++ wholeL r
  | [], _, _ => rfl
  | e :: l, r, h => by
    have h1 := wholeL_enc l r (fun x hx => h x (by simp [hx]))
    unfold encE at *
    rw [List.flatMap_cons, List.append_assoc, lineT_data, List.append_assoc, List.singleton_append, wholeL_line, h1]
    simp

/-! ### what stands at a name -/
theorem lineSet_nodup {m : FS} (h : NodupK m) (n v : ByteArray) : NodupK (lineSet m n v) := by
  unfold lineSet
  split
  · exact h.del n
  · exact h.put n _
theorem lineSet_get (m : FS) (n v f : ByteArray) : fget (lineSet m n v) f = if f = n then (if v.size = 0 then none else some ⟨v, none⟩) else fget m f := by
  unfold lineSet
  split
  · rw [fget_del]
  · rw [fget_put]
theorem setE_nodup : ∀ (l : List Ent) {m : FS}, NodupK m → NodupK (setE m l)
  | [], _, h => h
  | e :: l, _, h => setE_nodup l (lineSet_nodup h e.1 e.2)
theorem readP_nodup : ∀ (ps : List (List UInt8)) {m : FS}, NodupK m → NodupK (readP m ps)
  | [], _, h => h
  | p :: ps, m, h => by
    unfold readP
    cases parseL p with
    | none => exact h
    | some x => exact readP_nodup ps (lineSet_nodup h x.1 x.2)
theorem readS_nodup {m : FS} (h : NodupK m) (s : List UInt8) : NodupK (readS m s) := readP_nodup _ h
end Go.Proofs.YtodmnogoacghpaaGreatDoor
