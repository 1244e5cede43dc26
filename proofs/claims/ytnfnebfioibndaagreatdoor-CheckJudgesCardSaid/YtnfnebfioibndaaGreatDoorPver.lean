/- The order of versions, in plain words: no Go in sight. -/
import Derived.Lib.Bytealg
import Derived.Lib.Small
import Derived.Lib.SlTrimSet
namespace Go.Proofs.YtnfnebfioibndaaGreatDoor
open Go.Lib

def dig (c : UInt8) : Bool := decide (48 ≤ c.toNat) && decide (c.toNat ≤ 57)
def ltr (c : UInt8) : Bool := (decide (97 ≤ c.toNat) && decide (c.toNat ≤ 122)) || (decide (65 ≤ c.toNat) && decide (c.toNat ≤ 90))
/-- A byte's place among others, as the program has it. -/
def wtB (c : UInt8) : Int := if dig c then 0 else if c.toNat = 126 then -1 else if ltr c then c.toNat else c.toNat + 256
def wt : List UInt8 → Int
  | [] => 0
  | c :: _ => wtB c
/-- .. and as the document's answer has it. -/
def rkB (c : UInt8) : Int := if dig c then 1 else if c.toNat = 126 then 0 else if ltr c then 2 + c.toNat else 300 + c.toNat
def rk : List UInt8 → Int
  | [] => 1
  | c :: _ => rkB c

theorem dig_iff (c : UInt8) : dig c = true ↔ 48 ≤ c.toNat ∧ c.toNat ≤ 57 := by simp [dig]
theorem ltr_iff (c : UInt8) : ltr c = true ↔ (97 ≤ c.toNat ∧ c.toNat ≤ 122) ∨ (65 ≤ c.toNat ∧ c.toNat ≤ 90) := by simp [ltr]

/-- One number out of the other. -/
def rkOf (x : Int) : Int := if x = 0 then 1 else if x < 0 then 0 else if x < 256 then 2 + x else 44 + x

theorem rkB_of (c : UInt8) : rkB c = rkOf (wtB c) ∧ -1 ≤ wtB c ∧ wtB c < 512 := by
  have h : ∀ n : Fin 256, rkB (UInt8.ofNat n) = rkOf (wtB (UInt8.ofNat n)) ∧ -1 ≤ wtB (UInt8.ofNat n) ∧ wtB (UInt8.ofNat n) < 512 := by decide +kernel
  have := h ⟨c.toNat, c.toNat_lt⟩
  simpa using this

theorem rk_of (a : List UInt8) : rk a = rkOf (wt a) ∧ -1 ≤ wt a ∧ wt a < 512 := by
  cases a with
  | nil => decide
  | cons c l => exact rkB_of c

theorem rkOf_lt {x y : Int} (hx : -1 ≤ x) (hy : -1 ≤ y) : (rkOf x < rkOf y ↔ x < y) ∧ (rkOf x = 1 ↔ x = 0) ∧ (rkOf x = rkOf y ↔ x = y) ∧ 0 ≤ rkOf x := by
  unfold rkOf
  refine ⟨?_, ?_, ?_, ?_⟩ <;> (repeat' split) <;> omega

theorem wt_ne {a : List UInt8} (h : wt a ≠ 0) : a ≠ [] := by
  rintro rfl
  exact h rfl

def strip0 (l : List UInt8) : List UInt8 := l.dropWhile (fun c => c.toNat == 48)

theorem dropWhile_le {α : Type} (p : α → Bool) (l : List α) : (l.dropWhile p).length ≤ l.length := by
  induction l with
  | nil => simp
  | cons c l ih =>
    rw [List.dropWhile_cons]
    split
    · rw [List.length_cons]; omega
    · exact Nat.le_refl _

/-- Where the digits begin, they go. -/
theorem dropWhile_lt {a : List UInt8} (h : wt a = 0) (ha : a ≠ []) : (a.dropWhile dig).length < a.length := by
  cases a with
  | nil => exact absurd rfl ha
  | cons c l =>
    have hd : dig c = true := by
      have := rkB_of c
      have h' : wtB c = 0 := h
      unfold wtB at h'
      by_cases hd : dig c = true
      · exact hd
      · exfalso
        rw [if_neg hd] at h'
        split at h'
        · omega
        · split at h'
          · rename_i hl
            have := (ltr_iff c).1 hl
            omega
          · omega
    rw [List.dropWhile_cons, if_pos hd, List.length_cons]
    have := dropWhile_le dig l
    omega

/-- The order of two parts. -/
def cmpV (a b : List UInt8) : Int :=
  if h : wt a ≠ 0 ∨ wt b ≠ 0 then
    if hw : wt a = wt b then cmpV a.tail b.tail else compareInt (wt a) (wt b)
  else if hn : a = [] ∧ b = [] then 0
  else if (strip0 (a.takeWhile dig)).length ≠ (strip0 (b.takeWhile dig)).length then compareInt (strip0 (a.takeWhile dig)).length (strip0 (b.takeWhile dig)).length
  else if compareBytes (strip0 (a.takeWhile dig)) (strip0 (b.takeWhile dig)) ≠ 0 then compareBytes (strip0 (a.takeWhile dig)) (strip0 (b.takeWhile dig))
  else cmpV (a.dropWhile dig) (b.dropWhile dig)
termination_by a.length + b.length
decreasing_by
  · have h1 : a ≠ [] := by
      rcases h with h | h
      · exact wt_ne h
      · exact wt_ne (by rw [hw]; exact h)
    have := List.length_pos_iff.2 h1
    rw [List.length_tail, List.length_tail]
    omega
  · have ha : wt a = 0 := by omega
    have hb : wt b = 0 := by omega
    have l1 := dropWhile_le dig a
    have l2 := dropWhile_le dig b
    by_cases h1 : a = []
    · have h2 : b ≠ [] := fun e => hn ⟨h1, e⟩
      have := dropWhile_lt hb h2
      omega
    · have := dropWhile_lt ha h1
      omega

theorem cmpV_nil : cmpV [] [] = 0 := by
  rw [cmpV]
  simp [wt]
theorem cmpV_diff {a b : List UInt8} (h : wt a ≠ wt b) : cmpV a b = compareInt (wt a) (wt b) := by
  rw [cmpV, dif_pos (by omega), dif_neg h]
theorem cmpV_skip {a b : List UInt8} (h : wt a ≠ 0) (hw : wt a = wt b) : cmpV a b = cmpV a.tail b.tail := by
  rw [cmpV, dif_pos (Or.inl h), dif_pos hw]
theorem cmpV_len {a b : List UInt8} (ha : wt a = 0) (hb : wt b = 0) (hl : (strip0 (a.takeWhile dig)).length ≠ (strip0 (b.takeWhile dig)).length) :
    cmpV a b = compareInt (strip0 (a.takeWhile dig)).length (strip0 (b.takeWhile dig)).length := by
  have hn : ¬ (a = [] ∧ b = []) := by
    rintro ⟨rfl, rfl⟩
    exact hl rfl
  rw [cmpV, dif_neg (by omega), dif_neg hn, if_pos hl]
theorem cmpV_num {a b : List UInt8} (ha : wt a = 0) (hb : wt b = 0) (hl : (strip0 (a.takeWhile dig)).length = (strip0 (b.takeWhile dig)).length)
    (hc : compareBytes (strip0 (a.takeWhile dig)) (strip0 (b.takeWhile dig)) ≠ 0) : cmpV a b = compareBytes (strip0 (a.takeWhile dig)) (strip0 (b.takeWhile dig)) := by
  have hn : ¬ (a = [] ∧ b = []) := by
    rintro ⟨rfl, rfl⟩
    exact hc (by decide)
  rw [cmpV, dif_neg (by omega), dif_neg hn, if_neg (by omega), if_pos hc]
theorem cmpV_next {a b : List UInt8} (ha : wt a = 0) (hb : wt b = 0) (hl : (strip0 (a.takeWhile dig)).length = (strip0 (b.takeWhile dig)).length)
    (hc : compareBytes (strip0 (a.takeWhile dig)) (strip0 (b.takeWhile dig)) = 0) : cmpV a b = cmpV (a.dropWhile dig) (b.dropWhile dig) := by
  by_cases hn : a = [] ∧ b = []
  · obtain ⟨rfl, rfl⟩ := hn
    rfl
  · rw [cmpV, dif_neg (by omega), dif_neg hn, if_neg (by omega), if_neg (by omega)]

theorem compareBytes_range : ∀ (a b : List UInt8), compareBytes a b = -1 ∨ compareBytes a b = 0 ∨ compareBytes a b = 1
  | [], [] => by simp [compareBytes]
  | [], _ :: _ => by simp [compareBytes]
  | _ :: _, [] => by simp [compareBytes]
  | a :: as, b :: bs => by
    unfold compareBytes
    split
    · exact Or.inl rfl
    · split
      · exact Or.inr (Or.inr rfl)
      · exact compareBytes_range as bs
theorem compareBytes_zero : ∀ (a b : List UInt8), compareBytes a b = 0 ↔ a = b
  | [], [] => by simp [compareBytes]
  | [], _ :: _ => by simp [compareBytes]
  | _ :: _, [] => by simp [compareBytes]
  | a :: as, b :: bs => by
    unfold compareBytes
    by_cases h1 : a < b
    · rw [if_pos h1]
      constructor
      · intro h; cases h
      · intro h
        injection h with h _
        subst h
        exact absurd h1 (UInt8.lt_irrefl a)
    · rw [if_neg h1]
      by_cases h2 : b < a
      · rw [if_pos h2]
        constructor
        · intro h; cases h
        · intro h
          injection h with h _
          subst h
          exact absurd h2 (UInt8.lt_irrefl a)
      · rw [if_neg h2, compareBytes_zero as bs]
        have : a = b := UInt8.le_antisymm (UInt8.not_lt.1 h2) (UInt8.not_lt.1 h1)
        subst this
        simp
theorem compareInt_range (x y : Int) : compareInt x y = -1 ∨ compareInt x y = 0 ∨ compareInt x y = 1 := by
  unfold compareInt
  split
  · exact Or.inl rfl
  · split
    · exact Or.inr (Or.inr rfl)
    · exact Or.inr (Or.inl rfl)
theorem compareInt_zero (x y : Int) : compareInt x y = 0 ↔ x = y := by
  unfold compareInt
  split
  · omega
  · split <;> omega

theorem cmpV_range (a b : List UInt8) : cmpV a b = -1 ∨ cmpV a b = 0 ∨ cmpV a b = 1 := by
  induction a, b using cmpV.induct with
  | case1 a b h hw ih => rw [cmpV, dif_pos h, dif_pos hw]; exact ih
  | case2 a b h hw => rw [cmpV, dif_pos h, dif_neg hw]; exact compareInt_range _ _
  | case3 a b h hn => rw [cmpV, dif_neg h, dif_pos hn]; exact Or.inr (Or.inl rfl)
  | case4 a b h hn hl => rw [cmpV, dif_neg h, dif_neg hn, if_pos hl]; exact compareInt_range _ _
  | case5 a b h hn hl hc => rw [cmpV, dif_neg h, dif_neg hn, if_neg hl, if_pos hc]; exact compareBytes_range _ _
  | case6 a b h hn hl hc ih => rw [cmpV, dif_neg h, dif_neg hn, if_neg hl, if_neg hc]; exact ih

/-- Versions: by the epoch, upstream, the revision. -/
def cmpVer (ea : Int) (ua ra : List UInt8) (eb : Int) (ub rb : List UInt8) : Int :=
  if compareInt ea eb ≠ 0 then compareInt ea eb else if cmpV ua ub ≠ 0 then cmpV ua ub else cmpV ra rb

theorem cmpVer_range (ea : Int) (ua ra : List UInt8) (eb : Int) (ub rb : List UInt8) : cmpVer ea ua ra eb ub rb = -1 ∨ cmpVer ea ua ra eb ub rb = 0 ∨ cmpVer ea ua ra eb ub rb = 1 := by
  unfold cmpVer
  split
  · exact compareInt_range _ _
  · split
    · exact cmpV_range _ _
    · exact cmpV_range _ _

def isOp (n op : Int) : Bool :=
  if op = 0 then true else if op = 1 then decide (n < 0) else if op = 2 then decide (n ≤ 0) else if op = 3 then n == 0 else if op = 4 then decide (0 ≤ n) else if op = 5 then decide (0 < n) else false

/-- What 'part' cuts off: the digits at the head. -/
theorem digits_head (a : List UInt8) : a.take (a.length - (a.dropWhile dig).length) = a.takeWhile dig ∧ a.drop (a.takeWhile dig).length = a.dropWhile dig := by
  have h := List.takeWhile_append_dropWhile (p := dig) (l := a)
  have hl := congrArg List.length h
  rw [List.length_append] at hl
  have key : ∀ x y : List UInt8, (x ++ y).take x.length = x ∧ (x ++ y).drop x.length = y := fun x y => by simp
  have k := key (a.takeWhile dig) (a.dropWhile dig)
  rw [h] at k
  have e : a.length - (a.dropWhile dig).length = (a.takeWhile dig).length := by omega
  rw [e]
  exact k

theorem contains_digits (c : UInt8) : ([48, 49, 50, 51, 52, 53, 54, 55, 56, 57] : List UInt8).contains c = dig c := by
  have h : ∀ n : Fin 256, ([48, 49, 50, 51, 52, 53, 54, 55, 56, 57] : List UInt8).contains (UInt8.ofNat n) = dig (UInt8.ofNat n) := by decide +kernel
  have := h ⟨c.toNat, c.toNat_lt⟩
  simpa using this
theorem contains_nought (c : UInt8) : ([48] : List UInt8).contains c = (c.toNat == 48) := by
  have h : ∀ n : Fin 256, ([48] : List UInt8).contains (UInt8.ofNat n) = ((UInt8.ofNat n).toNat == 48) := by decide +kernel
  have := h ⟨c.toNat, c.toNat_lt⟩
  simpa using this
theorem index_digits (c : UInt8) : decide (0 ≤ indexByte [48, 49, 50, 51, 52, 53, 54, 55, 56, 57] c) = dig c := by
  have h : ∀ n : Fin 256, decide (0 ≤ indexByte [48, 49, 50, 51, 52, 53, 54, 55, 56, 57] (UInt8.ofNat n)) = dig (UInt8.ofNat n) := by decide +kernel
  have := h ⟨c.toNat, c.toNat_lt⟩
  simpa using this
def lettersL : List UInt8 := [97, 98, 99, 100, 101, 102, 103, 104, 105, 106, 107, 108, 109, 110, 111, 112, 113, 114, 115, 116, 117, 118, 119, 120, 121, 122, 65, 66, 67, 68, 69, 70, 71, 72, 73, 74, 75, 76, 77, 78, 79, 80, 81, 82, 83, 84, 85, 86, 87, 88, 89, 90]
theorem index_letters (c : UInt8) : decide (0 ≤ indexByte lettersL c) = ltr c := by
  have h : ∀ n : Fin 256, decide (0 ≤ indexByte lettersL (UInt8.ofNat n)) = ltr (UInt8.ofNat n) := by decide +kernel
  have := h ⟨c.toNat, c.toNat_lt⟩
  simpa using this
end Go.Proofs.YtnfnebfioibndaaGreatDoor
