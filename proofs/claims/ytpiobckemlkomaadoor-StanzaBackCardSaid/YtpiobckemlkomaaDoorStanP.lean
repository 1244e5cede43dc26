/- Stanzas, in plain Lean: names, lines, what fields are written as, what a text is read as. -/
import Derived.Test.YtpiobckemlkomaaDoorSplitP
import Derived.Lib.SlTrimSet
namespace Go.Proofs.YtpiobckemlkomaaDoor
set_option maxRecDepth 10000

abbrev FieldD := ByteArray × ByteArray
def lowC (c : UInt8) : UInt8 := if 65 ≤ c.toNat ∧ c.toNat ≤ 90 then c + 32 else c
def smallB (s : ByteArray) : ByteArray := ofL (s.data.toList.map lowC)
def nameC (c : UInt8) : Bool := decide (33 ≤ c.toNat) && decide (c.toNat ≤ 126) && decide (c.toNat ≠ 58)
def nameS (s : ByteArray) : Bool := s.data.toList.all nameC && decide (1 ≤ s.size) && decide (s.size ≤ 24) && decide ((s.data.toList.headD 0).toNat ≠ 35) && decide ((s.data.toList.headD 0).toNat ≠ 45)
def lineC (c : UInt8) : Bool := (decide (32 ≤ c.toNat) || decide (c.toNat = 9)) && decide (c.toNat ≠ 127)
def trimB (s : ByteArray) : ByteArray := ofL (Lib.trimS s.data.toList [32, 9])
def lineS (s : ByteArray) : Bool := s.data.toList.all lineC && decide (trimB s = s)
def blankC (c : UInt8) : Bool := [32, 9].contains c

/-! ### what fields are written as -/
def restL (x : List UInt8) : List UInt8 := 32 :: ((if x.head? = some 46 then 46 :: x else x) ++ [10])
def firstL (n x : List UInt8) : List UInt8 := n ++ 58 :: ((if x = [] then [] else 32 :: x) ++ [10])
def fieldL (f : FieldD) : List UInt8 := firstL f.1.data.toList ((splitC 10 f.2.data.toList).headD []) ++ (splitC 10 f.2.data.toList).tail.flatMap restL
def textL (l : List FieldD) : List UInt8 := l.flatMap fieldL
def linesOk (v : ByteArray) : Bool := lineS (ofL ((splitC 10 v.data.toList).headD [])) && (splitC 10 v.data.toList).tail.all fun x => lineS (ofL x) && decide (x ≠ [])
def sameN (n : ByteArray) (f : FieldD) : Bool := decide (smallB f.1 = smallB n)
def rightOne (l : List FieldD) (i : Nat) : Bool := nameS (l.getD i default).1 && !(l.take i).any (sameN (l.getD i default).1) && linesOk (l.getD i default).2
def rightF (l : List FieldD) : Bool := decide (1 ≤ l.length) && decide (l.length ≤ 40) && (List.range l.length).all (rightOne l) && decide ((textL l).length ≤ 4000)
def getF (l : List FieldD) (n : ByteArray) : ByteArray × Bool := match l.find? (sameN n) with
  | some f => (f.2, true)
  | none => (⟨#[]⟩, false)

/-! ### what a text is read as -/
structure PS where
  outs : List (List FieldD)
  l : List FieldD
def flushP (st : PS) : PS := if st.l = [] then st else ⟨st.outs ++ [st.l], []⟩
def addL (l : List FieldD) (t : List UInt8) : List FieldD := l.dropLast ++ [((l.getLastD default).1, (l.getLastD default).2 ++ ofL (10 :: t))]
/-- A line that goes on with a field (t: without blanks at its ends). -/
def moreP (st : PS) (t : List UInt8) : Option PS :=
  if st.l = [] ∨ t.all lineC = false then none
  else if t.head? = some 46 then (if t.tail.head? = some 46 then some ⟨st.outs, addL st.l t.tail⟩ else none)
  else some ⟨st.outs, addL st.l t⟩
def fieldP (st : PS) (x : ByteArray) : Option PS :=
  let c := Lib.cut x.data.toList [58]
  if c.2.2 && nameS (ofL c.1) && lineS (trimB (ofL c.2.1)) && decide (st.l.length < 40) && !st.l.any (sameN (ofL c.1)) then some ⟨st.outs, st.l ++ [(ofL c.1, trimB (ofL c.2.1))]⟩ else none
def stepP (st : PS) (x : ByteArray) : Option PS :=
  if x.data.toList.head? = some 35 then some st
  else if trimB x = ⟨#[]⟩ then some (flushP st)
  else if blankC (x.data.toList.headD 0) then moreP st (trimB x).data.toList
  else fieldP st x
def foldP : PS → List ByteArray → Option PS
  | st, [] => some st
  | st, x :: xs => match stepP st x with
    | none => none
    | some st' => foldP st' xs
def PS.zero : PS := ⟨[], []⟩
theorem foldP_append : ∀ (xs ys : List ByteArray) (st : PS), foldP st (xs ++ ys) = (foldP st xs).bind (foldP · ys)
  | [], _, _ => rfl
  | x :: xs, ys, st => by
    show (match stepP st x with | none => none | some st' => foldP st' (xs ++ ys)) = Option.bind (match stepP st x with | none => none | some st' => foldP st' xs) _
    cases stepP st x with
    | none => rfl
    | some st' => exact foldP_append xs ys st'
theorem foldP_one (st : PS) (x : ByteArray) : foldP st [x] = stepP st x := by
  show (match stepP st x with | none => none | some st' => foldP st' []) = _
  cases stepP st x <;> rfl
theorem foldP_take (ls : List ByteArray) (st : PS) {i : Nat} (hi : i < ls.length) : foldP st (ls.take (i + 1)) = (foldP st (ls.take i)).bind (stepP · (ls.getD i ⟨#[]⟩)) := by
  rw [List.take_succ_eq_append_getElem hi, foldP_append]
  have e : ls.getD i ⟨#[]⟩ = ls[i] := by simp [List.getD_eq_getElem?_getD, hi]
  rw [e]
  congr 1
  funext st'
  exact foldP_one st' _
/-- The first line that is none. -/
def BadAt (ls : List ByteArray) (i : Nat) : Prop := i < ls.length ∧ ∃ st, foldP PS.zero (ls.take i) = some st ∧ stepP st (ls.getD i ⟨#[]⟩) = none
theorem BadAt.later {ls : List ByteArray} {i : Nat} (h : BadAt ls i) : ∀ j, i < j → foldP PS.zero (ls.take j) = none := by
  obtain ⟨hi, st, h1, h2⟩ := h
  intro j hj
  obtain ⟨d, rfl⟩ : ∃ d, j = (i + 1) + d := ⟨j - (i + 1), by omega⟩
  have h3 : foldP PS.zero (ls.take (i + 1)) = none := by
    rw [foldP_take ls _ hi, h1]
    exact h2
  rw [List.take_add, foldP_append, h3]
  rfl
theorem BadAt.all {ls : List ByteArray} {i : Nat} (h : BadAt ls i) : foldP PS.zero ls = none := by
  have := h.later ls.length h.1
  rwa [List.take_length] at this
theorem BadAt.uniq {ls : List ByteArray} {i j : Nat} (h : BadAt ls i) (g : BadAt ls j) : i = j := by
  rcases Nat.lt_trichotomy i j with k | k | k
  · obtain ⟨_, st, g1, _⟩ := g
    rw [h.later j k] at g1
    cases g1
  · exact k
  · obtain ⟨_, st, h1, _⟩ := h
    rw [g.later i k] at h1
    cases h1
def linesB (s : ByteArray) : List ByteArray := (splitC 10 s.data.toList).map ofL
/-- The stanzas that a text is, if each line may be. -/
def parseS (s : ByteArray) : Option (List (List FieldD)) := (foldP PS.zero (linesB s)).map fun st => (flushP st).outs
theorem step_empty (st : PS) : stepP st ⟨#[]⟩ = some (flushP st) := rfl

/-! ### blanks at the ends -/
theorem trimS_all {l : List UInt8} (p : UInt8 → Bool) (h : l.all p = true) (cs : List UInt8) : (Lib.trimS l cs).all p = true := by
  rw [List.all_eq_true] at h ⊢
  intro x hx
  refine h x ?_
  unfold Lib.trimS Lib.trimLeftS Lib.trimRightS at hx
  have h1 := List.dropWhile_sublist (l := (l.reverse.dropWhile (cs.contains ·)).reverse) (p := (cs.contains ·)) |>.subset hx
  have h2 := (List.mem_reverse.1 h1)
  exact List.mem_reverse.1 ((List.dropWhile_sublist (l := l.reverse) (p := (cs.contains ·))).subset h2)
theorem dropW_self {p : UInt8 → Bool} : ∀ {l : List UInt8}, (∀ x, l.head? = some x → p x = false) → l.dropWhile p = l
  | [], _ => rfl
  | x :: l, h => by rw [List.dropWhile_cons, if_neg (by rw [h x rfl]; decide)]
theorem dropW_head {p : UInt8 → Bool} : ∀ (l : List UInt8) (x : UInt8), (l.dropWhile p).head? = some x → p x = false
  | [], _, h => by cases h
  | y :: l, x, h => by
    rw [List.dropWhile_cons] at h
    by_cases hy : p y = true
    · rw [if_pos hy] at h
      exact dropW_head l x h
    · rw [if_neg hy] at h
      injection h with h
      rw [← h]
      exact Bool.eq_false_iff.2 hy
/-- No blank at either end: nothing is cut off. -/
theorem trimS_self {l cs : List UInt8} (h1 : ∀ x, l.head? = some x → cs.contains x = false) (h2 : ∀ x, l.getLast? = some x → cs.contains x = false) : Lib.trimS l cs = l := by
  unfold Lib.trimS Lib.trimLeftS Lib.trimRightS
  rw [dropW_self (l := l.reverse) (fun x hx => h2 x (by rw [List.head?_reverse] at hx; exact hx)), List.reverse_reverse, dropW_self h1]
theorem trimS_head (l cs : List UInt8) (x : UInt8) (h : (Lib.trimS l cs).head? = some x) : cs.contains x = false := dropW_head _ _ h
theorem dropW_last {p : UInt8 → Bool} : ∀ (l : List UInt8) (x : UInt8), (l.dropWhile p).getLast? = some x → l.getLast? = some x
  | [], _, h => h
  | y :: l, x, h => by
    rw [List.dropWhile_cons] at h
    by_cases hy : p y = true
    · rw [if_pos hy] at h
      have := dropW_last l x h
      rw [List.getLast?_cons, this]
      rfl
    · rw [if_neg hy] at h
      exact h
theorem trimS_last (l cs : List UInt8) (x : UInt8) (h : (Lib.trimS l cs).getLast? = some x) : cs.contains x = false := by
  have h1 := dropW_last _ _ h
  unfold Lib.trimRightS at h1
  rw [List.getLast?_reverse] at h1
  exact dropW_head _ _ h1
theorem trimS_trimS (l cs : List UInt8) : Lib.trimS (Lib.trimS l cs) cs = Lib.trimS l cs := trimS_self (trimS_head l cs) (trimS_last l cs)
theorem trimB_trimB (s : ByteArray) : trimB (trimB s) = trimB s := by
  unfold trimB
  rw [ofL_data, trimS_trimS]
theorem lineS_trim (s : ByteArray) : lineS (trimB s) = (trimB s).data.toList.all lineC := by
  unfold lineS
  rw [trimB_trimB]
  simp
/-- A line of two points or more, without the first. -/
theorem line_tail {t : List UInt8} {cs : List UInt8} (hcs : cs.contains 46 = false) (h : Lib.trimS t cs = t) (h2 : t.tail.head? = some 46) : Lib.trimS t.tail cs = t.tail := by
  cases t with
  | nil => cases h2
  | cons x t =>
    refine trimS_self (fun y hy => ?_) (fun y hy => ?_)
    · rw [List.tail_cons] at h2 hy
      rw [h2] at hy
      injection hy with hy
      rw [← hy]; exact hcs
    · refine trimS_last (x :: t) cs y ?_
      rw [h, List.getLast?_cons]
      rw [List.tail_cons] at hy
      rw [hy]
      rfl
end Go.Proofs.YtpiobckemlkomaaDoor
