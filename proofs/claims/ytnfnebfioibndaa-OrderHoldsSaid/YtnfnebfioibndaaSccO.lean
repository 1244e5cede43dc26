/- Rings in order: which comes next, in plain Lean. -/
import Derived.Test.YtnfnebfioibndaaScc
namespace Go.Proofs.Ytnfnebfioibndaa
set_option maxRecDepth 10000

theorem Rch.ahead {E : Nat → Nat → Prop} {P : Nat → Prop} (hP : ∀ a b, E a b → P b → P a) {a b : Nat} (h : Rch E a b) (hb : P b) : P a := by
  induction h with
  | refl => exact hb
  | step _ e ih => exact ih (hP _ _ e hb)

theorem filter_le {α : Type} {p q : α → Bool} {l : List α} (h : ∀ x ∈ l, p x = true → q x = true) : (l.filter p).length ≤ (l.filter q).length := by
  induction l with
  | nil => exact Nat.le_refl _
  | cons a l ih =>
    have := ih (fun x hx => h x (List.mem_cons_of_mem _ hx))
    rw [List.filter_cons, List.filter_cons]
    cases hp : p a <;> cases hq : q a
    · simpa using this
    · simp; omega
    · rw [h a (List.mem_cons_self ..) hp] at hq; cases hq
    · simpa using this
theorem filter_lt {α : Type} {p q : α → Bool} {l : List α} (h : ∀ x ∈ l, p x = true → q x = true) {y : α} (hy : y ∈ l) (hq : q y = true) (hp : p y = false) : (l.filter p).length < (l.filter q).length := by
  induction l with
  | nil => cases hy
  | cons a l ih =>
    rw [List.filter_cons, List.filter_cons]
    rcases List.mem_cons.1 hy with rfl | hy
    · have := filter_le (fun x hx => h x (List.mem_cons_of_mem _ hx))
      rw [hq, hp]
      simp
      omega
    · have := ih (fun x hx => h x (List.mem_cons_of_mem _ hx)) hy
      cases hp : p a <;> cases hq : q a
      · simpa using this
      · simp; omega
      · rw [h a (List.mem_cons_self ..) hp] at hq; cases hq
      · simpa using this

def ToldIn (outs : List (List Nat)) (i : Nat) : Prop := ∃ S ∈ outs, i ∈ S
/-- Nobody untold comes ahead of it, but those of its own ring. -/
structure Free (E : Nat → Nat → Prop) (n : Nat) (outs : List (List Nat)) (i : Nat) : Prop where
  lt : i < n
  un : ¬ ToldIn outs i
  ahead : ∀ j, j < n → ¬ ToldIn outs j → Rch E j i → Rch E i j
/-- The ring that comes next. -/
structure Nxt (E : Nat → Nat → Prop) (n : Nat) (outs : List (List Nat)) (S : List Nat) : Prop where
  ring : Ring E S
  free : ∀ a ∈ S, Free E n outs a
  least : ∀ i, Free E n outs i → ∀ a, S.head? = some a → a ≤ i

theorem Ring.head {E : Nat → Nat → Prop} {S : List Nat} (h : Ring E S) : ∃ a, S.head? = some a ∧ a ∈ S ∧ ∀ b ∈ S, a ≤ b := by
  cases S with
  | nil => exact absurd rfl h.ne
  | cons a S =>
    refine ⟨a, rfl, List.mem_cons_self .., fun b hb => ?_⟩
    rcases List.mem_cons.1 hb with rfl | hb
    · exact Nat.le_refl _
    · exact Nat.le_of_lt ((List.pairwise_cons.1 h.sorted).1 b hb)
theorem sorted_ext {S T : List Nat} (hS : S.Pairwise (· < ·)) (hT : T.Pairwise (· < ·)) (h : ∀ x, x ∈ S ↔ x ∈ T) : S = T := by
  induction S generalizing T with
  | nil =>
    cases T with
    | nil => rfl
    | cons b T => exact absurd ((h b).2 (List.mem_cons_self ..)) (by simp)
  | cons a S ih =>
    cases T with
    | nil => exact absurd ((h a).1 (List.mem_cons_self ..)) (by simp)
    | cons b T =>
      rw [List.pairwise_cons] at hS hT
      have e : a = b := by
        have h1 := (h a).1 (List.mem_cons_self ..)
        have h2 := (h b).2 (List.mem_cons_self ..)
        rcases List.mem_cons.1 h1 with e | h1
        · exact e
        · rcases List.mem_cons.1 h2 with e | h2
          · exact e.symm
          · have := hS.1 b h2; have := hT.1 a h1; omega
      subst e
      congr 1
      refine ih hS.2 hT.2 fun x => ?_
      constructor
      · intro hx
        rcases List.mem_cons.1 ((h x).1 (List.mem_cons_of_mem _ hx)) with e | h'
        · have := hS.1 x hx; omega
        · exact h'
      · intro hx
        rcases List.mem_cons.1 ((h x).2 (List.mem_cons_of_mem _ hx)) with e | h'
        · have := hT.1 x hx; omega
        · exact h'
theorem Ring.eq {E : Nat → Nat → Prop} {S T : List Nat} (hS : Ring E S) (hT : Ring E T) {a : Nat} (h1 : a ∈ S) (h2 : a ∈ T) : S = T :=
  sorted_ext hS.sorted hT.sorted fun b => (hS.mem a h1 b).trans (hT.mem a h2 b).symm
theorem Nxt.eq {E : Nat → Nat → Prop} {n : Nat} {outs : List (List Nat)} {S T : List Nat} (h1 : Nxt E n outs S) (h2 : Nxt E n outs T) : S = T := by
  obtain ⟨a, ha, ha', _⟩ := h1.ring.head
  obtain ⟨b, hb, hb', _⟩ := h2.ring.head
  have e : a = b := Nat.le_antisymm (h1.least b (h2.free b hb') a ha) (h2.least a (h1.free a ha') b hb)
  subst e
  exact h1.ring.eq h2.ring ha' hb'

/-- Rings in order, so far. -/
def InOrder (E : Nat → Nat → Prop) (n : Nat) (outs : List (List Nat)) : Prop := ∀ k S, outs[k]? = some S → Nxt E n (outs.take k) S
def AllTold (n : Nat) (outs : List (List Nat)) : Prop := ∀ i, i < n → ToldIn outs i

theorem InOrder.nil (E : Nat → Nat → Prop) (n : Nat) : InOrder E n [] := fun k S h => by simp at h
theorem InOrder.snoc {E : Nat → Nat → Prop} {n : Nat} {outs : List (List Nat)} {S : List Nat} (h : InOrder E n outs) (hS : Nxt E n outs S) : InOrder E n (outs ++ [S]) := by
  intro k T hk
  rcases Nat.lt_or_ge k outs.length with hl | hl
  · rw [List.getElem?_append_left hl] at hk
    rw [List.take_append_of_le_length (by omega)]
    exact h k T hk
  · rw [List.getElem?_append_right hl] at hk
    rcases Nat.eq_zero_or_pos (k - outs.length) with e | e
    · rw [e] at hk
      have : T = S := by simpa using hk.symm
      rw [this, show k = outs.length by omega, List.take_left']
      · exact hS
      · rfl
    · rw [List.getElem?_eq_none (by simp; omega)] at hk
      cases hk
theorem told_snoc {outs : List (List Nat)} {S : List Nat} {i : Nat} : ToldIn (outs ++ [S]) i ↔ ToldIn outs i ∨ i ∈ S := by
  unfold ToldIn
  constructor
  · rintro ⟨T, hT, hi⟩
    rcases List.mem_append.1 hT with hT | hT
    · exact Or.inl ⟨T, hT, hi⟩
    · rw [List.mem_singleton.1 hT] at hi; exact Or.inr hi
  · rintro (⟨T, hT, hi⟩ | hi)
    · exact ⟨T, List.mem_append_left _ hT, hi⟩
    · exact ⟨S, by simp, hi⟩
theorem AllTold.no {E : Nat → Nat → Prop} {n : Nat} {outs : List (List Nat)} (h : AllTold n outs) {S : List Nat} (hS : Nxt E n outs S) : False := by
  obtain ⟨a, _, ha, _⟩ := hS.ring.head
  have := hS.free a ha
  exact this.un (h a this.lt)
/-- Two orders of all are one. -/
theorem InOrder.eq {E : Nat → Nat → Prop} {n : Nat} {l1 l2 : List (List Nat)} (h1 : InOrder E n l1) (h2 : InOrder E n l2) (a1 : AllTold n l1) (a2 : AllTold n l2) : l1 = l2 := by
  have key : ∀ k, l1.take k = l2.take k := by
    intro k
    induction k with
    | zero => rfl
    | succ k ih =>
      rw [List.take_add_one, List.take_add_one, ih]
      congr 1
      cases e1 : l1[k]? with
      | none =>
        cases e2 : l2[k]? with
        | none => rfl
        | some T =>
          have hN := h2 k T e2
          rw [← ih, List.take_of_length_le (List.getElem?_eq_none_iff.1 e1)] at hN
          exact (a1.no hN).elim
      | some S =>
        have hN := h1 k S e1
        cases e2 : l2[k]? with
        | none =>
          rw [ih, List.take_of_length_le (List.getElem?_eq_none_iff.1 e2)] at hN
          exact (a2.no hN).elim
        | some T =>
          have hM := h2 k T e2
          rw [ih] at hN
          rw [hN.eq hM]
  have := key (l1.length + l2.length)
  rwa [List.take_of_length_le (by omega), List.take_of_length_le (by omega)] at this

/-- What comes ahead of what is told is told. -/
theorem InOrder.pre {E : Nat → Nat → Prop} {n : Nat} {outs : List (List Nat)} (h : InOrder E n outs) (hE : ∀ a b, E a b → a < n) {a b : Nat} (he : E a b) (hb : ToldIn outs b) : ToldIn outs a := by
  obtain ⟨S, hS, hbS⟩ := hb
  obtain ⟨k, hk, rfl⟩ := List.getElem_of_mem hS
  have hN := h k outs[k] (List.getElem?_eq_getElem hk)
  have hF := hN.free b hbS
  by_cases ht : ToldIn (outs.take k) a
  · obtain ⟨T, hT, ha⟩ := ht
    exact ⟨T, List.mem_of_mem_take hT, ha⟩
  · have hr := hF.ahead a (hE a b he) ht (.one he)
    exact ⟨outs[k], hS, (hN.ring.mem b hbS a).2 ⟨hr, .one he⟩⟩

/-- There is one that comes next, while not all are told. -/
theorem free_exists {E : Nat → Nat → Prop} {n : Nat} {outs : List (List Nat)} {i : Nat} (hi : i < n) (hu : ¬ ToldIn outs i) : ∃ j, Free E n outs j := by
  classical
  obtain ⟨m, hm⟩ : ∃ m, ((List.range n).filter (fun j => decide (¬ ToldIn outs j ∧ Rch E j i))).length = m := ⟨_, rfl⟩
  induction m using Nat.strongRecOn generalizing i with
  | ind m ih =>
    by_cases hf : ∀ j, j < n → ¬ ToldIn outs j → Rch E j i → Rch E i j
    · exact ⟨i, hi, hu, hf⟩
    · have ⟨j, hj⟩ := Classical.not_forall.1 hf
      have ⟨hjn, hj⟩ := Classical.not_forall.1 hj
      have ⟨hju, hj⟩ := Classical.not_forall.1 hj
      have ⟨hji, hij⟩ := Classical.not_forall.1 hj
      refine ih _ ?_ hjn hju rfl
      rw [← hm]
      refine filter_lt (y := i) (fun x _ hx => ?_) (List.mem_range.2 hi) ?_ ?_
      · have hx := of_decide_eq_true hx
        exact decide_eq_true ⟨hx.1, hx.2.trans hji⟩
      · exact decide_eq_true ⟨hu, .refl _⟩
      · exact decide_eq_false fun hx => hij hx.2

/-- A ring whose edges from elsewhere come from what is told. -/
def Waits (E : Nat → Nat → Prop) (outs : List (List Nat)) (S : List Nat) : Prop := ∃ p q, E p q ∧ q ∈ S ∧ p ∉ S ∧ ¬ ToldIn outs p

theorem free_of_ring {E : Nat → Nat → Prop} {n : Nat} {outs : List (List Nat)} {S : List Nat} (h : InOrder E n outs) (hE : ∀ a b, E a b → a < n) (hS : Ring E S) (hn : ∀ a ∈ S, a < n) (hu : ∀ a ∈ S, ¬ ToldIn outs a) (hw : ¬ Waits E outs S) : ∀ a ∈ S, Free E n outs a := by
  intro a ha
  refine ⟨hn a ha, hu a ha, fun j hj hju hr => ?_⟩
  have : j ∈ S ∨ ToldIn outs j := by
    refine hr.ahead (P := fun x => x ∈ S ∨ ToldIn outs x) (fun x y he hy => ?_) (Or.inl ha)
    by_cases hx : x ∈ S
    · exact Or.inl hx
    · refine Or.inr ?_
      rcases hy with hy | hy
      · exact Classical.byContradiction fun hn => hw ⟨x, y, he, hy, hx, hn⟩
      · exact h.pre hE he hy
  rcases this with hm | hm
  · exact ((hS.mem a ha j).1 hm).1
  · exact absurd hm hju
theorem Free.not_waits {E : Nat → Nat → Prop} {n : Nat} {outs : List (List Nat)} {S : List Nat} (hE : ∀ a b, E a b → a < n) (hS : Ring E S) {a : Nat} (ha : a ∈ S) (hf : Free E n outs a) : ¬ Waits E outs S := by
  rintro ⟨p, q, he, hq, hp, hu⟩
  have hqa := (hS.mem q hq a).1 ha
  have hpa := Rch.front he hqa.1
  exact hp ((hS.mem a ha p).2 ⟨hf.ahead p (hE p q he) hu hpa, hpa⟩)
/-- Of some rings that hold all, the one with the least head of those that wait for none is the next. -/
theorem nxt_of_best {E : Nat → Nat → Prop} {n : Nat} {outs sets : List (List Nat)} (h : InOrder E n outs) (hE : ∀ a b, E a b → a < n) (hR : ∀ S ∈ sets, Ring E S) (hn : ∀ S ∈ sets, ∀ a ∈ S, a < n) (hall : AllTold n sets)
    {S : List Nat} (hS : S ∈ sets) (hu : ∀ a ∈ S, ¬ ToldIn outs a) (hw : ¬ Waits E outs S)
    (hb : ∀ T ∈ sets, (∀ a ∈ T, ¬ ToldIn outs a) → ¬ Waits E outs T → ∀ a b, S.head? = some a → T.head? = some b → a ≤ b) : Nxt E n outs S := by
  refine ⟨hR S hS, free_of_ring h hE (hR S hS) (hn S hS) hu hw, fun i hi a ha => ?_⟩
  obtain ⟨T, hT, hiT⟩ := hall i hi.lt
  have hTR := hR T hT
  obtain ⟨b, hb1, hb2, hb3⟩ := hTR.head
  have hTu : ∀ x ∈ T, ¬ ToldIn outs x := by
    rintro x hx ⟨U, hU, hxU⟩
    obtain ⟨k, hk, rfl⟩ := List.getElem_of_mem hU
    have hUR := (h k outs[k] (List.getElem?_eq_getElem hk)).ring
    have := hUR.eq hTR hxU hx
    exact hi.un ⟨outs[k], hU, by rw [this]; exact hiT⟩
  exact Nat.le_trans (hb T hT hTu (hi.not_waits hE hTR hiT) a b ha hb1) (hb3 i hiT)
/-- The document's: the least that is free, with all that are come to both ways. -/
theorem nxt_of_least {E : Nat → Nat → Prop} {n : Nat} {outs : List (List Nat)} {i : Nat} {S : List Nat} (hE : ∀ a b, E a b → a < n ∧ b < n) (hf : Free E n outs i) (hl : ∀ j, j < i → ¬ Free E n outs j) (hs : S.Pairwise (· < ·)) (hm : ∀ j, j ∈ S ↔ (j < n ∧ Rch E i j ∧ Rch E j i))
    (hto : ∀ a b, ToldIn outs a → Rch E a b → Rch E b a → ToldIn outs b) : Nxt E n outs S := by
  have hi : i ∈ S := (hm i).2 ⟨hf.lt, .refl _, .refl _⟩
  have hring : Ring E S := by
    refine ⟨(fun e => by rw [e] at hi; cases hi), hs, fun a ha b => ?_⟩
    obtain ⟨_, ha1, ha2⟩ := (hm a).1 ha
    constructor
    · intro hb
      obtain ⟨_, hb1, hb2⟩ := (hm b).1 hb
      exact ⟨ha2.trans hb1, hb2.trans ha1⟩
    · rintro ⟨h1, h2⟩
      refine (hm b).2 ⟨?_, ha1.trans h1, h2.trans ha2⟩
      exact (ha1.trans h1).keeps (P := fun x => x < n) (fun x y _ he => (hE x y he).2) hf.lt
  have hfree : ∀ a ∈ S, Free E n outs a := by
    intro a ha
    obtain ⟨han, h1, h2⟩ := (hm a).1 ha
    exact ⟨han, fun ht => hf.un (hto a i ht h2 h1), fun j hj hju hr => h2.trans (hf.ahead j hj hju (hr.trans h2))⟩
  refine ⟨hring, hfree, fun j hj a ha => ?_⟩
  obtain ⟨a', ha1, ha2, _⟩ := hring.head
  rw [ha] at ha1
  injection ha1 with e
  subst e
  exact Classical.byContradiction fun hn => hl j (by
    have hai : a ≤ i := by
      obtain ⟨a'', hb1, _, hb3⟩ := hring.head
      rw [ha] at hb1
      injection hb1 with e
      subst e
      exact hb3 i hi
    omega) hj
theorem InOrder.both {E : Nat → Nat → Prop} {n : Nat} {outs : List (List Nat)} (h : InOrder E n outs) (a b : Nat) (ha : ToldIn outs a) (h1 : Rch E a b) (h2 : Rch E b a) : ToldIn outs b := by
  obtain ⟨S, hS, haS⟩ := ha
  obtain ⟨k, hk, rfl⟩ := List.getElem_of_mem hS
  exact ⟨outs[k], hS, (((h k outs[k] (List.getElem?_eq_getElem hk)).ring).mem a haS b).2 ⟨h1, h2⟩⟩
end Go.Proofs.Ytnfnebfioibndaa
