/- What can be come to, by a table, in plain Lean. -/
import Derived.Test.YtnfnebfioibndaaSccO
namespace Go.Proofs.Ytnfnebfioibndaa
set_option maxRecDepth 10000

def fw (T : Nat → Nat → Bool) (k i j : Nat) : Bool := T i j || (T i k && T k j)
structure Table (E : Nat → Nat → Prop) (n : Nat) (T : Nat → Nat → Bool) (k : Nat) : Prop where
  sound : ∀ i j, i < n → j < n → T i j = true → Rch E i j
  refl : ∀ i, i < n → T i i = true
  edge : ∀ i j, E i j → T i j = true
  via : ∀ m, m < k → ∀ i j, i < n → j < n → T i m = true → T m j = true → T i j = true
theorem Table.step {E : Nat → Nat → Prop} {n k : Nat} {T : Nat → Nat → Bool} (h : Table E n T k) (hk : k < n) : Table E n (fw T k) (k + 1) := by
  have e1 : ∀ i j, fw T k i j = true ↔ (T i j = true ∨ (T i k = true ∧ T k j = true)) := fun i j => by simp [fw]
  refine ⟨fun i j hi hj hT => ?_, fun i hi => ?_, fun i j he => ?_, fun m hm i j hi hj h1 h2 => ?_⟩
  · rcases (e1 i j).1 hT with hT | ⟨h1, h2⟩
    · exact h.sound i j hi hj hT
    · exact (h.sound i k hi hk h1).trans (h.sound k j hk hj h2)
  · exact (e1 i i).2 (Or.inl (h.refl i hi))
  · exact (e1 i j).2 (Or.inl (h.edge i j he))
  · refine (e1 i j).2 ?_
    rcases (e1 i m).1 h1 with g1 | ⟨g1, g1'⟩ <;> rcases (e1 m j).1 h2 with g2 | ⟨g2, g2'⟩
    · rcases Nat.lt_or_ge m k with hmk | hmk
      · exact Or.inl (h.via m hmk i j hi hj g1 g2)
      · have e : m = k := by omega
        rw [e] at g1 g2
        exact Or.inr ⟨g1, g2⟩
    · refine Or.inr ⟨?_, g2'⟩
      rcases Nat.lt_or_ge m k with hmk | hmk
      · exact h.via m hmk i k hi hk g1 g2
      · have e : m = k := by omega
        rw [e] at g1
        exact g1
    · refine Or.inr ⟨g1, ?_⟩
      rcases Nat.lt_or_ge m k with hmk | hmk
      · exact h.via m hmk k j hk hj g1' g2
      · have e : m = k := by omega
        rw [e] at g2
        exact g2
    · exact Or.inr ⟨g1, g2'⟩
theorem Table.all {E : Nat → Nat → Prop} {n : Nat} {T : Nat → Nat → Bool} (h : Table E n T n) (hE : ∀ a b, E a b → a < n ∧ b < n) {i j : Nat} (hi : i < n) (hj : j < n) : T i j = true ↔ Rch E i j := by
  refine ⟨h.sound i j hi hj, fun hr => ?_⟩
  have : j < n → T i j = true := by
    induction hr with
    | refl => intro _; exact h.refl i hi
    | step _ e ih =>
      intro hc
      have hb := (hE _ _ e).1
      exact h.via _ hb i _ hi hc (ih hb hb) (h.edge _ _ e)
  exact this hj
/-- In the midst of a round: what is behind (a, b) is as it was. -/
def fwMix (T : Nat → Nat → Bool) (k a b : Nat) (i j : Nat) : Bool := if i < a ∨ (i = a ∧ j < b) then fw T k i j else T i j
theorem fw_col (T : Nat → Nat → Bool) (k i : Nat) : fw T k i k = T i k := by
  unfold fw
  cases T i k <;> simp
theorem fw_row (T : Nat → Nat → Bool) (k j : Nat) : fw T k k j = T k j := by
  unfold fw
  cases T k j <;> simp
theorem fwMix_col (T : Nat → Nat → Bool) (k a b i : Nat) : fwMix T k a b i k = T i k := by
  unfold fwMix
  split
  · exact fw_col T k i
  · rfl
theorem fwMix_row (T : Nat → Nat → Bool) (k a b j : Nat) : fwMix T k a b k j = T k j := by
  unfold fwMix
  split
  · exact fw_row T k j
  · rfl
theorem fwMix_at (T : Nat → Nat → Bool) (k a b : Nat) : (fwMix T k a b a b || (fwMix T k a b a k && fwMix T k a b k b)) = fw T k a b := by
  rw [fwMix_col, fwMix_row]
  have : fwMix T k a b a b = T a b := by
    unfold fwMix
    rw [if_neg (by omega)]
  rw [this]
  rfl
theorem fwMix_zero (T : Nat → Nat → Bool) (k : Nat) (i j : Nat) : fwMix T k 0 0 i j = T i j := by
  unfold fwMix
  rw [if_neg (by omega)]
theorem fwMix_next (T : Nat → Nat → Bool) (k a b i j : Nat) : fwMix T k a (b + 1) i j = if i = a ∧ j = b then fw T k a b else fwMix T k a b i j := by
  unfold fwMix
  by_cases h : i = a ∧ j = b
  · rw [if_pos h, if_pos (by omega), h.1, h.2]
  · rw [if_neg h]
    by_cases h2 : i < a ∨ (i = a ∧ j < b)
    · rw [if_pos h2, if_pos (by omega)]
    · rw [if_neg h2, if_neg (by omega)]
theorem fwMix_row_end (T : Nat → Nat → Bool) (k a n i j : Nat) (hj : j < n) : fwMix T k a n i j = fwMix T k (a + 1) 0 i j := by
  unfold fwMix
  by_cases h : i < a ∨ (i = a ∧ j < n)
  · rw [if_pos h, if_pos (by omega)]
  · rw [if_neg h, if_neg (by omega)]
theorem fwMix_end (T : Nat → Nat → Bool) (k n i j : Nat) (hi : i < n) : fwMix T k n 0 i j = fw T k i j := by
  unfold fwMix
  rw [if_pos (by omega)]
end Go.Proofs.Ytnfnebfioibndaa
