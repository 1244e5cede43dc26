/- A text parted at one byte, in plain Lean: what strings.Split and strings.Cut hand back there. -/
import Derived.Lib.Split
import Derived.Lib.SplitLaws
import Derived.Lib.IndexMore
import Derived.Lib.IndexBytes
import Derived.Test.YtpiobckemlkomaaDoorBase
namespace Go.Proofs.YtpiobckemlkomaaDoor
open Go.Lib

def consHead (x : UInt8) : List (List UInt8) → List (List UInt8)
  | [] => [[x]]
  | p :: ps => (x :: p) :: ps
def splitC (c : UInt8) : List UInt8 → List (List UInt8)
  | [] => [[]]
  | x :: l => if x = c then [] :: splitC c l else consHead x (splitC c l)
def ofL (l : List UInt8) : ByteArray := ⟨l.toArray⟩
theorem ofL_data (l : List UInt8) : (ofL l).data.toList = l := rfl
theorem ofL_eta (s : ByteArray) : ofL s.data.toList = s := rfl
theorem ofL_size (l : List UInt8) : (ofL l).size = l.length := rfl

theorem splitC_no {c : UInt8} : ∀ {s : List UInt8}, c ∉ s → splitC c s = [s]
  | [], _ => rfl
  | x :: s, h => by
    have h1 : x ≠ c := fun e => h (by simp [e])
    have h2 : c ∉ s := fun e => h (by simp [e])
    unfold splitC
    rw [if_neg h1, splitC_no h2]
    rfl
theorem splitC_cons {c : UInt8} {b : List UInt8} : ∀ {a : List UInt8}, c ∉ a → splitC c (a ++ c :: b) = a :: splitC c b
  | [], _ => by
    show splitC c (c :: b) = _
    rw [splitC, if_pos rfl]
  | x :: a, h => by
    have h1 : x ≠ c := fun e => h (by simp [e])
    have h2 : c ∉ a := fun e => h (by simp [e])
    show splitC c (x :: (a ++ c :: b)) = _
    rw [splitC, if_neg h1, splitC_cons h2]
    rfl
/-- A text without the byte, or one that is parted at its first. -/
theorem parts1 (c : UInt8) : ∀ s : List UInt8, (c ∉ s ∧ index s [c] = -1) ∨ ∃ a b, s = a ++ c :: b ∧ c ∉ a ∧ index s [c] = (a.length : Int)
  | [] => Or.inl ⟨by simp, rfl⟩
  | x :: s => by
    by_cases e : x = c
    · subst e
      exact Or.inr ⟨[], s, rfl, by simp, by rw [index_one]; unfold indexByte; simp⟩
    · have hx : (x == c) = false := beq_eq_false_iff_ne.2 e
      rcases parts1 c s with ⟨h1, h2⟩ | ⟨a, b, h1, h2, h3⟩
      · left
        refine ⟨by simp [h1, Ne.symm e], ?_⟩
        rw [index_one] at h2 ⊢
        unfold indexByte
        simp [hx, h2]
      · right
        refine ⟨x :: a, b, by rw [h1]; rfl, by simp [h2, Ne.symm e], ?_⟩
        rw [index_one] at h3 ⊢
        unfold indexByte
        rw [hx, h3]
        have : ((a.length : Int) == -1) = false := beq_eq_false_iff_ne.2 (by omega)
        simp [this]
theorem cut_no {c : UInt8} {s : List UInt8} (h : c ∉ s) : cut s [c] = (s, [], false) := by
  rcases parts1 c s with ⟨_, h2⟩ | ⟨a, b, h1, _, _⟩
  · unfold cut
    rw [h2]
    rfl
  · exact absurd (by rw [h1]; simp) h
theorem cut_hit {c : UInt8} {a b : List UInt8} (h : c ∉ a) : cut (a ++ c :: b) [c] = (a, b, true) := by
  rcases parts1 c (a ++ c :: b) with ⟨h1, _⟩ | ⟨a', b', h1, h2, h3⟩
  · exact absurd (by simp) h1
  · have e : a' = a ∧ b' = b := by
      have g : splitC c (a ++ c :: b) = splitC c (a' ++ c :: b') := by rw [h1]
      rw [splitC_cons h, splitC_cons h2] at g
      injection g with g1 _
      subst g1
      have := List.append_cancel_left h1
      injection this with _ g2
      exact ⟨rfl, g2.symm⟩
    obtain ⟨rfl, rfl⟩ := e
    unfold cut
    rw [h3]
    simp
theorem splitK_one (c : UInt8) : ∀ (k : Nat) (s : List UInt8), s.count c ≤ k → splitK [c] 0 k s = splitC c s
  | 0, s, h => by
    have : c ∉ s := fun e => by have := List.count_pos_iff.2 e; omega
    rw [splitC_no this]
    rfl
  | k + 1, s, h => by
    rcases parts1 c s with ⟨h1, h2⟩ | ⟨a, b, h1, h2, h3⟩
    · rw [splitC_no h1]
      unfold splitK
      rw [h2]
      rfl
    · subst h1
      rw [splitC_cons h2]
      unfold splitK
      have hm : ((index (a ++ c :: b) [c]) == -1) = false := by rw [h3]; exact beq_eq_false_iff_ne.2 (by omega)
      rw [hm, h3]
      have e1 : (a ++ c :: b).take a.length = a := by simp
      have e2 : (a ++ c :: b).drop (a.length + 1) = b := by rw [← List.drop_drop]; simp
      have hk : b.count c ≤ k := by
        rw [List.count_append, List.count_cons_self] at h
        omega
      simp only [Bool.false_eq_true, if_false, Int.toNat_natCast, Nat.add_zero, List.length_singleton]
      rw [e1, e2, splitK_one c k b hk]
theorem split_one (c : UInt8) (s : ByteArray) : splitB ⟨#[c]⟩ 0 (countB s ⟨#[c]⟩) s = (splitC c s.data.toList).map ofL := by
  have h := splitB_data ⟨#[c]⟩ 0 (countB s ⟨#[c]⟩) s
  rw [show (ByteArray.mk #[c]).data.toList = [c] from rfl, splitK_one c _ _ (by unfold countB; rw [show (ByteArray.mk #[c]).data.toList = [c] from rfl, count_one]; exact Nat.le_refl _)] at h
  rw [← h, List.map_map]
  have : (ofL ∘ fun x : ByteArray => x.data.toList) = id := rfl
  rw [this, List.map_id]
theorem splitC_ne (c : UInt8) (s : List UInt8) : splitC c s ≠ [] := by
  cases s with
  | nil => simp [splitC]
  | cons x s =>
    unfold splitC
    split
    · simp
    · unfold consHead
      split <;> simp
end Go.Proofs.YtpiobckemlkomaaDoor
