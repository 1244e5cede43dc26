/- stevedorekeep.lineup: a fact. -/
import Derived.Test.YtnfnebfioibndaaLine
import Derived.Test.YtnfnebfioibndaaHoldP
namespace Go.Proofs.Ytnfnebfioibndaa
open Go.RowKit
set_option maxRecDepth 100000
set_option maxHeartbeats 4000000

def upW : List EdgeD := [(3, 0), (1, 2), (2, 1)]
def upS : List EdgeD := [(2, 1)]
theorem up_ed (a b : Nat) : EdL (upW ++ upS) a b ↔ ((a = 3 ∧ b = 0) ∨ (a = 1 ∧ b = 2) ∨ (a = 2 ∧ b = 1)) := by
  unfold EdL upW upS
  simp
  omega
theorem up_rch (a b : Nat) : Rch (EdL (upW ++ upS)) a b ↔ (a = b ∨ (a = 3 ∧ b = 0) ∨ (a = 1 ∧ b = 2) ∨ (a = 2 ∧ b = 1)) := by
  constructor
  · intro h
    induction h with
    | refl => exact Or.inl rfl
    | step h e ih =>
      rw [up_ed] at e
      omega
  · rintro (rfl | h)
    · exact .refl _
    · exact Rch.one ((up_ed a b).2 h)
def upR : List (List Nat) := [[1, 2], [3], [0]]
theorem up_order : InOrder (EdL (upW ++ upS)) 4 upR := by
  intro k S hk
  match k with
  | 0 =>
    obtain rfl : [1, 2] = S := by simpa [upR] using hk
    refine ⟨⟨by simp, by decide, fun a ha b => ?_⟩, fun a ha => ⟨?_, ?_, fun j hj hu hr => ?_⟩, fun i hf a ha => ?_⟩
    · rw [up_rch, up_rch]; simp at ha ⊢; omega
    · simp at ha; omega
    · rintro ⟨T, hT, _⟩; simp at hT
    · rw [up_rch] at hr ⊢; simp at ha; omega
    · have ha : 1 = a := by simpa using ha
      rcases Nat.eq_zero_or_pos i with h0 | h0
      · exfalso
        have := hf.ahead 3 (by decide) (by rintro ⟨T, hT, _⟩; simp at hT) ((up_rch _ _).2 (by omega))
        rw [up_rch] at this
        omega
      · omega
  | 1 =>
    obtain rfl : [3] = S := by simpa [upR] using hk
    refine ⟨⟨by simp, by decide, fun a ha b => ?_⟩, fun a ha => ⟨?_, ?_, fun j hj hu hr => ?_⟩, fun i hf a ha => ?_⟩
    · rw [up_rch, up_rch]; simp at ha ⊢; omega
    · simp at ha; omega
    · rintro ⟨T, hT, hm⟩
      simp [upR] at hT
      subst hT
      simp at ha hm
      omega
    · rw [up_rch] at hr ⊢; simp at ha; omega
    · have ha : 3 = a := by simpa using ha
      have h0 : i ≠ 0 := by
        intro e
        have := hf.ahead 3 (by decide) (by rintro ⟨T, hT, hm⟩; simp [upR] at hT; subst hT; simp at hm) ((up_rch _ _).2 (by omega))
        rw [up_rch] at this
        omega
      have h1 : ¬ (i = 1 ∨ i = 2) := fun e => hf.un ⟨[1, 2], by simp [upR], by simp; exact e⟩
      omega
  | 2 =>
    obtain rfl : [0] = S := by simpa [upR] using hk
    refine ⟨⟨by simp, by decide, fun a ha b => ?_⟩, fun a ha => ⟨?_, ?_, fun j hj hu hr => ?_⟩, fun i hf a ha => ?_⟩
    · rw [up_rch, up_rch]; simp at ha ⊢; omega
    · simp at ha; omega
    · rintro ⟨T, hT, hm⟩
      simp [upR] at hT
      rcases hT with rfl | rfl
      · simp at ha hm; omega
      · simp at ha hm; omega
    · have : j ≠ 3 := fun e => hu ⟨[3], by simp [upR], by simp [e]⟩
      rw [up_rch] at hr ⊢; simp at ha; omega
    · have ha : 0 = a := by simpa using ha
      omega
  | k + 3 => simp [upR] at hk
theorem up_told : AllTold 4 upR := by
  intro i hi
  have : i = 0 ∨ i = 1 ∨ i = 2 ∨ i = 3 := by omega
  rcases this with rfl | rfl | rfl | rfl
  · exact ⟨[0], by simp [upR], by simp⟩
  · exact ⟨[1, 2], by simp [upR], by simp⟩
  · exact ⟨[1, 2], by simp [upR], by simp⟩
  · exact ⟨[3], by simp [upR], by simp⟩
theorem up_line : linesOf upS upR = [2, 1, 3, 0] := by decide

theorem up_fine : lineR ((4 : Nat) : Int) upW upS = (0, -1) := by decide
theorem up_edges (w : World) (b : Nat) (l : List EdgeD) (cs : Array Value) (hb : w.heap[b]? = some (.cells cs 38)) (hl : l.length ≤ 1000) (hc : ∀ i j, i < l.length → j < 2 → cs[i * 2 + j]? = some (edgeCell (l.getD i (0, 0)) j)) : Edges w (.slice (some ⟨b, 0, none⟩) l.length l.length) l :=
  ⟨_, _, rfl, Nat.le_refl _, by unfold maxLen; omega, Or.inr ⟨b, 0, rfl, lt_of_block hb, fun i j hi hj => by
    have := hc i j hi hj
    simp only [World.cell?, hb]
    simpa using this⟩⟩

theorem lineup_calls (w : World) : Calls Try.prog 8 #[] w fun e w' => e = .returned (.bool true) ∧ Below w.heap.size w w' := by
  go_enter Try.func8, Try.ntmps8
  go_wp2_with fail
  refine (line_calls _ _ upW upS ((4 : Nat) : Int) _ (up_edges _ w.heap.size upW #[.int .i64 3, .int .i64 0, .int .i64 1, .int .i64 2, .int .i64 2, .int .i64 1] ?_ (by decide) ?_) (up_edges _ (w.heap.size + 1) upS #[.int .i64 2, .int .i64 1] ?_ (by decide) ?_) (by decide) (by decide)).mono ?_
  · exact (Below.heap_alloc _ _ _ (by simp)).trans (heap_alloc_new w _)
  · intro i j hi hj
    have hi : i < 3 := hi
    have h1 : i = 0 ∨ i = 1 ∨ i = 2 := by omega
    have h2 : j = 0 ∨ j = 1 := by omega
    rcases h1 with rfl | rfl | rfl <;> rcases h2 with rfl | rfl <;> rfl
  · have := heap_alloc_new (w.alloc (.cells #[.int .i64 3, .int .i64 0, .int .i64 1, .int .i64 2, .int .i64 2, .int .i64 1] 38)) (.cells #[.int .i64 2, .int .i64 1] 38)
    simpa using this
  · intro i j hi hj
    have hi : i < 1 := hi
    have h1 : i = 0 := by omega
    have h2 : j = 0 ∨ j = 1 := by omega
    rcases h1 with rfl <;> rcases h2 with rfl | rfl <;> rfl
  rintro e w1 ⟨lv, ev, xs, rfl, hEv, hR, -, hg, hb⟩
  obtain rfl := hEv.fine up_fine
  obtain ⟨o1, g1, g2, rfl⟩ := hg up_fine 4 rfl
  obtain rfl := g1.eq up_order g2 up_told
  rw [up_line] at hR
  obtain ⟨lb, lo, lm, lc, rfl, hlm, -, hlc, hcm, hlb, hc⟩ := Row.form hR (by decide)
  obtain rfl : lm = 4 := hlm
  have c0 : w1.cell? ⟨lb, lo, none⟩ = some (.int .i64 2) := hc 0 (by decide)
  have c1 : w1.cell? ⟨lb, lo + 1, none⟩ = some (.int .i64 1) := hc 1 (by decide)
  have c2 : w1.cell? ⟨lb, lo + 2, none⟩ = some (.int .i64 3) := hc 2 (by decide)
  have c3 : w1.cell? ⟨lb, lo + 3, none⟩ = some (.int .i64 0) := hc 3 (by decide)
  have HB : Hid (Below w.heap.size w w1) := (((Below.refl _ _).alloc (Nat.le_refl _) _).alloc (by simp) _).trans (hb.mono (by simp; omega))
  clear hEv hR hg hb hc g1 g2
  go_wp2_with fail
  go_ret
  exact ⟨rfl, HB.out⟩
end Go.Proofs.Ytnfnebfioibndaa
