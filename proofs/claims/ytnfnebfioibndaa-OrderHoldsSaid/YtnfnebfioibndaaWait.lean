/- order.settle's test: does an edge hold a ring up? -/
import Derived.Test.YtnfnebfioibndaaOuts
import Derived.Test.YtnfnebfioibndaaFuncE
import Derived.Deep.QuietTactic
import Derived.BigQuiet
namespace Go.Proofs.Ytnfnebfioibndaa
open Go.RowKit
set_option maxRecDepth 100000
set_option maxHeartbeats 4000000

theorem wait_calls (x y i : Nat) (of_ : Nat → Nat) (done : Nat → Bool) (n s Bo O Bi Bd D : Nat) (w : World) (h1 : w.cell? ⟨Bo, 0, none⟩ = some (.slice (some ⟨O, 0, none⟩) n n)) (h2 : w.cell? ⟨Bi, 0, none⟩ = some (.int .i64 ((i : Nat) : Int))) (h3 : w.cell? ⟨Bd, 0, none⟩ = some (.slice (some ⟨D, 0, none⟩) s s))
    (hO : Nums w O n of_) (hD : Marks w D s done) (hx : x < n) (hy : y < n) (ho : of_ x < s) (hn : n ≤ 1000) (hs : s ≤ 1000) :
    Calls Try.prog 28 #[.agg #[.int .i64 ((x : Nat) : Int), .int .i64 ((y : Nat) : Int)], .pointer (some ⟨Bo, 0, none⟩), .pointer (some ⟨Bi, 0, none⟩), .pointer (some ⟨Bd, 0, none⟩)] w fun e w' => e = .returned (.bool (waitE of_ done i (((x : Nat) : Int), ((y : Nat) : Int)))) ∧ Below w.heap.size w w' := by
  have cx := hO.cell hx
  have cy := hO.cell hy
  have cd := hD.cell ho
  have lO := hO.lt
  have lD := hD.lt
  have lBo := World.block_lt_of_cell? w _ h1
  have lBi := World.block_lt_of_cell? w _ h2
  have lBd := World.block_lt_of_cell? w _ h3
  have hJ : Hid (waitE of_ done i (((x : Nat) : Int), ((y : Nat) : Int)) = (of_ y == i && (!(of_ x == i) && !done (of_ x)))) := by show _ = _; simp [waitE]
  obtain ⟨fx, hfx⟩ : ∃ fx, of_ x = fx := ⟨_, rfl⟩
  obtain ⟨fy, hfy⟩ : ∃ fy, of_ y = fy := ⟨_, rfl⟩
  rw [hfx] at cx cd ho hJ
  rw [hfy] at cy hJ
  obtain ⟨dx, hdx⟩ : ∃ dx, done fx = dx := ⟨_, rfl⟩
  rw [hdx] at cd hJ
  clear hfx hfy hdx hO hD
  by_cases a : fy = i
  · have a1 : (fy == i) = true := by rw [a]; simp
    have a2 : (((fy : Nat) : Int) == ((i : Nat) : Int)) = true := by rw [a]; simp
    have a3 : decide (((fy : Nat) : Int) = ((i : Nat) : Int)) = true := by rw [a]; simp
    rw [a1] at hJ
    clear a
    by_cases b : fx = i
    · have b1 : (fx == i) = true := by rw [b]; simp
      have b2 : (((fx : Nat) : Int) == ((i : Nat) : Int)) = true := by rw [b]; simp
      have b3 : (((fx : Nat) : Int) != ((i : Nat) : Int)) = false := by rw [b]; simp
      have b4 : (fx != i) = false := by rw [b]; simp
      rw [b1] at hJ
      clear b
      go_enter Try.func28, Try.ntmps28
      go_wp2_with fail
      go_quiet (fail)
      go_wp2_with fail
      go_returns
      exact ⟨by rw [hJ.out]; rfl, drewN_below ((Below.refl _ _).alloc (Nat.le_refl _) _) _⟩
    · have b1 : (fx == i) = false := by simpa using b
      have b2 : (((fx : Nat) : Int) == ((i : Nat) : Int)) = false := by rw [beq_eq_false_iff_ne]; omega
      have b3 : (((fx : Nat) : Int) != ((i : Nat) : Int)) = true := by rw [bne, b2]; rfl
      have b4 : (fx != i) = true := by rw [bne, b1]; rfl
      rw [b1] at hJ
      clear b
      go_enter Try.func28, Try.ntmps28
      go_wp2_with fail
      go_quiet (fail)
      go_wp2_with fail
      go_returns
      exact ⟨by rw [hJ.out]; rfl, drewN_below ((Below.refl _ _).alloc (Nat.le_refl _) _) _⟩
  · have a1 : (fy == i) = false := by simpa using a
    have a2 : (((fy : Nat) : Int) == ((i : Nat) : Int)) = false := by rw [beq_eq_false_iff_ne]; omega
    rw [a1] at hJ
    clear a
    go_enter Try.func28, Try.ntmps28
    go_wp2_with fail
    go_quiet (fail)
    go_wp2_with fail
    go_returns
    exact ⟨by rw [hJ.out]; rfl, drewN_below ((Below.refl _ _).alloc (Nat.le_refl _) _) _⟩
end Go.Proofs.Ytnfnebfioibndaa
