/- What the variable Fine's reading says. -/
import Derived.Test.YtpiobckemlkomaaDoorStanS
import Derived.Test.YtpiobckemlkomaaDoorLaid
import Derived.Lay
namespace Go.Proofs.YtpiobckemlkomaaDoor
open Go.RowKit Go.ChangeShapes Go.WideShapes Go.ChangeAt

theorem re_cInt : Tryd.prog.cellsOf 3 = 1 := by kernel_rfl
section
variable {H : Type} {enc : TypeId × Value → H} {w : World} {base fuel : Nat} {sp : Nat → Bool} {held : Bool}
theorem fineE_cells {cs : List Value} {p : List MemPlace} (hd : DataW.trod enc Tryd.prog w base sp held fuel 25 cs = some (.agg [.lit (.int .i64 0), .lit (.int .i64 (-1))], p)) : cs[0]? = some (.int .i64 0) ∧ cs[1]? = some (.int .i64 (-1)) := by
  obtain ⟨y0, y1, n, hx, _, h0, h1⟩ := trod_struct2 Tryd.underlying25 hd
  have cE : Tryd.prog.cellsOf 23 = 1 := by kernel_rfl
  obtain ⟨z0, a0, b0, _⟩ := DataW.trod_int Tryd.underlying23 h0
  obtain ⟨z1, a1, b1, _⟩ := DataW.trod_int Tryd.underlying3 h1
  rw [cE] at a0
  rw [re_cInt] at a1
  subst b0 b1
  simp only [Prod.mk.injEq, DataW.agg.injEq, List.cons.injEq, DataW.lit.injEq, Lit.int.injEq, and_true, true_and] at hx
  have k0 : cs[0]? = some (.int .i64 z0) := seg_one (i := 0) a0
  have k1 : cs[1]? = some (.int .i64 z1) := seg_one (i := 1) a1
  rw [k0, k1]
  exact ⟨by rw [← hx.1.1], by rw [← hx.1.2]⟩
end
end Go.Proofs.YtpiobckemlkomaaDoor
