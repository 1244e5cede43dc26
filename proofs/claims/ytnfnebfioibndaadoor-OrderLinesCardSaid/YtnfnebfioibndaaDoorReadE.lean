/- Down from the row's reading to edges; what the variable Fine's reading says. -/
import Derived.Test.YtnfnebfioibndaaDoorRight
import Derived.Test.YtnfnebfioibndaaDoorLaid
import Derived.Deep.Strs
import Derived.Lay
namespace Go.Proofs.YtnfnebfioibndaaDoor
open Go.RowKit Go.ChangeShapes Go.WideShapes Go.ChangeAt

theorem re_cInt : Tryd.prog.cellsOf 3 = 1 := by kernel_rfl
section
variable {H : Type} {enc : TypeId × Value → H} {w : World} {base fuel : Nat} {sp : Nat → Bool} {held : Bool} {x : DataW H × List MemPlace}
theorem re_int {v : Value} (h : DataW.trod enc Tryd.prog w base sp held fuel 3 [v] = some x) : ∃ n : Int, v = .int .i64 n := by
  obtain ⟨n, h1, _, h2⟩ := DataW.trod_int Tryd.underlying3 h
  exact ⟨n, by simpa using h1⟩
theorem re_cEdge : Tryd.prog.cellsOf 98 = 2 := by kernel_rfl
theorem rd_refEdges {v : Value} (h : DataW.trod enc Tryd.prog w base sp held fuel 59 [v] = some x) : ∃ es, Edges w v es := by
  obtain ⟨n, m, R, hS, hE⟩ := open_sl Tryd.underlying59 re_cEdge (by decide) h
  obtain ⟨T, hT⟩ := Deep.choose_lt (α := EdgeD) (p := fun i e => R i 0 = .int .i64 e.1 ∧ R i 1 = .int .i64 e.2) (fun i (hi : i < n) => by
    obtain ⟨y, hy⟩ := hE i hi
    obtain ⟨y0, y1, n, _, _, h0, h1⟩ := trod_struct2 Tryd.underlying98 hy
    rw [re_cInt] at h0 h1
    obtain ⟨a, ha⟩ := re_int (v := R i 0) h0
    obtain ⟨b, hb⟩ := re_int (v := R i 1) h1
    exact ⟨(a, b), ha, hb⟩)
  refine ⟨(List.range n).map T, ?_⟩
  unfold Edges
  rw [List.length_map, List.length_range]
  refine hS.congr fun i j hi hj => ?_
  have hg : ((List.range n).map T).getD i (0, 0) = T i := by simp [List.getD, hi]
  rw [hg]
  match j, hj with
  | 0, _ => exact (hT i hi).1
  | 1, _ => exact (hT i hi).2
theorem fineE_cells {cs : List Value} {p : List MemPlace} (hd : DataW.trod enc Tryd.prog w base sp held fuel 62 cs = some (.agg [.lit (.int .i64 0), .lit (.int .i64 (-1))], p)) : cs[0]? = some (.int .i64 0) ∧ cs[1]? = some (.int .i64 (-1)) := by
  obtain ⟨y0, y1, n, hx, _, h0, h1⟩ := trod_struct2 Tryd.underlying62 hd
  have cE : Tryd.prog.cellsOf 22 = 1 := by kernel_rfl
  obtain ⟨z0, a0, b0, _⟩ := DataW.trod_int Tryd.underlying22 h0
  obtain ⟨z1, a1, b1, _⟩ := DataW.trod_int Tryd.underlying3 h1
  rw [cE] at a0
  rw [re_cInt] at a1
  subst b0 b1
  simp only [Prod.mk.injEq, DataW.agg.injEq, List.cons.injEq, DataW.lit.injEq, Lit.int.injEq, and_true, true_and] at hx
  have k0 : cs[0]? = some (.int .i64 z0) := seg_one (i := 0) a0
  have k1 : cs[1]? = some (.int .i64 z1) := seg_one (i := 1) a1
  rw [k0, k1]
  exact ⟨by rw [← hx.1.1], by rw [← hx.1.2]⟩
end
end Go.Proofs.YtnfnebfioibndaaDoor
