/- Down from the row's reading to the acts of the keep. -/
import Derived.Test.YtodmnogoacghpaaDoorKeepL
import Derived.Deep.Strs
import Derived.Lib.SmallJoins
import Derived.OpenShut
namespace Go.Proofs.YtodmnogoacghpaaDoor
open Go.RowKit Go.ChangeShapes Go.WideShapes Go.ChangeAt

theorem ra_cInt : Tryd.prog.cellsOf 3 = 1 := by kernel_rfl
theorem ra_cAct : Tryd.prog.cellsOf 58 = 4 := by kernel_rfl
section
variable {H : Type} {enc : TypeId × Value → H} {w : World} {base fuel : Nat} {sp : Nat → Bool} {held : Bool} {x : DataW H × List MemPlace}
theorem ra_int {v : Value} (h : DataW.trod enc Tryd.prog w base sp held fuel 3 [v] = some x) : ∃ n : Int, v = .int .i64 n ∧ InI n := by
  obtain ⟨n, h1, _, h2⟩ := DataW.trod_int Tryd.underlying3 h
  exact ⟨n, by simpa using h1, bounds_i64 h2⟩
theorem rd_actsK {v : Value} (h : DataW.trod enc Tryd.prog w base sp held fuel 53 [v] = some x) : ∃ l, ActsK w v l := by
  obtain ⟨n, m, R, hS, hE⟩ := open_sl Tryd.underlying53 ra_cAct (by decide) h
  obtain ⟨T, hT⟩ := Deep.choose_lt (α := ActK) (p := fun i a => (∀ j, j < 4 → R i j = actK a j) ∧ ActKOk a) (fun i (hi : i < n) => by
    obtain ⟨y, hy⟩ := hE i hi
    obtain ⟨y0, y1, y2, y3, n, _, _, h0, h1, h2, h3⟩ := Joins.trod_struct4 Tryd.underlying58 hy
    rw [ra_cInt] at h0 h1 h2 h3
    obtain ⟨a, ha, k0⟩ := ra_int (v := R i 0) h0
    obtain ⟨b, hb, k1⟩ := ra_int (v := R i 1) h1
    obtain ⟨c, hc, k2⟩ := ra_int (v := R i 2) h2
    obtain ⟨d, hd, k3⟩ := ra_int (v := R i 3) h3
    refine ⟨((a, b), (c, d)), fun j hj => ?_, k0, k1, k2, k3⟩
    match j, hj with
    | 0, _ => exact ha
    | 1, _ => exact hb
    | 2, _ => exact hc
    | 3, _ => exact hd)
  refine ⟨(List.range n).map T, ?_, fun a ha => ?_⟩
  · rw [List.length_map, List.length_range]
    refine hS.congr fun i j hi hj => ?_
    have hg : ((List.range n).map T).getD i noK = T i := by simp [List.getD, hi]
    rw [hg]
    exact (hT i hi).1 j hj
  · obtain ⟨i, hi, rfl⟩ := List.mem_map.1 ha
    exact (hT i (List.mem_range.1 hi)).2
end
end Go.Proofs.YtodmnogoacghpaaDoor
