/- Down from the row's reading to rows of fields. -/
import Derived.Test.YtpiobckemlkomaaDoorStanG
import Derived.Deep.Strs
import Derived.Lib.SmallJoins
import Derived.OpenShut
namespace Go.Proofs.YtpiobckemlkomaaDoor
open Go.RowKit Go.ChangeShapes Go.WideShapes Go.ChangeAt

theorem rf_cStr : Tryd.prog.cellsOf 9 = 1 := by kernel_rfl
theorem rf_cField : Tryd.prog.cellsOf 48 = 2 := by kernel_rfl
section
variable {H : Type} {enc : TypeId × Value → H} {w : World} {base fuel : Nat} {sp : Nat → Bool} {held : Bool} {x : DataW H × List MemPlace}
theorem rf_str {v : Value} (h : DataW.trod enc Tryd.prog w base sp held fuel 9 [v] = some x) : ∃ s : ByteArray, v = .string s ∧ s.size ≤ maxLen := by
  obtain ⟨s, h1, _, h2⟩ := DataW.trod_string Tryd.underlying9 h
  exact ⟨s, by simpa using h1, h2⟩
theorem rd_flds {v : Value} (h : DataW.trod enc Tryd.prog w base sp held fuel 34 [v] = some x) : ∃ l, FldsM w v l := by
  obtain ⟨n, m, R, hS, hE⟩ := open_sl Tryd.underlying34 rf_cField (by decide) h
  obtain ⟨T, hT⟩ := Deep.choose_lt (α := FieldD) (p := fun i a => (∀ j, j < 2 → R i j = fRow a j) ∧ a.1.size ≤ maxLen ∧ a.2.size ≤ maxLen) (fun i (hi : i < n) => by
    obtain ⟨y, hy⟩ := hE i hi
    obtain ⟨y0, y1, n, _, _, h0, h1⟩ := trod_struct2 Tryd.underlying48 hy
    rw [rf_cStr] at h0 h1
    obtain ⟨a, ha, k0⟩ := rf_str (v := R i 0) h0
    obtain ⟨c, hc, k1⟩ := rf_str (v := R i 1) h1
    refine ⟨(a, c), fun j hj => ?_, k0, k1⟩
    match j, hj with
    | 0, _ => exact ha
    | 1, _ => exact hc)
  refine ⟨(List.range n).map T, ?_, fun a ha => ?_⟩
  · rw [List.length_map, List.length_range]
    refine hS.congr fun i j hi hj => ?_
    have hg : ((List.range n).map T).getD i default = T i := by simp [List.getD, hi]
    rw [hg]
    exact (hT i hi).1 j hj
  · obtain ⟨i, hi, rfl⟩ := List.mem_map.1 ha
    exact (hT i (List.mem_range.1 hi)).2
end
end Go.Proofs.YtpiobckemlkomaaDoor
