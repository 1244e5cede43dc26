/- Down from the row's reading to the notes of a book. -/
import Derived.Test.YtodmnogoacghpaaGreatDoorBookL
import Derived.Deep.Strs
import Derived.Lib.SmallJoins
import Derived.OpenShut
namespace Go.Proofs.YtodmnogoacghpaaGreatDoor
open Go.RowKit Go.ChangeShapes Go.WideShapes Go.ChangeAt

theorem rn_cInt : Tryz.prog.cellsOf 3 = 1 := by kernel_rfl
theorem rn_cStr : Tryz.prog.cellsOf 9 = 1 := by kernel_rfl
theorem rn_cNote : Tryz.prog.cellsOf 37 = 3 := by kernel_rfl
section
variable {H : Type} {enc : TypeId × Value → H} {w : World} {base fuel : Nat} {sp : Nat → Bool} {held : Bool} {x : DataW H × List MemPlace}
theorem rn_int {v : Value} (h : DataW.trod enc Tryz.prog w base sp held fuel 3 [v] = some x) : ∃ n : Int, v = .int .i64 n ∧ InJ n := by
  obtain ⟨n, h1, _, h2⟩ := DataW.trod_int Tryz.underlying3 h
  exact ⟨n, by simpa using h1, bounds_i64 h2⟩
theorem rn_str {v : Value} (h : DataW.trod enc Tryz.prog w base sp held fuel 9 [v] = some x) : ∃ s : ByteArray, v = .string s ∧ s.size ≤ maxLen := by
  obtain ⟨s, h1, _, h2⟩ := DataW.trod_string Tryz.underlying9 h
  exact ⟨s, by simpa using h1, h2⟩
theorem rd_notes {v : Value} (h : DataW.trod enc Tryz.prog w base sp held fuel 22 [v] = some x) : ∃ l, Notes w v l := by
  obtain ⟨n, m, R, hS, hE⟩ := open_sl Tryz.underlying22 rn_cNote (by decide) h
  obtain ⟨T, hT⟩ := Deep.choose_lt (α := NoteD) (p := fun i a => (∀ j, j < 3 → R i j = noteCell a j) ∧ NoteOk a) (fun i (hi : i < n) => by
    obtain ⟨y, hy⟩ := hE i hi
    obtain ⟨y0, y1, y2, n, _, _, h0, h1, h2⟩ := Deep.trod_struct3 Tryz.underlying37 hy
    rw [rn_cInt] at h0
    rw [rn_cStr] at h1 h2
    obtain ⟨a, ha, k0⟩ := rn_int (v := R i 0) h0
    obtain ⟨c, hc, k2⟩ := rn_str (v := R i 1) h1
    obtain ⟨d, hd, k3⟩ := rn_str (v := R i 2) h2
    refine ⟨(a, (c, d)), fun j hj => ?_, k0, k2, k3⟩
    match j, hj with
    | 0, _ => exact ha
    | 1, _ => exact hc
    | 2, _ => exact hd)
  refine ⟨(List.range n).map T, ?_, fun a ha => ?_⟩
  · rw [List.length_map, List.length_range]
    refine hS.congr fun i j hi hj => ?_
    have hg : ((List.range n).map T).getD i noNote = T i := by simp [List.getD, hi]
    rw [hg]
    exact (hT i hi).1 j hj
  · obtain ⟨i, hi, rfl⟩ := List.mem_map.1 ha
    exact (hT i (List.mem_range.1 hi)).2
end
end Go.Proofs.YtodmnogoacghpaaGreatDoor
