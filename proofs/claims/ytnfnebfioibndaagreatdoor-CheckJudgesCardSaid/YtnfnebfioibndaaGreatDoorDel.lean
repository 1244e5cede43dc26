/- slices.DeleteFunc at offers, at whatever predicate: an own row is cut to those that stay. -/
import Derived.Test.YtnfnebfioibndaaGreatDoorKnownF
import Derived.Laws.IdiomCopy
namespace Go.Proofs.YtnfnebfioibndaaGreatDoor
open Go.RowKit
set_option maxRecDepth 100000
set_option maxHeartbeats 2000000

theorem zeroCells_mem {zs : Array Value} {n : Nat} (hz : zs.all (·.oneCell') = true) : ∀ v ∈ (Builtin.zeroCells zs n).toList, v.oneCell' = true := by
  intro v hv
  unfold Builtin.zeroCells at hv
  rw [Array.toList_map] at hv
  obtain ⟨i, hi, rfl⟩ := List.mem_map.1 hv
  have hi' : i < n * zs.size := by simpa using hi
  have hp : 0 < zs.size := by
    rcases Nat.eq_zero_or_pos zs.size with h | h
    · rw [h] at hi'; simp at hi'
    · exact h
  have hlt : i % zs.size < zs.size := Nat.mod_lt _ hp
  rw [getElem!_pos zs (i % zs.size) hlt]
  rw [Array.all_eq_true_iff_forall_mem] at hz
  exact hz _ (Array.getElem_mem hlt)

/-- 'clear(s)' at elements of several cells. -/
theorem run_clear_cells (w : World) (t e ty : TypeId) (z : Value) (zs : Array Value) (ht : Tryz.prog.underlying t = some (.slice e)) (hv : ∀ w, (zeroValue e).run Tryz.prog w = .ok z w) (hz : z.cells = zs) (h1 : zs.all (·.oneCell') = true) (b o n c : Nat) (hn : 0 < n)
    (hc : ∀ j, j < n * zs.size → (w.cell? ⟨b, o + j, none⟩).isSome = true) (hf : ∀ j, j < n * zs.size → w.frozen? ⟨b, o + j, none⟩ = false) :
    (Builtin.clear_ #[t] ty #[.slice (some ⟨b, o, none⟩) n c]).run Tryz.prog w = .ok (.tuple #[]) (w.setCells b o (Builtin.zeroCells zs n).toList) := by
  have hlen : (Builtin.zeroCells zs n).toList.length = n * zs.size := by unfold Builtin.zeroCells; simp
  have hst := run_storeCells_cells (P := Tryz.prog) b o (Builtin.zeroCells zs n).toList 0 w (by rw [hlen]; simpa using hc) (by rw [hlen]; simpa using hf) (zeroCells_mem h1)
  simp only [Nat.add_zero] at hst
  obtain ⟨m, rfl⟩ : ∃ m, n = m + 1 := ⟨n - 1, by omega⟩
  simp [Builtin.clear_, run_underlying ht, hv, hz, hst]

def FirstK (n : Nat) (p : Nat → Bool) (w : World) (e : Ending) (w' : World) : Prop :=
  ∃ k : Int, e = .returned (.int .i64 k) ∧ ((k = -1 ∧ ∀ i, i < n → p i = false) ∨ ∃ i : Nat, k = i ∧ i < n ∧ p i = true ∧ ∀ j, j < i → p j = false) ∧ Below w.heap.size w w'

/-- slices.IndexFunc at offers: which is the first. -/
theorem firstOff_calls (v : Value) (n : Nat) (f : Nat → OffD) (g : FuncId) (caps : Array Value) (p : Nat → Bool) (w : World) (hT : Sl w v n 5 (fun i j => (f i).row j))
    (eg : ∀ args w, (callFunc g args).run Tryz.prog w = .ok (.enter g args) w)
    (hf : ∀ i, i < n → ∀ w', Below w.heap.size w w' → Calls Tryz.prog g (#[.agg #[.string (f i).name, .int .i64 (f i).ep, .string (f i).up, .string (f i).rv, (f i).pv]] ++ caps) w' fun e w'' => e = .returned (.bool (p i)) ∧ Below w'.heap.size w' w'') :
    Calls Tryz.prog 55 #[v, .func (.func g) #[] caps] w (FirstK n p w) := by
  obtain ⟨a, cap, rfl, hcap, hmax, hcell⟩ := hT
  unfold maxLen at hmax
  have Hcell := Lib.hid hcell
  have Hf := Lib.hid hf
  clear hcell hf
  go_enter Tryz.func55, Tryz.ntmps55
  go_wp2_with fail
  go_loopg [8] n (fun k v8 wr => ∃ i : Nat, v8 = .int .i64 i ∧ i ≤ n ∧ k = n - i ∧ (∀ j, j < i → p j = false) ∧ Below w.heap.size w wr)
  case atStart => exact ⟨0, rfl, Nat.zero_le _, rfl, fun j hj => absurd hj (Nat.not_lt_zero _), Below.refl _ _⟩
  case round =>
    obtain ⟨i, rfl, hi, hk, hall, hB⟩ := hrel
    have Hk := Lib.hid hk
    have Hall := Lib.hid hall
    clear hk hall
    by_cases hlt : i < n
    · obtain ⟨b, o, rfl, hb, hc⟩ := Hcell.out.resolve_left (by omega)
      obtain ⟨t, ht⟩ : ∃ t, f i = t := ⟨_, rfl⟩
      have hat : ∀ j, j < 5 → wr.cell? ⟨b, o + i * 5 + j, none⟩ = some (t.row j) := fun j hj => by rw [← ht]; exact (hB.cell (p := ⟨b, o + i * 5 + j, none⟩) hb).trans (hc i j hlt hj)
      have c0 : wr.cell? ⟨b, o + i * 5, none⟩ = some (.string t.name) := hat 0 (by decide)
      have c1 : wr.cell? ⟨b, o + i * 5 + 1, none⟩ = some (.int .i64 t.ep) := hat 1 (by decide)
      have c2 : wr.cell? ⟨b, o + i * 5 + 2, none⟩ = some (.string t.up) := hat 2 (by decide)
      have c3 : wr.cell? ⟨b, o + i * 5 + 3, none⟩ = some (.string t.rv) := hat 3 (by decide)
      have c4 : wr.cell? ⟨b, o + i * 5 + 4, none⟩ = some t.pv := hat 4 (by decide)
      have HC := Lib.hid (Hf.out i hlt wr hB)
      rw [ht] at HC
      clear hc hb hat ht
      go_wp2_with fail
      refine HC.out.mono ?_
      rintro e w1 ⟨rfl, hb1⟩
      have hB1 := hB.trans (hb1.mono hB.size)
      clear hB hb1 HC c0 c1 c2 c3 c4
      cases hp : p i
      · have HS : Hid (∀ j, j < i + 1 → p j = false) := fun j hj => by
          rcases Nat.lt_or_ge j i with h | h
          · exact Hall.out j h
          · rw [show j = i by omega]; exact hp
        clear hp
        go_wp2_with fail
        go_roundg (n - (i + 1))
        case rel => exact ⟨i + 1, by go_num, by omega, rfl, HS.out, hB1⟩
        case measure => have := Hk.out; omega
      · have HF := Lib.hid hp
        clear hp
        go_wp2_with fail
        go_ret
        exact ⟨_, rfl, Or.inr ⟨i, rfl, hlt, HF.out, Hall.out⟩, hB1⟩
    · go_wp2_with fail
      go_ret
      exact ⟨-1, rfl, Or.inl ⟨rfl, fun j hj => Hall.out j (by omega)⟩, hB⟩
end Go.Proofs.YtnfnebfioibndaaGreatDoor
