/- slices.ContainsFunc at packages that are known, at whatever predicate. -/
import Derived.Test.YtnfnebfioibndaaGreatDoorWork
namespace Go.Proofs.YtnfnebfioibndaaGreatDoor
open Go.RowKit
set_option maxRecDepth 100000
set_option maxHeartbeats 2000000

def row20 (R : Nat → Value) : List Value := (List.range 20).map R
theorem row20_len (R : Nat → Value) : (row20 R).length = 20 := by simp [row20]
theorem rangeAt_row20 {w : World} {b o : Nat} {R : Nat → Value} (h : ∀ j, j < 20 → w.cell? ⟨b, o + j, none⟩ = some (R j)) : w.rangeAt b o (row20 R) := by
  intro j v hv
  have hj : j < 20 := by
    rcases Nat.lt_or_ge j 20 with h' | h'
    · exact h'
    · rw [List.getElem?_eq_none (by rw [row20_len]; exact h')] at hv
      cases hv
  have : (row20 R)[j]? = some (R j) := by simp [row20, hj]
  rw [this] at hv
  rw [h j hj, hv]

def FoundK (n : Nat) (p : Nat → Bool) (w : World) (e : Ending) (w' : World) : Prop := ∃ k : Int, e = .returned (.int .i64 k) ∧ decide (0 ≤ k) = (List.range n).any p ∧ Below w.heap.size w w'

theorem any_range_step {p : Nat → Bool} {i : Nat} (h : (List.range i).any p = false) (hp : p i = false) : (List.range (i + 1)).any p = false := by
  rw [List.range_succ, List.any_append, h]
  simp [hp]

theorem indexKnown_calls (v : Value) (n : Nat) (R : Nat → Nat → Value) (g : FuncId) (caps : Array Value) (p : Nat → Bool) (w : World) (hT : Sl w v n 20 R)
    (eg : ∀ args w, (callFunc g args).run Tryz.prog w = .ok (.enter g args) w)
    (hf : ∀ i, i < n → ∀ w', Below w.heap.size w w' → Calls Tryz.prog g (#[.agg (row20 (R i)).toArray] ++ caps) w' fun e w'' => e = .returned (.bool (p i)) ∧ Below w'.heap.size w' w'') :
    Calls Tryz.prog 54 #[v, .func (.func g) #[] caps] w (FoundK n p w) := by
  obtain ⟨a, cap, rfl, hcap, hmax, hcell⟩ := hT
  unfold maxLen at hmax
  have Hcell := Lib.hid hcell
  have Hf := Lib.hid hf
  clear hcell hf
  go_enter Tryz.func54, Tryz.ntmps54
  go_wp2_with fail
  go_loopg [8] n (fun k v8 wr => ∃ i : Nat, v8 = .int .i64 i ∧ i ≤ n ∧ k = n - i ∧ (List.range i).any p = false ∧ Below w.heap.size w wr)
  case atStart => exact ⟨0, rfl, Nat.zero_le _, rfl, rfl, Below.refl _ _⟩
  case round =>
    obtain ⟨i, rfl, hi, hk, hall, hB⟩ := hrel
    have Hk := Lib.hid hk
    have Hall := Lib.hid hall
    clear hk hall
    by_cases hlt : i < n
    · obtain ⟨b, o, rfl, hb, hc⟩ := Hcell.out.resolve_left (by omega)
      have HR : Hid (wr.rangeAt b (o + i * 20) (row20 (R i))) := rangeAt_row20 fun j hj => (hB.cell (p := ⟨b, o + i * 20 + j, none⟩) hb).trans (hc i j hlt hj)
      clear hc hb
      go_wp2_with (refine wpList_load_mid (by rfl) 61 _ (by rfl) b (o + i * 20) (by rfl) _ _ HR.out Tryz.underlying61 (by rfl) (by rw [row20_len]; kernel_rfl) ?_)
      refine (Hf.out i hlt _ hB).mono ?_
      rintro e w1 ⟨rfl, hb1⟩
      have hB1 := hB.trans (hb1.mono hB.size)
      clear hB hb1
      cases hp : p i
      · have HS : Hid ((List.range (i + 1)).any p = false) := any_range_step Hall.out hp
        clear hp
        go_wp2_with fail
        go_roundg (n - (i + 1))
        case rel => exact ⟨i + 1, by go_num, by omega, rfl, HS.out, hB1⟩
        case measure => have := Hk.out; omega
      · have HF : Hid ((List.range n).any p = true) := by
          show _ = _
          rw [List.any_eq_true]
          exact ⟨i, List.mem_range.2 hlt, hp⟩
        clear hp
        go_wp2_with fail
        go_ret
        exact ⟨_, rfl, by rw [HF.out]; exact decide_eq_true (by omega), hB1⟩
    · have HF : Hid ((List.range n).any p = false) := by
        have := Hall.out
        rwa [show i = n by omega] at this
      go_wp2_with fail
      go_ret
      exact ⟨-1, rfl, by rw [HF.out]; rfl, hB⟩

theorem containsKnown_calls (v : Value) (n : Nat) (R : Nat → Nat → Value) (g : FuncId) (caps : Array Value) (p : Nat → Bool) (w : World) (hT : Sl w v n 20 R)
    (eg : ∀ args w, (callFunc g args).run Tryz.prog w = .ok (.enter g args) w)
    (hf : ∀ i, i < n → ∀ w', Below w.heap.size w w' → Calls Tryz.prog g (#[.agg (row20 (R i)).toArray] ++ caps) w' fun e w'' => e = .returned (.bool (p i)) ∧ Below w'.heap.size w' w'') :
    Calls Tryz.prog 22 #[v, .func (.func g) #[] caps] w fun e w' => e = .returned (.bool ((List.range n).any p)) ∧ Below w.heap.size w w' := by
  have HI := Lib.hid (indexKnown_calls v n R g caps p w hT eg hf)
  clear hf eg hT
  go_enter Tryz.func22, Tryz.ntmps22
  go_wp2_with fail
  refine HI.out.mono ?_
  rintro e w1 ⟨k, rfl, hk, hb⟩
  have HK := Lib.hid hk
  clear hk HI
  go_wp2_with fail
  go_ret
  exact ⟨ret_bool HK.out, hb⟩
end Go.Proofs.YtnfnebfioibndaaGreatDoor
