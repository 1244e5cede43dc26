/- version.Compare and Is, stevedoreref.Compare and Is. -/
import Derived.Test.YtnfnebfioibndaaGreatDoorVerQ
import Derived.Deep.RegionHeld3
import Derived.Deep.RegionWith
namespace Go.Proofs.YtnfnebfioibndaaGreatDoor
open Go.RowKit
set_option maxRecDepth 100000

/-- What a world keeps of two boxed versions. -/
abbrev VerS (w : World) (ea : Int) (ua ra : ByteArray) (eb : Int) (ub rb : ByteArray) (w' : World) : Prop :=
  Below w.heap.size w w' ∧ w.heap.size + 2 ≤ w'.heap.size ∧ w'.cell? ⟨w.heap.size, 0, none⟩ = some (.int .i64 ea) ∧ w'.cell? ⟨w.heap.size, 1, none⟩ = some (.string ua) ∧ w'.cell? ⟨w.heap.size, 2, none⟩ = some (.string ra) ∧
    w'.cell? ⟨w.heap.size + 1, 0, none⟩ = some (.int .i64 eb) ∧ w'.cell? ⟨w.heap.size + 1, 1, none⟩ = some (.string ub) ∧ w'.cell? ⟨w.heap.size + 1, 2, none⟩ = some (.string rb)

theorem VerS.start (w : World) (ea : Int) (ua ra : ByteArray) (eb : Int) (ub rb : ByteArray) (t : TypeId) :
    VerS w ea ua ra eb ub rb ((w.alloc (.cells #[.int .i64 ea, .string ua, .string ra] t)).alloc (.cells #[.int .i64 eb, .string ub, .string rb] t)).drew := by
  refine ⟨by go_grown, by simp, ?_⟩
  simp [go_sem]

theorem VerS.step {w : World} {ea : Int} {ua ra : ByteArray} {eb : Int} {ub rb : ByteArray} {w1 w' : World} (h : VerS w ea ua ra eb ub rb w1) (hb : Below w1.heap.size w1 w') : VerS w ea ua ra eb ub rb w' := by
  obtain ⟨h0, hz, c0, c1, c2, c3, c4, c5⟩ := h
  have hs := hb.size
  refine ⟨h0.trans (hb.mono h0.size), by omega, ?_, ?_, ?_, ?_, ?_, ?_⟩
  · exact (hb.cell (p := ⟨w.heap.size, 0, none⟩) (by simp; omega)).trans c0
  · exact (hb.cell (p := ⟨w.heap.size, 1, none⟩) (by simp; omega)).trans c1
  · exact (hb.cell (p := ⟨w.heap.size, 2, none⟩) (by simp; omega)).trans c2
  · exact (hb.cell (p := ⟨w.heap.size + 1, 0, none⟩) (by simp; omega)).trans c3
  · exact (hb.cell (p := ⟨w.heap.size + 1, 1, none⟩) (by simp; omega)).trans c4
  · exact (hb.cell (p := ⟨w.heap.size + 1, 2, none⟩) (by simp; omega)).trans c5

def or3V (x y z : Int) : Int := if x = 0 then (if y = 0 then z else y) else x
theorem or3V_calls (x y z : Int) (b : Nat) (w : World) (h0 : w.cell? ⟨b, 0, none⟩ = some (.int .i64 x)) (h1 : w.cell? ⟨b, 1, none⟩ = some (.int .i64 y)) (h2 : w.cell? ⟨b, 2, none⟩ = some (.int .i64 z)) :
    Calls Tryz.prog 110 #[.slice (some ⟨b, 0, none⟩) 3 3] w fun e w' => e = .returned (.int .i64 (or3V x y z)) ∧ w = w' := or3_calls x y z b w h0 h1 h2
theorem cmpVer_or (ea : Int) (ua ra : List UInt8) (eb : Int) (ub rb : List UInt8) : or3V (Lib.compareInt ea eb) (cmpV ua ub) (cmpV ra rb) = cmpVer ea ua ra eb ub rb := by
  unfold or3V cmpVer
  by_cases h : Lib.compareInt ea eb = 0 <;> by_cases h2 : cmpV ua ub = 0 <;> simp [h, h2]

set_option maxHeartbeats 4000000 in
theorem verCompare_calls (ea eb : Int) (ua ra ub rb : ByteArray) (w : World) (h1 : ua.size ≤ 1000) (h2 : ra.size ≤ 1000) (h3 : ub.size ≤ 1000) (h4 : rb.size ≤ 1000) :
    Calls Tryz.prog 94 #[.agg #[.int .i64 ea, .string ua, .string ra], .agg #[.int .i64 eb, .string ub, .string rb]] w fun e w' =>
      e = .returned (.int .i64 (cmpVer ea ua.data.toList ra.data.toList eb ub.data.toList rb.data.toList)) ∧ Below w.heap.size w w' := by
  have hV0 := VerS.start w ea ua ra eb ub rb 24
  go_enter Tryz.func94, Tryz.ntmps94
  go_wp2_with fail
  go_region_held3 (fun w' => Below w.heap.size w w' ∧ w.heap.size + 2 ≤ w'.heap.size ∧ w'.cell? ⟨w.heap.size, 0, none⟩ = some (.int .i64 ea) ∧ w'.cell? ⟨w.heap.size, 1, none⟩ = some (.string ua) ∧ w'.cell? ⟨w.heap.size, 2, none⟩ = some (.string ra) ∧ w'.cell? ⟨w.heap.size + 1, 0, none⟩ = some (.int .i64 eb) ∧ w'.cell? ⟨w.heap.size + 1, 1, none⟩ = some (.string ub) ∧ w'.cell? ⟨w.heap.size + 1, 2, none⟩ = some (.string rb)) (first | exact hV0 | assumption | (refine VerS.step ?_ hb; assumption) | (refine VerS.step ?_ (Below.alloc (Below.refl _ _) (Nat.le_refl _) _); assumption))
      (first
        | (go_at_call 111; refine (Tryz.cmp_Compare_int _ _ _).mono ?_; rintro e w' ⟨rfl, rfl⟩)
        | (go_at_call_of 112 (Value.string ua); refine (part_calls ua ub _ h1 h3).mono ?_; rintro e w' ⟨rfl, hb⟩)
        | (go_at_call_of 112 (Value.string ra); refine (part_calls ra rb _ h2 h4).mono ?_; rintro e w' ⟨rfl, hb⟩)
        | (go_at_call 110; refine (or3V_calls (Lib.compareInt ea eb) (cmpV ua.data.toList ub.data.toList) (cmpV ra.data.toList rb.data.toList) _ _ (by simp [go_sem]) (by simp [go_sem]) (by simp [go_sem])).mono ?_; rintro e w' ⟨rfl, rfl⟩))
  all_goals go_wp2
  all_goals go_ret
  all_goals refine ⟨ret_int (cmpVer_or _ _ _ _ _ _), ?_⟩
  all_goals first | assumption | exact And.left (by assumption : VerS w ea ua ra eb ub rb _)
end Go.Proofs.YtnfnebfioibndaaGreatDoor
