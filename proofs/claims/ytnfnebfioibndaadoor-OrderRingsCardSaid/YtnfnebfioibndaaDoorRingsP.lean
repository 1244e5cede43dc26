/- OrderRings: which sets of numbers stand in rings, and their order, is the document's. No condition; the variables stevedoreref.Fine and errors.errorType as the program's text lays them (tied). -/
import Derived.Test.YtnfnebfioibndaaDoorRingsL
import Derived.Test.YtnfnebfioibndaaDoorReadE
import Derived.Test.YtnfnebfioibndaaDoorLaid
import Derived.Test.YtnfnebfioibndaaDoorTie
import Derived.Test.YtnfnebfioibndaaDoorCards
import Derived.SevenTiedAt
import Derived.Lay
namespace Go.Proofs.YtnfnebfioibndaaDoor
open Go.RowKit Go.ChangeShapes Go.WideShapes Go.ChangeAt

namespace Orderrings
theorem own : ownKnob Tryd.prog.godebug = none := by kernel_rfl
theorem laidOut : laidOutB Tryd.prog = true := by kernel_rfl

theorem n_gF : Tryd.prog.globalNamed "stevedore/stevedoreref.Fine" = some 2 := by kernel_rfl
theorem n_tF : (Tryd.prog.globals[2]?).map (·.type) = some 62 := by kernel_rfl
theorem n_dF {H : Type} : (Rows.laid_stevedore_stevedoreref_Fine : DataW H) = .agg [.lit (.int .i64 0), .lit (.int .i64 (-1))] := by rfl
theorem n_of_laid {W : World} (h : laidMetH Tryd.prog Rows.orderRingsRow.laid W) : ErrVar W ∧ FineR W := by
  have h' : laidMet Tryd.prog [("stevedore/stevedoreref.Fine", Rows.laid_stevedore_stevedoreref_Fine)] W ∧ handlesMet Tryd.prog [("errors.errorType", Rows.laid_errors_errorType)] W := h
  have he := handle_cell h'.2
  obtain ⟨ps, ⟨g2, t2, cs2, f2, p2, q2, hg2, ht2, hv2, hd2, _, _⟩, _⟩ := h'.1
  obtain rfl := Option.some.inj (n_gF.symm.trans hg2)
  obtain rfl := Option.some.inj (n_tF.symm.trans ht2)
  rw [n_dF] at hd2
  obtain ⟨k0, k1⟩ := fineE_cells hd2
  have hF0 : W.cell? ⟨2, 0, none⟩ = some (.int .i64 0) := by
    have h1 := World.var?_cell n_gF hv2 0
    rw [h1, ← k0]; simp
  have hF1 : W.cell? ⟨2, 1, none⟩ = some (.int .i64 (-1)) := by
    have h1 := World.var?_cell n_gF hv2 1
    rw [h1, ← k1]; simp
  exact ⟨⟨he, cell_lt he⟩, ⟨cell_lt hF0, hF0, hF1⟩⟩

theorem door_met (os : Os) (args : Array Value) : laidMetH Tryd.prog Rows.orderRingsRow.laid ((World.doorLaid Tryd.prog 400 os).forCall (fun _ _ => 0) ⟨#[], args, []⟩).memory :=
  laidMetH_of_parts3 (fuel := 8) (laidMet_of_run' 8 (by kernel_rfl) (by kernel_rfl)) (by kernel_rfl) (by kernel_rfl)

set_option maxRecDepth 100000 in
theorem lifted (os : Os) (started : os.Started) (H : Type) (enc : TypeId × Value → H) :
    ReturnsInHanded {} Tryd.checked os 6 .any (fun w args => (Rows.orderRingsSpec.pre enc Tryd.prog Tryd.f6 [] false w args ∧ laidMetH Tryd.prog Rows.orderRingsRow.laid w) ∧ sizedMet enc Tryd.prog Tryd.f6 (OpenSpec.ofChange Rows.orderRingsSpec) false w args)
      (Rows.orderRingsSpec.post enc Tryd.prog Tryd.f6 false true false false) := by
  refine returnsInHanded_of_change_and (C := Tryd.checked) (X := fun w _ => laidMetH Tryd.prog Rows.orderRingsRow.laid w) (fun _ _ _ hh h => h.of_heap hh) own started (by kernel_rfl) Tryd.func6
    (ChangeSpec.witness_shaped (enc := enc) (C := Tryd.checked) (os := os) (X := fun w _ => laidMetH Tryd.prog Rows.orderRingsRow.laid w) false (World.doorLaid Tryd.prog 400 os) #[.int .i64 0, .slice none 0 0] 8 rfl (World.shaped_of_RefB (by kernel_rfl) (by kernel_rfl)) (by kernel_rfl) (by kernel_rfl) (by kernel_rfl) (door_met os _)) ?_
  intro W base args ds gs before hval0 hW _ hsz hL _
  have hval : ∀ (j : Nat) t v, Tryd.f6.params[j]? = some t → args[j]? = some v → Value.okWide Tryd.prog W .any base t v := hval0
  have hW' := hW
  obtain ⟨p, q, hA0, hV, rfl, hfz, hnd⟩ := hW
  have hA : DataW.TrodAll enc Tryd.prog W 0 (fun _ => true) true Tryd.f6.params.toList args.toList ds p := hA0
  rw [Tryd.params6] at hA hval
  obtain ⟨v0, vs0, d0, ds0, p0, q0, hargs, rfl, rfl, h0, r0⟩ := trodAll_cons hA
  obtain ⟨v1, vs1, d1, ds1, p1, q1, rfl, rfl, rfl, h1, r1⟩ := trodAll_cons r0
  obtain ⟨rfl, rfl, rfl⟩ := trodAll_nil r1
  obtain rfl : args = #[v0, v1] := by cases args; simp_all
  obtain ⟨rfl, rfl⟩ := trodVars_none hV
  obtain ⟨n, rfl, rfl, rfl, _⟩ := open_int Tryd.underlying3 (hval 0 3 v0 rfl rfl) h0
  obtain ⟨a1, n1, c1, rfl⟩ := okWide_slice Tryd.underlying59 (hval 1 59 v1 rfl rfl)
  obtain ⟨fu1, hf1⟩ := h1
  obtain ⟨es, hEs⟩ := rd_refEdges (v := .slice a1 n1 c1) hf1
  obtain ⟨hErr, hFi⟩ := n_of_laid hL
  refine (orderRings_calls _ es n W hEs hErr hFi).mono fun ev W' ⟨he, hb⟩ => ⟨_, he, ?_⟩
  exact law_post laidOut (by kernel_rfl) hW' rfl rfl rfl Tryd.underlying4 hb

theorem holds : Rows.OrderRingsSaid :=
  OpenClaim.holds_of_wide 6 Tryd.f6 rfl rfl rfl rfl rfl rfl rfl ⟨rfl, rfl, rfl, rfl, rfl⟩ rfl rfl rfl rfl rfl (by kernel_rfl) Tryd.func6 (by kernel_rfl)
    (of_decide_eq_true (by kernel_rfl)) (by unfold Func.isWrapper; rw [if_neg (of_decide_eq_false (by kernel_rfl))]; exact ⟨rfl, rfl⟩)
    (fun os started H enc _ => lifted os started H enc)
end Orderrings

theorem orderRings_card : Rows.OrderRingsCardSaid :=
  Claim7.holds_tied_plain_at .later [] [.handle, .data] true Rows.orderRingsCard.stood.harness true
    Orderrings.holds (fun _ h => by cases h) (by kernel_rfl) (fun _ h => by cases h) orderRings_row_tie rfl ⟨rfl, rfl⟩ (by kernel_rfl) rfl
    (fun f fn hf hfn => by
      obtain rfl : f = 6 := Option.some.inj ((show Tryd.prog.funcNamed "stevedore/stevedorelaw.OrderRings" = some 6 by kernel_rfl).symm.trans hf) |>.symm
      obtain rfl : fn = Tryd.f6 := (Option.some.inj (Tryd.func6.symm.trans hfn)).symm
      exact ⟨by kernel_rfl, fun j t ht => by
        rw [Tryd.params6] at ht
        have hm : t ∈ [3, 59] := by simpa using Array.mem_of_getElem? ht
        have hall : ([3, 59].all fun u => !Tryd.prog.wantsStandIn u) = true := by kernel_rfl
        exact (show Tryd.prog.wantsStandIn t = false by simpa using List.all_eq_true.1 hall t hm)⟩)
    (by kernel_rfl)
#print axioms orderRings_card
end Go.Proofs.YtnfnebfioibndaaDoor
