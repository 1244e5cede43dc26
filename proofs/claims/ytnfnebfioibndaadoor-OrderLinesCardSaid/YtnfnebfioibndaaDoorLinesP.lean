/- OrderLines: the order of numbers, by weak and strong edges, is the document's. No condition; the variables stevedoreref.Fine and errors.errorType as the program's text lays them (tied). -/
import Derived.Test.YtnfnebfioibndaaDoorLinesL
import Derived.Test.YtnfnebfioibndaaDoorReadE
import Derived.Test.YtnfnebfioibndaaDoorLaid
import Derived.Test.YtnfnebfioibndaaDoorTie
import Derived.Test.YtnfnebfioibndaaDoorCards
import Derived.SevenTiedAt
import Derived.Lay
namespace Go.Proofs.YtnfnebfioibndaaDoor
open Go.RowKit Go.ChangeShapes Go.WideShapes Go.ChangeAt

namespace Orderlines
theorem own : ownKnob Tryd.prog.godebug = none := by kernel_rfl
theorem laidOut : laidOutB Tryd.prog = true := by kernel_rfl

theorem n_gF : Tryd.prog.globalNamed "stevedore/stevedoreref.Fine" = some 2 := by kernel_rfl
theorem n_tF : (Tryd.prog.globals[2]?).map (·.type) = some 62 := by kernel_rfl
theorem n_dF {H : Type} : (Rows.laid_stevedore_stevedoreref_Fine : DataW H) = .agg [.lit (.int .i64 0), .lit (.int .i64 (-1))] := by rfl
theorem n_of_laid {W : World} (h : laidMetH Tryd.prog Rows.orderLinesRow.laid W) : ErrVar W ∧ FineR W := by
  have h' : laidMet Tryd.prog [("stevedore/stevedoreref.Fine", Rows.laid_stevedore_stevedoreref_Fine)] W ∧ handlesMet Tryd.prog [("errors.errorType", Rows.laid_errors_errorType)] W := h
  have he := handle_cell h'.2
  obtain ⟨ps, ⟨g2, t2, cs2, f2, p2, q2, hg2, ht2, hv2, hd2, _, _⟩, _⟩ := h'.1
  obtain rfl := Option.some.inj (n_gF.symm.trans hg2)
  obtain rfl := Option.some.inj (n_tF.symm.trans ht2)
  rw [n_dF] at hd2
  obtain ⟨k0, k1⟩ := fineE_cells hd2
  have hF0 : W.cell? ⟨2, 0, none⟩ = some (.int .i64 0) := by
    have h1 := World.var?_cell n_gF hv2 0
    rw [h1, ← k0]; simp
  have hF1 : W.cell? ⟨2, 1, none⟩ = some (.int .i64 (-1)) := by
    have h1 := World.var?_cell n_gF hv2 1
    rw [h1, ← k1]; simp
  exact ⟨⟨he, cell_lt he⟩, ⟨cell_lt hF0, hF0, hF1⟩⟩

theorem door_met (os : Os) (args : Array Value) : laidMetH Tryd.prog Rows.orderLinesRow.laid ((World.doorLaid Tryd.prog 400 os).forCall (fun _ _ => 0) ⟨#[], args, []⟩).memory :=
  laidMetH_of_parts3 (fuel := 8) (laidMet_of_run' 8 (by kernel_rfl) (by kernel_rfl)) (by kernel_rfl) (by kernel_rfl)

set_option maxRecDepth 100000 in
theorem lifted (os : Os) (started : os.Started) (H : Type) (enc : TypeId × Value → H) :
    ReturnsInHanded {} Tryd.checked os 7 .any (fun w args => (Rows.orderLinesSpec.pre enc Tryd.prog Tryd.f7 [] false w args ∧ laidMetH Tryd.prog Rows.orderLinesRow.laid w) ∧ sizedMet enc Tryd.prog Tryd.f7 (OpenSpec.ofChange Rows.orderLinesSpec) false w args)
      (Rows.orderLinesSpec.post enc Tryd.prog Tryd.f7 false true false false) := by
  refine returnsInHanded_of_change_and (C := Tryd.checked) (X := fun w _ => laidMetH Tryd.prog Rows.orderLinesRow.laid w) (fun _ _ _ hh h => h.of_heap hh) own started (by kernel_rfl) Tryd.func7
    (ChangeSpec.witness_shaped (enc := enc) (C := Tryd.checked) (os := os) (X := fun w _ => laidMetH Tryd.prog Rows.orderLinesRow.laid w) false (World.doorLaid Tryd.prog 400 os) #[.int .i64 0, .slice none 0 0, .slice none 0 0] 8 rfl (World.shaped_of_RefB (by kernel_rfl) (by kernel_rfl)) (by kernel_rfl) (by kernel_rfl) (by kernel_rfl) (door_met os _)) ?_
  intro W base args ds gs before hval0 hW _ hsz hL _
  have hval : ∀ (j : Nat) t v, Tryd.f7.params[j]? = some t → args[j]? = some v → Value.okWide Tryd.prog W .any base t v := hval0
  have hW' := hW
  obtain ⟨p, q, hA0, hV, rfl, hfz, hnd⟩ := hW
  have hA : DataW.TrodAll enc Tryd.prog W 0 (fun _ => true) true Tryd.f7.params.toList args.toList ds p := hA0
  rw [Tryd.params7] at hA hval
  obtain ⟨v0, vs0, d0, ds0, p0, q0, hargs, rfl, rfl, h0, r0⟩ := trodAll_cons hA
  obtain ⟨v1, vs1, d1, ds1, p1, q1, rfl, rfl, rfl, h1, r1⟩ := trodAll_cons r0
  obtain ⟨v2, vs2, d2, ds2, p2, q2, rfl, rfl, rfl, h2, r2⟩ := trodAll_cons r1
  obtain ⟨rfl, rfl, rfl⟩ := trodAll_nil r2
  obtain rfl : args = #[v0, v1, v2] := by cases args; simp_all
  obtain ⟨rfl, rfl⟩ := trodVars_none hV
  obtain ⟨n, rfl, rfl, rfl, _⟩ := open_int Tryd.underlying3 (hval 0 3 v0 rfl rfl) h0
  obtain ⟨a1, n1, c1, rfl⟩ := okWide_slice Tryd.underlying59 (hval 1 59 v1 rfl rfl)
  obtain ⟨a2, n2, c2, rfl⟩ := okWide_slice Tryd.underlying59 (hval 2 59 v2 rfl rfl)
  obtain ⟨fu1, hf1⟩ := h1
  obtain ⟨fu2, hf2⟩ := h2
  obtain ⟨es, hEs⟩ := rd_refEdges (v := .slice a1 n1 c1) hf1
  obtain ⟨fs, hFs⟩ := rd_refEdges (v := .slice a2 n2 c2) hf2
  obtain ⟨hErr, hFi⟩ := n_of_laid hL
  refine (orderLines_calls _ _ es fs n W hEs hFs hErr hFi).mono fun ev W' ⟨he, hb⟩ => ⟨_, he, ?_⟩
  exact law_post laidOut (by kernel_rfl) hW' rfl rfl rfl Tryd.underlying4 hb

theorem holds : Rows.OrderLinesSaid :=
  OpenClaim.holds_of_wide 7 Tryd.f7 rfl rfl rfl rfl rfl rfl rfl ⟨rfl, rfl, rfl, rfl, rfl⟩ rfl rfl rfl rfl rfl (by kernel_rfl) Tryd.func7 (by kernel_rfl)
    (of_decide_eq_true (by kernel_rfl)) (by unfold Func.isWrapper; rw [if_neg (of_decide_eq_false (by kernel_rfl))]; exact ⟨rfl, rfl⟩)
    (fun os started H enc _ => lifted os started H enc)
end Orderlines

theorem orderLines_card : Rows.OrderLinesCardSaid :=
  Claim7.holds_tied_plain_at .later [] [.handle, .data] true Rows.orderLinesCard.stood.harness true
    Orderlines.holds (fun _ h => by cases h) (by kernel_rfl) (fun _ h => by cases h) orderLines_row_tie rfl ⟨rfl, rfl⟩ (by kernel_rfl) rfl
    (fun f fn hf hfn => by
      obtain rfl : f = 7 := Option.some.inj ((show Tryd.prog.funcNamed "stevedore/stevedorelaw.OrderLines" = some 7 by kernel_rfl).symm.trans hf) |>.symm
      obtain rfl : fn = Tryd.f7 := (Option.some.inj (Tryd.func7.symm.trans hfn)).symm
      exact ⟨by kernel_rfl, fun j t ht => by
        rw [Tryd.params7] at ht
        have hm : t ∈ [3, 59, 59] := by simpa using Array.mem_of_getElem? ht
        have hall : ([3, 59, 59].all fun u => !Tryd.prog.wantsStandIn u) = true := by kernel_rfl
        exact (show Tryd.prog.wantsStandIn t = false by simpa using List.all_eq_true.1 hall t hm)⟩)
    (by kernel_rfl)
#print axioms orderLines_card
end Go.Proofs.YtnfnebfioibndaaDoor
