/- StatusNext: which state comes of any state and event is the document's. No condition; the tables status.after and stevedoreref.table, and errors.errorType, as the program's text lays them (tied). -/
import Derived.Test.YtnfnebfioibndaaDoorNextL
import Derived.Test.YtnfnebfioibndaaDoorLaid
import Derived.Test.YtnfnebfioibndaaDoorTie
import Derived.Test.YtnfnebfioibndaaDoorCards
import Derived.SevenTiedAt
namespace Go.Proofs.YtnfnebfioibndaaDoor
open Go.RowKit Go.ChangeShapes Go.WideShapes Go.ChangeAt

theorem n_own : ownKnob Tryd.prog.godebug = none := by kernel_rfl
theorem n_laidOut : laidOutB Tryd.prog = true := by kernel_rfl
theorem n_gT : Tryd.prog.globalNamed "stevedore/stevedoreref.table" = some 0 := by kernel_rfl
theorem n_gA : Tryd.prog.globalNamed "stevedore/status.after" = some 1 := by kernel_rfl
theorem n_tT : (Tryd.prog.globals[0]?).map (·.type) = some 79 := by kernel_rfl
theorem n_tA : (Tryd.prog.globals[1]?).map (·.type) = some 81 := by kernel_rfl
theorem n_dT {H : Type} : (Rows.laid_stevedore_stevedoreref_table : DataW H) = .agg ((List.range 10).map fun i => .lit (.string (refT i))) := by rfl
theorem n_dA {H : Type} : (Rows.laid_stevedore_status_after : DataW H) = .agg ((List.range 11).map fun i => .agg ((List.range 8).map fun j => .lit (.int .i64 (afterT i j)))) := by rfl

theorem n_of_laid {W : World} (h : laidMetH Tryd.prog Rows.statusNextRow.laid W) : ErrVar W ∧ TabA W ∧ TabR W := by
  have h' : laidMet Tryd.prog [("stevedore/stevedoreref.table", Rows.laid_stevedore_stevedoreref_table), ("stevedore/status.after", Rows.laid_stevedore_status_after)] W ∧ handlesMet Tryd.prog [("errors.errorType", Rows.laid_errors_errorType)] W := h
  have he := handle_cell h'.2
  obtain ⟨ps, ⟨g0, t0, cs0, f0, p0, q0, hg0, ht0, hv0, hd0, ⟨g1, t1, cs1, f1, p1, q1, hg1, ht1, hv1, hd1, _, _⟩, _⟩, _, _⟩ := h'.1
  obtain rfl := Option.some.inj (n_gT.symm.trans hg0)
  obtain rfl := Option.some.inj (n_gA.symm.trans hg1)
  obtain rfl := Option.some.inj (n_tT.symm.trans ht0)
  obtain rfl := Option.some.inj (n_tA.symm.trans ht1)
  rw [n_dT] at hd0
  rw [n_dA] at hd1
  have c1 : Tryd.prog.cellsOf 9 = 1 := by kernel_rfl
  have c2 : Tryd.prog.cellsOf 3 = 1 := by kernel_rfl
  have c3 : Tryd.prog.cellsOf 80 = 8 := by kernel_rfl
  have hR : ∀ e : Nat, e < 10 → W.cell? ⟨0, e, none⟩ = some (.string ⟨(refT e).toArray⟩) := fun e he => by
    have h1 := World.var?_cell n_gT hv0 e
    have h2 := arr_strings Tryd.underlying79 Tryd.underlying9 c1 hd0 e he
    rw [h1, ← h2]; simp
  have hA : ∀ e s : Nat, e < 11 → s < 8 → W.cell? ⟨1, e * 8 + s, none⟩ = some (.int .i64 (afterT e s)) := fun e s he hs => by
    have h1 := World.var?_cell n_gA hv1 (e * 8 + s)
    have h2 := arr_ints2 Tryd.underlying81 Tryd.underlying80 Tryd.underlying3 c2 c3 hd1 e s he hs
    rw [h1, ← h2]; simp
  exact ⟨⟨he, cell_lt he⟩, ⟨hA, cell_lt (hA 0 0 (by decide) (by decide))⟩, ⟨hR, cell_lt (hR 0 (by decide))⟩⟩

theorem n_door_met (os : Os) (args : Array Value) : laidMetH Tryd.prog Rows.statusNextRow.laid ((World.doorLaid Tryd.prog 400 os).forCall (fun _ _ => 0) ⟨#[], args, []⟩).memory :=
  laidMetH_of_parts3 (fuel := 8) (laidMet_of_run' 8 (by kernel_rfl) (by kernel_rfl)) (by kernel_rfl) (by kernel_rfl)

set_option maxRecDepth 100000 in
theorem statusNext_lifted (os : Os) (started : os.Started) (H : Type) (enc : TypeId × Value → H) :
    ReturnsInHanded {} Tryd.checked os 3 .any (fun w args => (Rows.statusNextSpec.pre enc Tryd.prog Tryd.f3 [] false w args ∧ laidMetH Tryd.prog Rows.statusNextRow.laid w) ∧ sizedMet enc Tryd.prog Tryd.f3 (OpenSpec.ofChange Rows.statusNextSpec) false w args)
      (Rows.statusNextSpec.post enc Tryd.prog Tryd.f3 false true false false) := by
  refine returnsInHanded_of_change_and (C := Tryd.checked) (X := fun w _ => laidMetH Tryd.prog Rows.statusNextRow.laid w) (fun _ _ _ hh h => h.of_heap hh) n_own started (by kernel_rfl) Tryd.func3
    (ChangeSpec.witness_shaped (enc := enc) (C := Tryd.checked) (os := os) (X := fun w _ => laidMetH Tryd.prog Rows.statusNextRow.laid w) false (World.doorLaid Tryd.prog 400 os) #[.int .i64 0, .int .i64 0] 8 rfl (World.shaped_of_RefB (by kernel_rfl) (by kernel_rfl)) (by kernel_rfl) (by kernel_rfl) (by kernel_rfl) (n_door_met os _)) ?_
  intro W base args ds gs before hval0 hW _ _ hL _
  have hval : ∀ (j : Nat) t v, Tryd.f3.params[j]? = some t → args[j]? = some v → Value.okWide Tryd.prog W .any base t v := hval0
  have hW' := hW
  obtain ⟨p, q, hA0, hV, rfl, hfz, hnd⟩ := hW
  have hA : DataW.TrodAll enc Tryd.prog W 0 (fun _ => true) true Tryd.f3.params.toList args.toList ds p := hA0
  rw [Tryd.params3] at hA hval
  obtain ⟨v0, v1, d0, d1, p0, p1, hargs, rfl, rfl, h0, h1⟩ := trodAll_two hA
  obtain rfl : args = #[v0, v1] := by cases args; simp_all
  obtain ⟨rfl, rfl⟩ := trodVars_none hV
  obtain ⟨s, rfl, rfl, rfl, _⟩ := open_int Tryd.underlying3 (hval 0 3 v0 rfl rfl) h0
  obtain ⟨e, rfl, rfl, rfl, _⟩ := open_int Tryd.underlying3 (hval 1 3 v1 rfl rfl) h1
  obtain ⟨hE, hTA, hTR⟩ := n_of_laid hL
  refine (statusNext_calls s e W hTA hTR hE).mono fun ev W' ⟨he, hb⟩ => ⟨_, he, ?_⟩
  exact law_post n_laidOut (by kernel_rfl) hW' rfl rfl rfl Tryd.underlying4 hb

theorem statusNext_holds : Rows.StatusNextSaid :=
  OpenClaim.holds_of_wide 3 Tryd.f3 rfl rfl rfl rfl rfl rfl rfl ⟨rfl, rfl, rfl, rfl, rfl⟩ rfl rfl rfl rfl rfl (by kernel_rfl) Tryd.func3 (by kernel_rfl)
    (of_decide_eq_true (by kernel_rfl)) (by unfold Func.isWrapper; rw [if_neg (of_decide_eq_false (by kernel_rfl))]; exact ⟨rfl, rfl⟩)
    (fun os started H enc _ => statusNext_lifted os started H enc)

theorem statusNext_card : Rows.StatusNextCardSaid :=
  Claim7.holds_tied_plain_at .later [] [.handle, .data, .data] true (true, "8094deb51149055b3fb98376c2012f910a457f19da0b3403a3960b524cbf524c") true
    statusNext_holds (fun _ h => by cases h) (by kernel_rfl) (fun _ h => by cases h) statusNext_row_tie rfl ⟨rfl, rfl⟩ (by kernel_rfl) rfl
    (fun f fn hf hfn => by
      obtain rfl : f = 3 := Option.some.inj ((show Tryd.prog.funcNamed "stevedore/stevedorelaw.StatusNext" = some 3 by kernel_rfl).symm.trans hf) |>.symm
      obtain rfl : fn = Tryd.f3 := (Option.some.inj (Tryd.func3.symm.trans hfn)).symm
      exact ⟨by kernel_rfl, fun j t ht => by
        rw [Tryd.params3] at ht
        have hm : t ∈ [3, 3] := by simpa using Array.mem_of_getElem? ht
        have hall : ([3, 3].all fun u => !Tryd.prog.wantsStandIn u) = true := by kernel_rfl
        exact (show Tryd.prog.wantsStandIn t = false by simpa using List.all_eq_true.1 hall t hm)⟩)
    (by kernel_rfl)
#print axioms statusNext_card
end Go.Proofs.YtnfnebfioibndaaDoor
