/- StanzaParses: the stanzas that any text is, or which line is none, are the document's. No condition; the variables stevedoreref.Fine and errors.errorType as the program's text lays them (tied); utf8.first and acceptRanges (not read) as the library lays them; internal/bytealg.MaxLen holds some number (the world's shape). -/
import Derived.Test.YtpiobckemlkomaaDoorStanL
import Derived.Test.YtpiobckemlkomaaDoorReadFine
import Derived.Test.YtpiobckemlkomaaDoorReadF
import Derived.Test.YtpiobckemlkomaaDoorShaped
import Derived.Test.YtpiobckemlkomaaDoorLaid
import Derived.Test.YtpiobckemlkomaaDoorTie
import Derived.Test.YtpiobckemlkomaaDoorCards
import Derived.SevenTiedAt
import Derived.Lay
namespace Go.Proofs.YtpiobckemlkomaaDoor
open Go.RowKit Go.ChangeShapes Go.WideShapes Go.ChangeAt
open Go.ChangeMaps (open_string)

namespace Stanzaparses
theorem own : ownKnob Tryd.prog.godebug = none := by kernel_rfl
theorem laidOut : laidOutB Tryd.prog = true := by kernel_rfl
theorem n_gF : Tryd.prog.globalNamed "stevedore/stevedoreref.Fine" = some 0 := by kernel_rfl
theorem n_tF : (Tryd.prog.globals[0]?).map (·.type) = some 25 := by kernel_rfl
theorem n_dF {H : Type} : (Rows.laid_stevedore_stevedoreref_Fine : DataW H) = .agg [.lit (.int .i64 0), .lit (.int .i64 (-1))] := by rfl
theorem n_of_laid {W : World} (h : laidMetH Tryd.prog Rows.stanzaParsesRow.laid W) : ErrVar W ∧ FineR W := by
  have h' : laidMet Tryd.prog [("unicode/utf8.acceptRanges", Rows.laid_unicode_utf8_acceptRanges), ("stevedore/stevedoreref.Fine", Rows.laid_stevedore_stevedoreref_Fine), ("unicode/utf8.first", Rows.laid_unicode_utf8_first)] W ∧ handlesMet Tryd.prog [("errors.errorType", Rows.laid_errors_errorType)] W := h
  have he := handle_cell h'.2
  obtain ⟨ps, ⟨ga, ta, csa, fa, pa, qa, hga, hta, hva, hda, ⟨g2, t2, cs2, f2, p2, q2, hg2, ht2, hv2, hd2, _, _⟩, _⟩, _, _⟩ := h'.1
  obtain rfl := Option.some.inj (n_gF.symm.trans hg2)
  obtain rfl := Option.some.inj (n_tF.symm.trans ht2)
  rw [n_dF] at hd2
  obtain ⟨k0, k1⟩ := fineE_cells hd2
  have hF0 : W.cell? ⟨0, 0, none⟩ = some (.int .i64 0) := by
    have h1 := World.var?_cell n_gF hv2 0
    rw [h1, ← k0]; simp
  have hF1 : W.cell? ⟨0, 1, none⟩ = some (.int .i64 (-1)) := by
    have h1 := World.var?_cell n_gF hv2 1
    rw [h1, ← k1]; simp
  exact ⟨⟨he, cell_lt he⟩, ⟨cell_lt hF0, hF0, hF1⟩⟩
theorem maxLen_cell {W : World} (h : W.ShapedOpen Tryd.prog) : MaxV W := by
  exact cell_of_shapedOpen_int (g := 1) (t := 3) (zero := #[.int .i64 0]) h (of_decide_eq_true (by kernel_rfl)) (by kernel_rfl) rfl (by kernel_rfl) (by kernel_rfl) Tryd.underlying3

/-- A world of which the witness is made: errors.errorType is laid by hand, the rest by the kit's function. -/
noncomputable def base0 (os : Os) : World := (World.holding Tryd.prog os ⟨#[], #[], []⟩).setCell ⟨3, 0, none⟩ (.iface 138 (.agg #[.pointer (some ⟨6, 29, none⟩)]))
def LL : List (String × DataW Unit) := Rows.stanzaParsesRow.laid.filter fun x => x.2.handleName?.isNone
noncomputable def wit0 (os : Os) : World := (base0 os).layVars Tryd.prog LL
theorem wit0_os (os : Os) : (wit0 os).os = os := World.layVars_os _ _ _
theorem wit0_met (os : Os) (args : Array Value) : laidMet Tryd.prog LL ((wit0 os).forCall (fun _ _ => 0) ⟨#[], args, []⟩).memory := by
  have e1 : (LL.filter fun x => (LL.map (·.1)).contains x.1) = LL := List.filter_eq_self.2 fun x hx => List.contains_iff_mem.2 (List.mem_map.2 ⟨x, hx, rfl⟩)
  have e2 : (LL.filter fun x => !(LL.map (·.1)).contains x.1) = [] := List.filter_eq_nil_iff.2 fun x hx => by rw [List.contains_iff_mem.2 (List.mem_map.2 ⟨x, hx, rfl⟩)]; simp
  have h : laidMet Tryd.prog LL (wit0 os) := laidMet_layVars (w0 := base0 os) (LL.map (·.1)) [] (by rw [e1]; rfl) (by rw [e1]; kernel_rfl) (by rw [e1]; kernel_rfl) (by rw [e2]; exact LaidIn.none)
  exact h.of_heap (by simp [World.memory, World.forCall, Input.heap])

theorem door_met (os : Os) (args : Array Value) : laidMetH Tryd.prog Rows.stanzaParsesRow.laid ((wit0 os).forCall (fun _ _ => 0) ⟨#[], args, []⟩).memory :=
  laidMetH_of_parts3 (fuel := 8) (wit0_met os args) (by kernel_rfl) (by kernel_rfl)

set_option maxRecDepth 100000 in
theorem lifted (os : Os) (started : os.Started) (H : Type) (enc : TypeId × Value → H) :
    ReturnsInHanded {} Tryd.checked os 3 .any (fun w args => (Rows.stanzaParsesSpec.pre enc Tryd.prog Tryd.f3 [] false w args ∧ laidMetH Tryd.prog Rows.stanzaParsesRow.laid w) ∧ sizedMet enc Tryd.prog Tryd.f3 (OpenSpec.ofChange Rows.stanzaParsesSpec) false w args)
      (Rows.stanzaParsesSpec.post enc Tryd.prog Tryd.f3 false true false false) := by
  refine handed_and_shaped (C := Tryd.checked) (X := fun w _ => laidMetH Tryd.prog Rows.stanzaParsesRow.laid w) (fun _ _ _ hh h => h.of_heap hh) own started (by kernel_rfl) Tryd.func3
    (ChangeSpec.witness_shaped (enc := enc) (C := Tryd.checked) (os := os) (X := fun w _ => laidMetH Tryd.prog Rows.stanzaParsesRow.laid w) false (wit0 os) #[.string ⟨#[]⟩] 8 (wit0_os os) (World.shaped_of_ZipB (by kernel_rfl) (by kernel_rfl)) (by kernel_rfl) (by kernel_rfl) (by kernel_rfl) (door_met os _)) ?_
  intro W base args ds gs before hval0 hW _ hsz hL hsh _
  have hval : ∀ (j : Nat) t v, Tryd.f3.params[j]? = some t → args[j]? = some v → Value.okWide Tryd.prog W .any base t v := hval0
  have hW' := hW
  obtain ⟨p, q, hA0, hV, rfl, hfz, hnd⟩ := hW
  have hA : DataW.TrodAll enc Tryd.prog W 0 (fun _ => true) true Tryd.f3.params.toList args.toList ds p := hA0
  rw [Tryd.params3] at hA hval
  obtain ⟨v0, vs0, d0, ds0, p0, q0, hargs, rfl, rfl, h0, r0⟩ := trodAll_cons hA
  obtain ⟨rfl, rfl, rfl⟩ := trodAll_nil r0
  obtain rfl : args = #[v0] := by cases args; simp_all
  obtain ⟨rfl, rfl⟩ := trodVars_none hV
  obtain ⟨s0, rfl, rfl, rfl, hs0⟩ := open_string Tryd.underlying9 (hval 0 9 v0 rfl rfl) h0
  obtain ⟨hE, hFi⟩ := n_of_laid hL
  have hM := maxLen_cell hsh
  refine (stanzaParses_calls s0 W hs0 hM hE hFi).mono fun ev W' ⟨he, hb⟩ => ⟨_, he, ?_⟩
  exact law_post laidOut (by kernel_rfl) hW' rfl rfl rfl Tryd.underlying4 hb

theorem holds : Rows.StanzaParsesSaid :=
  OpenClaim.holds_of_wide 3 Tryd.f3 rfl rfl rfl rfl rfl rfl rfl ⟨rfl, rfl, rfl, rfl, rfl⟩ rfl rfl rfl rfl rfl (by kernel_rfl) Tryd.func3 (by kernel_rfl)
    (of_decide_eq_true (by kernel_rfl)) (by unfold Func.isWrapper; rw [if_neg (of_decide_eq_false (by kernel_rfl))]; exact ⟨rfl, rfl⟩)
    (fun os started H enc _ => lifted os started H enc)
end Stanzaparses

theorem stanzaParses_card : Rows.StanzaParsesCardSaid :=
  Claim7.holds_tied_plain_at .later [] [.data, .handle, .data, .pinned] true Rows.stanzaParsesCard.stood.harness true
    Stanzaparses.holds (fun _ h => by cases h) (by kernel_rfl) (fun _ h => by cases h) stanzaParses_row_tie rfl ⟨rfl, rfl⟩ (by kernel_rfl) rfl
    (fun f fn hf hfn => by
      obtain rfl : f = 3 := Option.some.inj ((show Tryd.prog.funcNamed "stevedore/stevedorelaw.StanzaParses" = some 3 by kernel_rfl).symm.trans hf) |>.symm
      obtain rfl : fn = Tryd.f3 := (Option.some.inj (Tryd.func3.symm.trans hfn)).symm
      exact ⟨by kernel_rfl, fun j t ht => by
        rw [Tryd.params3] at ht
        have hm : t ∈ [9] := by simpa using Array.mem_of_getElem? ht
        have hall : ([9].all fun u => !Tryd.prog.wantsStandIn u) = true := by kernel_rfl
        exact (show Tryd.prog.wantsStandIn t = false by simpa using List.all_eq_true.1 hall t hm)⟩)
    (by kernel_rfl)
#print axioms stanzaParses_card
end Go.Proofs.YtpiobckemlkomaaDoor
