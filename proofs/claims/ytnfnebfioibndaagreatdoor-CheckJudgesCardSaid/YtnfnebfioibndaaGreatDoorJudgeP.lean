/- CheckJudges: whether a package's files may come, and whether one may do what it is there for, is the document's. No condition; the variables that it reads (stevedoreref.table, stevedoreref.Fine, status.after, errors.errorType) as the program's text lays them, utf8.first and acceptRanges (not read) as the library lays them. -/
import Derived.Test.YtnfnebfioibndaaGreatDoorJudgeR
import Derived.Test.YtnfnebfioibndaaGreatDoorLaid
import Derived.Test.YtnfnebfioibndaaGreatDoorTie
import Derived.Test.YtnfnebfioibndaaGreatDoorCards
import Derived.SevenTiedAt
import Derived.Lay
namespace Go.Proofs.YtnfnebfioibndaaGreatDoor
open Go.RowKit Go.ChangeShapes Go.WideShapes Go.ChangeAt

namespace Checkjudges
theorem own : ownKnob Tryz.prog.godebug = none := by kernel_rfl
theorem laidOut : laidOutB Tryz.prog = true := by kernel_rfl

theorem n_gT : Tryz.prog.globalNamed "stevedore/stevedoreref.table" = some 2 := by kernel_rfl
theorem n_gA : Tryz.prog.globalNamed "stevedore/status.after" = some 1 := by kernel_rfl
theorem n_gF : Tryz.prog.globalNamed "stevedore/stevedoreref.Fine" = some 0 := by kernel_rfl
theorem n_tT : (Tryz.prog.globals[2]?).map (·.type) = some 149 := by kernel_rfl
theorem n_tA : (Tryz.prog.globals[1]?).map (·.type) = some 148 := by kernel_rfl
theorem n_tF : (Tryz.prog.globals[0]?).map (·.type) = some 42 := by kernel_rfl
theorem n_dT {H : Type} : (Rows.laid_stevedore_stevedoreref_table : DataW H) = .agg ((List.range 10).map fun i => .lit (.string (refT i))) := by rfl
theorem n_dA {H : Type} : (Rows.laid_stevedore_status_after : DataW H) = .agg ((List.range 11).map fun i => .agg ((List.range 8).map fun j => .lit (.int .i64 (afterT i j)))) := by rfl
theorem n_dF {H : Type} : (Rows.laid_stevedore_stevedoreref_Fine : DataW H) = .agg [.lit (.int .i64 0), .lit (.int .i64 (-1))] := by rfl

theorem n_of_laid {W : World} (h : laidMetH Tryz.prog Rows.checkJudgesRow.laid W) : ErrVar W ∧ TabA W ∧ TabR W ∧ FineR W := by
  have h' : laidMet Tryz.prog [("unicode/utf8.acceptRanges", Rows.laid_unicode_utf8_acceptRanges), ("stevedore/stevedoreref.table", Rows.laid_stevedore_stevedoreref_table), ("stevedore/stevedoreref.Fine", Rows.laid_stevedore_stevedoreref_Fine), ("stevedore/status.after", Rows.laid_stevedore_status_after), ("unicode/utf8.first", Rows.laid_unicode_utf8_first)] W ∧ handlesMet Tryz.prog [("errors.errorType", Rows.laid_errors_errorType)] W := h
  have he := handle_cell h'.2
  obtain ⟨ps, ⟨ga, ta, csa, fa, pa, qa, hga, hta, hva, hda, ⟨g0, t0, cs0, f0, p0, q0, hg0, ht0, hv0, hd0, ⟨g2, t2, cs2, f2, p2, q2, hg2, ht2, hv2, hd2, ⟨g1, t1, cs1, f1, p1, q1, hg1, ht1, hv1, hd1, _, _⟩, _⟩, _⟩, _⟩, _, _⟩ := h'.1
  obtain rfl := Option.some.inj (n_gT.symm.trans hg0)
  obtain rfl := Option.some.inj (n_gA.symm.trans hg1)
  obtain rfl := Option.some.inj (n_gF.symm.trans hg2)
  obtain rfl := Option.some.inj (n_tT.symm.trans ht0)
  obtain rfl := Option.some.inj (n_tA.symm.trans ht1)
  obtain rfl := Option.some.inj (n_tF.symm.trans ht2)
  rw [n_dT] at hd0
  rw [n_dA] at hd1
  rw [n_dF] at hd2
  have c1 : Tryz.prog.cellsOf 9 = 1 := by kernel_rfl
  have c2 : Tryz.prog.cellsOf 3 = 1 := by kernel_rfl
  have c3 : Tryz.prog.cellsOf 147 = 8 := by kernel_rfl
  have hR : ∀ e : Nat, e < 10 → W.cell? ⟨2, e, none⟩ = some (.string ⟨(refT e).toArray⟩) := fun e he => by
    have h1 := World.var?_cell n_gT hv0 e
    have h2 := arr_strings Tryz.underlying149 Tryz.underlying9 c1 hd0 e he
    rw [h1, ← h2]; simp
  have hA : ∀ e s : Nat, e < 11 → s < 8 → W.cell? ⟨1, e * 8 + s, none⟩ = some (.int .i64 (afterT e s)) := fun e s he hs => by
    have h1 := World.var?_cell n_gA hv1 (e * 8 + s)
    have h2 := arr_ints2 Tryz.underlying148 Tryz.underlying147 Tryz.underlying3 c2 c3 hd1 e s he hs
    rw [h1, ← h2]; simp
  obtain ⟨k0, k1⟩ := fine_cells hd2
  have hF0 : W.cell? ⟨0, 0, none⟩ = some (.int .i64 0) := by
    have h1 := World.var?_cell n_gF hv2 0
    rw [h1, ← k0]; simp
  have hF1 : W.cell? ⟨0, 1, none⟩ = some (.int .i64 (-1)) := by
    have h1 := World.var?_cell n_gF hv2 1
    rw [h1, ← k1]; simp
  exact ⟨⟨he, cell_lt he⟩, ⟨hA, cell_lt (hA 0 0 (by decide) (by decide))⟩, ⟨hR, cell_lt (hR 0 (by decide))⟩, ⟨cell_lt hF0, hF0, hF1⟩⟩

/-- A world of which the witness is made: errors.errorType is laid by hand, the rest by the kit's function. -/
noncomputable def base0 (os : Os) : World := (World.holding Tryz.prog os ⟨#[], #[], []⟩).setCell ⟨3, 0, none⟩ (.iface 195 (.agg #[.pointer (some ⟨7, 38, none⟩)]))
def LL : List (String × DataW Unit) := Rows.checkJudgesRow.laid.filter fun x => x.2.handleName?.isNone
noncomputable def wit0 (os : Os) : World := (base0 os).layVars Tryz.prog LL
theorem wit0_os (os : Os) : (wit0 os).os = os := World.layVars_os _ _ _
theorem wit0_met (os : Os) (args : Array Value) : laidMet Tryz.prog LL ((wit0 os).forCall (fun _ _ => 0) ⟨#[], args, []⟩).memory := by
  have e1 : (LL.filter fun x => (LL.map (·.1)).contains x.1) = LL := List.filter_eq_self.2 fun x hx => List.contains_iff_mem.2 (List.mem_map.2 ⟨x, hx, rfl⟩)
  have e2 : (LL.filter fun x => !(LL.map (·.1)).contains x.1) = [] := List.filter_eq_nil_iff.2 fun x hx => by rw [List.contains_iff_mem.2 (List.mem_map.2 ⟨x, hx, rfl⟩)]; simp
  have h : laidMet Tryz.prog LL (wit0 os) := laidMet_layVars (w0 := base0 os) (LL.map (·.1)) [] (by rw [e1]; rfl) (by rw [e1]; kernel_rfl) (by rw [e1]; kernel_rfl) (by rw [e2]; exact LaidIn.none)
  exact h.of_heap (by simp [World.memory, World.forCall, Input.heap])

theorem door_met (os : Os) (args : Array Value) : laidMetH Tryz.prog Rows.checkJudgesRow.laid ((wit0 os).forCall (fun _ _ => 0) ⟨#[], args, []⟩).memory :=
  laidMetH_of_parts3 (fuel := 8) (wit0_met os args) (by kernel_rfl) (by kernel_rfl)

set_option maxRecDepth 100000 in
theorem lifted (os : Os) (started : os.Started) (H : Type) (enc : TypeId × Value → H) :
    ReturnsInHanded {} Tryz.checked os 3 .any (fun w args => (Rows.checkJudgesSpec.pre enc Tryz.prog Tryz.f3 [] false w args ∧ laidMetH Tryz.prog Rows.checkJudgesRow.laid w) ∧ sizedMet enc Tryz.prog Tryz.f3 (OpenSpec.ofChange Rows.checkJudgesSpec) false w args)
      (Rows.checkJudgesSpec.post enc Tryz.prog Tryz.f3 false true false false) := by
  refine returnsInHanded_of_change_and (C := Tryz.checked) (X := fun w _ => laidMetH Tryz.prog Rows.checkJudgesRow.laid w) (fun _ _ _ hh h => h.of_heap hh) own started (by kernel_rfl) Tryz.func3
    (ChangeSpec.witness_shaped (enc := enc) (C := Tryz.checked) (os := os) (X := fun w _ => laidMetH Tryz.prog Rows.checkJudgesRow.laid w) false (wit0 os) #[.slice none 0 0, .agg #[.string ⟨#[]⟩, .int .i64 0, .string ⟨#[]⟩, .string ⟨#[]⟩, .slice none 0 0, .slice none 0 0, .slice none 0 0, .slice none 0 0, .slice none 0 0, .slice none 0 0, .slice none 0 0, .slice none 0 0, .slice none 0 0], .int .i64 0, .slice none 0 0] 8 (wit0_os os) (World.shaped_of_ZipB (by kernel_rfl) (by kernel_rfl)) (by kernel_rfl) (by kernel_rfl) (by kernel_rfl) (door_met os _)) ?_
  intro W base args ds gs before hval0 hW _ hsz hL _
  have hval : ∀ (j : Nat) t v, Tryz.f3.params[j]? = some t → args[j]? = some v → Value.okWide Tryz.prog W .any base t v := hval0
  have hW' := hW
  obtain ⟨p, q, hA0, hV, rfl, hfz, hnd⟩ := hW
  have hA : DataW.TrodAll enc Tryz.prog W 0 (fun _ => true) true Tryz.f3.params.toList args.toList ds p := hA0
  rw [Tryz.params3] at hA hval
  obtain ⟨v0, vs0, d0, ds0, p0, q0, hargs, rfl, rfl, h0, r0⟩ := trodAll_cons hA
  obtain ⟨v1, vs1, d1, ds1, p1, q1, rfl, rfl, rfl, h1, r1⟩ := trodAll_cons r0
  obtain ⟨v2, vs2, d2, ds2, p2, q2, rfl, rfl, rfl, h2, r2⟩ := trodAll_cons r1
  obtain ⟨v3, vs3, d3, ds3, p3, q3, rfl, rfl, rfl, h3, r3⟩ := trodAll_cons r2
  obtain ⟨rfl, rfl, rfl⟩ := trodAll_nil r3
  obtain rfl : args = #[v0, v1, v2, v3] := by cases args; simp_all
  obtain ⟨rfl, rfl⟩ := trodVars_none hV
  obtain ⟨a0, n0, c0, rfl⟩ := okWide_slice Tryz.underlying22 (hval 0 22 v0 rfl rfl)
  obtain ⟨a3, n3, c3, rfl⟩ := okWide_slice Tryz.underlying31 (hval 3 31 v3 rfl rfl)
  obtain ⟨fu0, hf0⟩ := h0
  obtain ⟨fu3, hf3⟩ := h3
  obtain ⟨ks, hK⟩ := rd_knowns (v := .slice a0 n0 c0) hf0
  obtain ⟨ws, hI⟩ := rd_ints (v := .slice a3 n3 c3) hf3
  obtain ⟨q, dv, av, gv, bv, rv, pv, sv, lv, pa, pn, pc, rfl, hPV⟩ := rd_packArg (hval 1 30 v1 rfl rfl) h1
  obtain ⟨which, rfl, rfl, rfl, _⟩ := open_int Tryz.underlying3 (hval 2 3 v2 rfl rfl) h2
  obtain ⟨hE, hTA, hTR, hFi⟩ := n_of_laid hL
  refine (checkJudges_calls _ _ ks q dv av gv bv rv pv sv lv pa pn pc which ws W hK hPV hI hTA hTR hE hFi).mono fun ev W' ⟨he, hb⟩ => ⟨_, he, ?_⟩
  exact law_post laidOut (by kernel_rfl) hW' rfl rfl rfl Tryz.underlying4 hb

theorem holds : Rows.CheckJudgesSaid :=
  OpenClaim.holds_of_wide 3 Tryz.f3 rfl rfl rfl rfl rfl rfl rfl ⟨rfl, rfl, rfl, rfl, rfl⟩ rfl rfl rfl rfl rfl (by kernel_rfl) Tryz.func3 (by kernel_rfl)
    (of_decide_eq_true (by kernel_rfl)) (by unfold Func.isWrapper; rw [if_neg (of_decide_eq_false (by kernel_rfl))]; exact ⟨rfl, rfl⟩)
    (fun os started H enc _ => lifted os started H enc)
end Checkjudges

theorem checkJudges_card : Rows.CheckJudgesCardSaid :=
  Claim7.holds_tied_plain_at .later [] [.data, .handle, .data, .data, .data, .pinned] true Rows.checkJudgesCard.stood.harness true
    Checkjudges.holds (fun _ h => by cases h) (by kernel_rfl) (fun _ h => by cases h) checkJudges_row_tie rfl ⟨rfl, rfl⟩ (by kernel_rfl) rfl
    (fun f fn hf hfn => by
      obtain rfl : f = 3 := Option.some.inj ((show Tryz.prog.funcNamed "stevedore/stevedorelaw.CheckJudges" = some 3 by kernel_rfl).symm.trans hf) |>.symm
      obtain rfl : fn = Tryz.f3 := (Option.some.inj (Tryz.func3.symm.trans hfn)).symm
      exact ⟨by kernel_rfl, fun j t ht => by
        rw [Tryz.params3] at ht
        have hm : t ∈ [22, 30, 3, 31] := by simpa using Array.mem_of_getElem? ht
        have hall : ([22, 30, 3, 31].all fun u => !Tryz.prog.wantsStandIn u) = true := by kernel_rfl
        exact (show Tryz.prog.wantsStandIn t = false by simpa using List.all_eq_true.1 hall t hm)⟩)
    (by kernel_rfl)
#print axioms checkJudges_card
end Go.Proofs.YtnfnebfioibndaaGreatDoor
