/- VersionCompares: the order of versions, and whether they are as it is asked, is the document's. No condition; utf8.first and acceptRanges (which TrimLeft's text names, and this call does not read) as the library lays them. -/
import Derived.Test.YtnfnebfioibndaaDoorVerL
import Derived.Lib.SmallJoins
import Derived.Test.YtnfnebfioibndaaDoorLaid
import Derived.Test.YtnfnebfioibndaaDoorTie
import Derived.Test.YtnfnebfioibndaaDoorCards
import Derived.SevenTiedAt
import Derived.Lay
namespace Go.Proofs.YtnfnebfioibndaaDoor
open Go.RowKit Go.ChangeShapes Go.WideShapes Go.ChangeAt

namespace Versioncompares
theorem own : ownKnob Tryd.prog.godebug = none := by kernel_rfl
theorem laidOut : laidOutB Tryd.prog = true := by kernel_rfl

set_option maxRecDepth 100000 in
theorem lifted (os : Os) (started : os.Started) (H : Type) (enc : TypeId × Value → H) :
    ReturnsInHanded {} Tryd.checked os 4 .any (fun w args => (Rows.versionComparesSpec.pre enc Tryd.prog Tryd.f4 [] false w args ∧ laidMetH Tryd.prog Rows.versionComparesRow.laid w) ∧ sizedMet enc Tryd.prog Tryd.f4 (OpenSpec.ofChange Rows.versionComparesSpec) false w args)
      (Rows.versionComparesSpec.post enc Tryd.prog Tryd.f4 false true false false) := by
  refine returnsInHanded_of_change_and (C := Tryd.checked) (X := fun w _ => laidMetH Tryd.prog Rows.versionComparesRow.laid w) (fun _ _ _ hh h => h.of_heap hh) own started (by kernel_rfl) Tryd.func4
    (ChangeSpec.witness_shaped (enc := enc) (C := Tryd.checked) (os := os) (X := fun w _ => laidMetH Tryd.prog Rows.versionComparesRow.laid w) false (World.laidAll Tryd.prog os Rows.versionComparesRow.laid) #[.agg #[.int .i64 0, .string ⟨#[]⟩, .string ⟨#[]⟩], .agg #[.int .i64 0, .string ⟨#[]⟩, .string ⟨#[]⟩], .int .i64 0] 8 (World.laidAll_os _ _ _)
      (World.shaped_of_ZipB (by kernel_rfl) (by kernel_rfl)) (by kernel_rfl) (by kernel_rfl) (by kernel_rfl)
      (by rw [MakeChecks.laidMetH_plain _ _ _ (by kernel_rfl)]; exact laidMet_laidAll _ (by kernel_rfl) (by kernel_rfl))) ?_
  intro W base args ds gs before hval0 hW _ hsz hL _
  have hval : ∀ (j : Nat) t v, Tryd.f4.params[j]? = some t → args[j]? = some v → Value.okWide Tryd.prog W .any base t v := hval0
  have hW' := hW
  obtain ⟨p, q, hA0, hV, rfl, hfz, hnd⟩ := hW
  have hA : DataW.TrodAll enc Tryd.prog W 0 (fun _ => true) true Tryd.f4.params.toList args.toList ds p := hA0
  rw [Tryd.params4] at hA hval
  obtain ⟨v0, vs0, d0, ds0, p0, q0, hargs, rfl, rfl, h0, r0⟩ := trodAll_cons hA
  obtain ⟨v1, vs1, d1, ds1, p1, q1, rfl, rfl, rfl, h1, r1⟩ := trodAll_cons r0
  obtain ⟨v2, vs2, d2, ds2, p2, q2, rfl, rfl, rfl, h2, r2⟩ := trodAll_cons r1
  obtain ⟨rfl, rfl, rfl⟩ := trodAll_nil r2
  obtain rfl : args = #[v0, v1, v2] := by cases args; simp_all
  obtain ⟨rfl, rfl⟩ := trodVars_none hV
  have cV : Tryd.prog.cellsOf 32 = 3 := by kernel_rfl
  obtain ⟨eac, uac, rac, y0, y1, y2, m0, rfl, rfl, rfl, t00, t10, t20⟩ := Joins.open_agg3 Tryd.underlying32 (by kernel_rfl) cV (hval 0 32 v0 rfl rfl) h0
  obtain ⟨ea, e00, rfl, _⟩ := DataW.trod_int Tryd.underlying3 t00
  obtain ⟨ua, e10, rfl, l10⟩ := DataW.trod_string Tryd.underlying9 t10
  obtain ⟨ra, e20, rfl, l20⟩ := DataW.trod_string Tryd.underlying9 t20
  simp only [List.cons.injEq, and_true] at e00 e10 e20
  subst e00 e10 e20
  obtain ⟨ebc, ubc, rbc, y0, y1, y2, m1, rfl, rfl, rfl, t01, t11, t21⟩ := Joins.open_agg3 Tryd.underlying32 (by kernel_rfl) cV (hval 1 32 v1 rfl rfl) h1
  obtain ⟨eb, e01, rfl, _⟩ := DataW.trod_int Tryd.underlying3 t01
  obtain ⟨ub, e11, rfl, l11⟩ := DataW.trod_string Tryd.underlying9 t11
  obtain ⟨rb, e21, rfl, l21⟩ := DataW.trod_string Tryd.underlying9 t21
  simp only [List.cons.injEq, and_true] at e01 e11 e21
  subst e01 e11 e21
  obtain ⟨op, rfl, rfl, rfl, _⟩ := open_int Tryd.underlying3 (hval 2 3 v2 rfl rfl) h2
  unfold maxLen at l10 l20 l11 l21
  refine (versionCompares_calls ea eb op ua ra ub rb W l10 l20 l11 l21).mono fun ev W' ⟨he, hb⟩ => ⟨_, he, ?_⟩
  exact law_post laidOut (by kernel_rfl) hW' rfl rfl rfl Tryd.underlying4 hb

theorem holds : Rows.VersionComparesSaid :=
  OpenClaim.holds_of_wide 4 Tryd.f4 rfl rfl rfl rfl rfl rfl rfl ⟨rfl, rfl, rfl, rfl, rfl⟩ rfl rfl rfl rfl rfl (by kernel_rfl) Tryd.func4 (by kernel_rfl)
    (of_decide_eq_true (by kernel_rfl)) (by unfold Func.isWrapper; rw [if_neg (of_decide_eq_false (by kernel_rfl))]; exact ⟨rfl, rfl⟩)
    (fun os started H enc _ => lifted os started H enc)
end Versioncompares

theorem versionCompares_card : Rows.VersionComparesCardSaid :=
  Claim7.holds_tied_plain_at .later [] [.data, .pinned] true Rows.versionComparesCard.stood.harness true
    Versioncompares.holds (fun _ h => by cases h) (by kernel_rfl) (fun _ h => by cases h) versionCompares_row_tie rfl ⟨rfl, rfl⟩ (by kernel_rfl) rfl
    (fun f fn hf hfn => by
      obtain rfl : f = 4 := Option.some.inj ((show Tryd.prog.funcNamed "stevedore/stevedorelaw.VersionCompares" = some 4 by kernel_rfl).symm.trans hf) |>.symm
      obtain rfl : fn = Tryd.f4 := (Option.some.inj (Tryd.func4.symm.trans hfn)).symm
      exact ⟨by kernel_rfl, fun j t ht => by
        rw [Tryd.params4] at ht
        have hm : t ∈ [32, 32, 3] := by simpa using Array.mem_of_getElem? ht
        have hall : ([32, 32, 3].all fun u => !Tryd.prog.wantsStandIn u) = true := by kernel_rfl
        exact (show Tryd.prog.wantsStandIn t = false by simpa using List.all_eq_true.1 hall t hm)⟩)
    (by kernel_rfl)
#print axioms versionCompares_card
end Go.Proofs.YtnfnebfioibndaaDoor
