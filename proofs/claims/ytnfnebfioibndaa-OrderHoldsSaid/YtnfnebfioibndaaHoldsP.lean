/- OrderHolds: who comes ahead stands ahead. No condition. Down from the row's reading to edges; (plain seat). -/
import Derived.Test.YtnfnebfioibndaaHoldsN
import Derived.Test.YtnfnebfioibndaaBase
import Derived.Test.YtnfnebfioibndaaData
import Derived.Deep.Strs
import Derived.Lay
namespace Go.Proofs.Ytnfnebfioibndaa
open Go.RowKit Go.ChangeShapes Go.WideShapes Go.ChangeAt

theorem re_cInt : Try.prog.cellsOf 3 = 1 := by kernel_rfl
section
variable {H : Type} {enc : TypeId × Value → H} {w : World} {base fuel : Nat} {sp : Nat → Bool} {held : Bool} {x : DataW H × List MemPlace}
theorem re_int {v : Value} (h : DataW.trod enc Try.prog w base sp held fuel 3 [v] = some x) : ∃ n : Int, v = .int .i64 n := by
  obtain ⟨n, h1, _, h2⟩ := DataW.trod_int Try.underlying3 h
  exact ⟨n, by simpa using h1⟩
theorem re_cEdge : Try.prog.cellsOf 38 = 2 := by kernel_rfl
theorem rd_edges {v : Value} (h : DataW.trod enc Try.prog w base sp held fuel 26 [v] = some x) : ∃ es, Edges w v es := by
  obtain ⟨n, m, R, hS, hE⟩ := open_sl Try.underlying26 re_cEdge (by decide) h
  obtain ⟨T, hT⟩ := Deep.choose_lt (α := EdgeD) (p := fun i e => R i 0 = .int .i64 e.1 ∧ R i 1 = .int .i64 e.2) (fun i (hi : i < n) => by
    obtain ⟨y, hy⟩ := hE i hi
    obtain ⟨y0, y1, n, _, _, h0, h1⟩ := trod_struct2 Try.underlying38 hy
    rw [re_cInt] at h0 h1
    obtain ⟨a, ha⟩ := re_int (v := R i 0) h0
    obtain ⟨b, hb⟩ := re_int (v := R i 1) h1
    exact ⟨(a, b), ha, hb⟩)
  refine ⟨(List.range n).map T, ?_⟩
  unfold Edges
  rw [List.length_map, List.length_range]
  refine hS.congr fun i j hi hj => ?_
  have hg : ((List.range n).map T).getD i (0, 0) = T i := by simp [List.getD, hi]
  rw [hg]
  match j, hj with
  | 0, _ => exact (hT i hi).1
  | 1, _ => exact (hT i hi).2
end

theorem own : ownKnob Try.prog.godebug = none := by kernel_rfl
theorem laidOut : laidOutB Try.prog = true := by kernel_rfl
set_option maxRecDepth 100000 in
theorem holds_lifted (os : Os) (started : os.Started) (H : Type) (enc : TypeId × Value → H) :
    ReturnsInHanded {} Try.checked os 4 .any (Rows.orderHoldsSpec.pre6 enc Try.prog Try.f4 Rows.orderHoldsRow.domain false) (Rows.orderHoldsSpec.post enc Try.prog Try.f4 false true false false) := by
  refine returnsInHanded_of_change (C := Try.checked) own started (by kernel_rfl) Try.func4
    (ChangeSpec.witness6 (enc := enc) (C := Try.checked) false ⟨#[], #[.int .i64 0, .slice none 0 0, .slice none 0 0], []⟩ 8 (by kernel_rfl) (by kernel_rfl) (by kernel_rfl) (by kernel_rfl)) ?_
  intro W base args ds gs before hval0 hW hcnd _
  have hval : ∀ (j : Nat) t v, Try.f4.params[j]? = some t → args[j]? = some v → Value.okWide Try.prog W .any base t v := hval0
  have hW' := hW
  obtain ⟨p, q, hA0, hV, rfl, _, _⟩ := hW
  have hA : DataW.TrodAll enc Try.prog W 0 (fun _ => true) true Try.f4.params.toList args.toList ds p := hA0
  rw [Try.params4] at hA hval
  obtain ⟨v0, vs0, d0, ds0, p0, q0, hargs, rfl, rfl, h0, r0⟩ := trodAll_cons hA
  obtain ⟨v1, vs1, d1, ds1, p1, q1, rfl, rfl, rfl, h1, r1⟩ := trodAll_cons r0
  obtain ⟨v2, vs2, d2, ds2, p2, q2, rfl, rfl, rfl, h2, r2⟩ := trodAll_cons r1
  obtain ⟨rfl, rfl, rfl⟩ := trodAll_nil r2
  obtain rfl : args = #[v0, v1, v2] := by cases args; simp_all
  obtain ⟨rfl, rfl⟩ := trodVars_none hV
  obtain ⟨n, rfl, rfl, rfl, _⟩ := open_int Try.underlying3 (hval 0 3 v0 rfl rfl) h0
  obtain ⟨a1, n1, c1, rfl⟩ := okWide_slice Try.underlying26 (hval 1 26 v1 rfl rfl)
  obtain ⟨a2, n2, c2, rfl⟩ := okWide_slice Try.underlying26 (hval 2 26 v2 rfl rfl)
  obtain ⟨fu1, hf1⟩ := h1
  obtain ⟨fu2, hf2⟩ := h2
  obtain ⟨es, hEs⟩ := rd_edges (v := .slice a1 n1 c1) hf1
  obtain ⟨fs, hFs⟩ := rd_edges (v := .slice a2 n2 c2) hf2
  refine (orderHolds_calls _ _ es fs n W hEs hFs).mono fun e W' ⟨he, hb⟩ => ⟨_, he, ?_⟩
  exact law_post laidOut (by kernel_rfl) hW' rfl rfl rfl Try.underlying4 hb

theorem orderHolds_holds : Rows.OrderHoldsSaid :=
  OpenClaim.holds_of_wide 4 Try.f4 rfl rfl rfl rfl rfl rfl rfl ⟨rfl, rfl, rfl, rfl, rfl⟩ rfl rfl rfl rfl rfl (by kernel_rfl) Try.func4 (by kernel_rfl)
    (of_decide_eq_true (by kernel_rfl)) (by unfold Func.isWrapper; rw [if_neg (of_decide_eq_false (by kernel_rfl))]; exact ⟨rfl, rfl⟩)
    (fun os started H enc _ => holds_lifted os started H enc)
#print axioms orderHolds_holds
end Go.Proofs.Ytnfnebfioibndaa
