/- Readers for CheckJudges' arguments and variables. -/
import Derived.Test.YtnfnebfioibndaaGreatDoorJudgeL
import Derived.Test.YtnfnebfioibndaaGreatDoorLaid
import Derived.Lib.SmallJoins
namespace Go.Proofs.YtnfnebfioibndaaGreatDoor
open Go.RowKit Go.ChangeShapes Go.WideShapes Go.ChangeAt
set_option maxRecDepth 100000

section
variable {H : Type} {enc : TypeId × Value → H} {w : World} {base fuel : Nat} {sp : Nat → Bool} {held : Bool} {x : DataW H × List MemPlace}

theorem rd_ints {v : Value} (h : DataW.trod enc Tryz.prog w base sp held fuel 31 [v] = some x) : ∃ ns, Ints w v ns := by
  obtain ⟨n, m, R, hS, hE⟩ := open_sl Tryz.underlying31 r_cInt (by decide) h
  obtain ⟨T, hT⟩ := Deep.choose_lt (α := Int) (p := fun i t => R i 0 = .int .i64 t) (fun i (hi : i < n) => by
    obtain ⟨t, ht, _⟩ := rd_int (hE i hi).choose_spec
    exact ⟨t, ht⟩)
  refine ⟨(List.range n).map T, ?_, trivial⟩
  rw [List.length_map, List.length_range]
  refine hS.congr fun i j hi hj => ?_
  rw [show j = 0 by omega, hT i hi]
  simp [List.getD, hi]

theorem rd_packArg {r : Reach} {b0 : Nat} {v : Value} {d : DataW H} {p : List MemPlace} (hv : Value.okWide Tryz.prog w r b0 30 v) (h : DataW.Trod enc Tryz.prog w base sp held 30 v d p) :
    ∃ (q : PackD) (dv av gv bv rv pv sv lv : Value) (pa : Option Addr) (pn pc : Nat), v = .agg #[.string q.name, .int .i64 q.ep, .string q.up, .string q.rv, dv, av, gv, bv, rv, pv, sv, lv, .slice pa pn pc] ∧ PackV w q dv av gv bv rv pv sv lv pa pn pc := by
  obtain ⟨cs, rfl, hsz⟩ := okWide_struct Tryz.underlying30 hv
  rw [r_cPack] at hsz
  obtain ⟨l⟩ := cs
  have hl : l.length = 13 := by simpa using hsz
  obtain ⟨fuel, hf⟩ := h
  match l, hl, hf with
  | [x0, x1, x2, x3, x4, x5, x6, x7, x8, x9, x10, x11, x12], _, hf =>
    have hf' : DataW.trod enc Tryz.prog w base sp held fuel 30 ((List.range 13).map fun j => [x0, x1, x2, x3, x4, x5, x6, x7, x8, x9, x10, x11, x12].getD j .nilFunc) = some (d, p) := hf
    obtain ⟨q, hq⟩ := rd_pack hf'
    obtain ⟨dv, av, gv, bv, rv, pv, sv, lv, fa, fn, fc, e4, e5, e6, e7, e8, e9, e10, e11, e12, hV⟩ := hq.cells
    have e0 : x0 = .string q.name := hq.name
    have e1 : x1 = .int .i64 q.ep := hq.ep
    have e2 : x2 = .string q.up := hq.up
    have e3 : x3 = .string q.rv := hq.rv
    have e4' : x4 = dv := e4
    have e5' : x5 = av := e5
    have e6' : x6 = gv := e6
    have e7' : x7 = bv := e7
    have e8' : x8 = rv := e8
    have e9' : x9 = pv := e9
    have e10' : x10 = sv := e10
    have e11' : x11 = lv := e11
    have e12' : x12 = .slice fa fn fc := e12
    exact ⟨q, dv, av, gv, bv, rv, pv, sv, lv, fa, fn, fc, by rw [e0, e1, e2, e3, e4', e5', e6', e7', e8', e9', e10', e11', e12'], hV⟩

theorem fine_cells {cs : List Value} {p : List MemPlace} (hd : DataW.trod enc Tryz.prog w base sp held fuel 42 cs = some (.agg [.lit (.int .i64 0), .lit (.int .i64 (-1))], p)) : cs[0]? = some (.int .i64 0) ∧ cs[1]? = some (.int .i64 (-1)) := by
  obtain ⟨y0, y1, n, hx, _, h0, h1⟩ := trod_struct2 Tryz.underlying42 hd
  have cE : Tryz.prog.cellsOf 40 = 1 := by kernel_rfl
  obtain ⟨z0, a0, b0, _⟩ := DataW.trod_int Tryz.underlying40 h0
  obtain ⟨z1, a1, b1, _⟩ := DataW.trod_int Tryz.underlying3 h1
  rw [cE] at a0
  rw [r_cInt] at a1
  subst b0 b1
  simp only [Prod.mk.injEq, DataW.agg.injEq, List.cons.injEq, DataW.lit.injEq, Lit.int.injEq, and_true, true_and] at hx
  have k0 : cs[0]? = some (.int .i64 z0) := seg_one (i := 0) a0
  have k1 : cs[1]? = some (.int .i64 z1) := seg_one (i := 1) a1
  rw [k0, k1]
  exact ⟨by rw [← hx.1.1], by rw [← hx.1.2]⟩
end
end Go.Proofs.YtnfnebfioibndaaGreatDoor
