/- A map from numbers to numbers, in memory: how often each was told. -/
import Derived.Test.YtnfnebfioibndaaDoorMapV
namespace Go.Proofs.YtnfnebfioibndaaDoor
open Go.RowKit Go.Maps
set_option maxRecDepth 10000

def litI (u : Nat) : Lit := .int .i64 ((u : Nat) : Int)
def MapI (P : Program) (k : TypeId) (w : World) (b n : Nat) (told : Nat → Nat) : Prop :=
  ∃ D : DataW Value, w.ownsMap P k anyR b n D ∧ ∀ u, D.atKey (litI u) (.held (.int .i64 0)) = .held (.int .i64 ((told u : Nat) : Int))
section
variable {P : Program} {k : TypeId} {w : World} {b n : Nat} {f : Nat → Nat}
theorem MapI.lt (h : MapI P k w b n f) : b < w.heap.size := by
  obtain ⟨D, h, _⟩ := h
  exact h.lt
theorem MapI.made (w : World) (P : Program) (k : TypeId) : MapI P k (w.alloc (.map #[] 0)) w.heap.size 0 (fun _ => 0) :=
  ⟨_, World.ownsMap_made w P k anyR, fun _ => rfl⟩
theorem MapI.keep {w' : World} (h : MapI P k w b n f) (hk : w'.heap[b]? = w.heap[b]?) : MapI P k w' b n f := by
  obtain ⟨D, ⟨es, clock, hb, r⟩, h2⟩ := h
  exact ⟨D, ⟨es, clock, hk.trans hb, r⟩, h2⟩
theorem MapI.below {w' : World} (h : MapI P k w b n f) {B : Nat} (hb : Below B w w') (hB : b < B) : MapI P k w' b n f := h.keep (hb.block b hB)
theorem MapI.grown {w' : World} {row : Option Nat} (h : MapI P k w b n f) (hg : w.grownBy w' row) (hne : some b ≠ row) : MapI P k w' b n f := h.keep (hg.block b h.lt hne)
theorem keyOf_i (hk : P.underlying k = some (.int .i64)) {u : Nat} (hu : u ≤ 1000000) : keyOf P k (.int .i64 ((u : Nat) : Int)) = some (litI u) := Go.Maps.keyOf_int_mk hk (by have h1 : IntKind.i64.min = -9223372036854775808 := rfl; have h2 : IntKind.i64.max = 9223372036854775807 := rfl; simp [Lit.wf, h1, h2]; omega)
theorem MapI.look {t e : TypeId} (h : MapI P k w b n f) (hk : P.underlying k = some (.int .i64)) (ht : P.underlying t = some (.map k e)) (hz : (zeroValue e).run P w = .ok (.int .i64 0) w) {u : Nat} (hu : u ≤ 1000000) :
    (Instr.lookup t (.map (some b)) (.int .i64 ((u : Nat) : Int)) false).run P w = .ok (.int .i64 ((f u : Nat) : Int)) w := by
  obtain ⟨D, hD, h2⟩ := h
  obtain ⟨v, ps, hrun, hv⟩ := hD.lookup (int_keyed hk) ht hz (zd := .held (.int .i64 0)) (zp := []) rfl (keyOf_i hk hu)
  rw [h2 u] at hv
  have : v = .int .i64 ((f u : Nat) : Int) := by
    unfold anyR at hv
    simp only [Option.some.injEq, Prod.mk.injEq, DataW.held.injEq] at hv
    exact hv.1
  rw [← this]
  exact hrun
theorem MapI.store {t e : TypeId} (h : MapI P k w b n f) (hk : P.underlying k = some (.int .i64)) (ht : P.underlying t = some (.map k e)) (hn : n < maxLen) {u : Nat} (hu : u ≤ 1000000) (m : Nat) :
    ∃ w', (Instr.mapUpdate t (.map (some b)) (.int .i64 ((u : Nat) : Int)) (.int .i64 ((m : Nat) : Int))).run P w = .ok () w' ∧ MapI P k w' b (n + 1) (fun x => if x = u then m else f x) ∧ w.grownBy w' (some b) := by
  obtain ⟨D, hD, h2⟩ := h
  obtain ⟨w', hrun, hD', hg⟩ := hD.update (int_keyed hk) ht hn (d := .held (.int .i64 ((m : Nat) : Int))) (ps := []) (keyOf_i hk hu) rfl
  refine ⟨w', hrun, ⟨_, hD', fun x => ?_⟩, hg⟩
  by_cases e : x = u
  · subst e
    show _ = DataW.held (Value.int .i64 (((if x = x then m else f x : Nat)) : Int))
    rw [if_pos rfl]
    exact atKey_put_same hD.isMap (show WideAt.IsKeyLit (litI x) from trivial) _ _
  · have hne : litI x ≠ litI u := by
      intro h
      unfold litI at h
      injection h with _ h
      exact e (by omega)
    show _ = DataW.held (Value.int .i64 (((if x = u then m else f x : Nat)) : Int))
    rw [if_neg e, atKey_put_other hne]
    exact h2 x
end
section
variable {P : Program} (w : World) {ops : Array Oper} {rest : List Oper} {o : Oper} {a : Act} {Q : Exit → Act → World → Prop}
theorem wpList_lookI (hg : o.guard = none) (m x : Operand) (t : TypeId) (hop : o.op = Op.lookup t m x false) (k e : TypeId) (hk : P.underlying k = some (.int .i64)) (ht : P.underlying t = some (.map k e)) (hz : (zeroValue e).run P w = .ok (.int .i64 0) w) (b n : Nat) (f : Nat → Nat)
    (hm : a.eval m = .map (some b)) (h : MapI P k w b n f) (u : Nat) (hx : a.eval x = .int .i64 ((u : Nat) : Int)) (hu : u ≤ 1000000) (c : Nat) (hc : f u = c)
    (hK : wpList P ops Q rest (a.put o.dst (.int .i64 ((c : Nat) : Int))) w) : wpList P ops Q (o :: rest) a w := by
  refine wpList_plain hg fun K' hK' => ?_
  unfold Oper.wp
  have hrun := h.look hk ht hz hu
  rw [hc] at hrun
  simp [execOp, hop, hm, hx, hrun, Result.andThen]
  exact hK' _ _ hK
theorem wpList_lookIw (hw : Region.wanted o (yielded ops a.tmps) = true) (m x : Operand) (t : TypeId) (hop : o.op = Op.lookup t m x false) (k e : TypeId) (hk : P.underlying k = some (.int .i64)) (ht : P.underlying t = some (.map k e)) (hz : (zeroValue e).run P w = .ok (.int .i64 0) w) (b n : Nat) (f : Nat → Nat)
    (hm : a.eval m = .map (some b)) (h : MapI P k w b n f) (u : Nat) (hx : a.eval x = .int .i64 ((u : Nat) : Int)) (hu : u ≤ 1000000) (c : Nat) (hc : f u = c)
    (hK : wpList P ops Q rest (a.put o.dst (.int .i64 ((c : Nat) : Int))) w) : wpList P ops Q (o :: rest) a w := by
  refine wpList_step fun K' hK' => ?_
  rw [if_pos hw]
  unfold Oper.wp
  have hrun := h.look hk ht hz hu
  rw [hc] at hrun
  simp [execOp, hop, hm, hx, hrun, Result.andThen]
  exact hK' _ _ hK
theorem wpList_storeI (hg : o.guard = none) (m x v : Operand) (t : TypeId) (hop : o.op = Op.mapUpdate t m x v) (k e : TypeId) (hk : P.underlying k = some (.int .i64)) (ht : P.underlying t = some (.map k e)) (b n : Nat) (f : Nat → Nat)
    (hm : a.eval m = .map (some b)) (h : MapI P k w b n f) (hn : n < maxLen) (u : Nat) (hx : a.eval x = .int .i64 ((u : Nat) : Int)) (hu : u ≤ 1000000) (c : Nat) (hv : a.eval v = .int .i64 ((c : Nat) : Int))
    (hK : ∀ w', MapI P k w' b (n + 1) (fun x => if x = u then c else f x) → w.grownBy w' (some b) → wpList P ops Q rest (a.put o.dst undef) w') : wpList P ops Q (o :: rest) a w := by
  refine wpList_plain hg fun K' hK' => ?_
  obtain ⟨w', hrun, r1, r2⟩ := h.store hk ht hn hu c
  unfold Oper.wp
  simp [execOp, hop, hm, hx, hv, hrun, Result.andThen]
  exact hK' _ _ (hK w' r1 r2)
end
end Go.Proofs.YtnfnebfioibndaaDoor
