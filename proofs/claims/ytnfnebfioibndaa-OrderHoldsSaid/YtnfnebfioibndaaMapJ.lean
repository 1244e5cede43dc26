/- Maps keyed by numbers, in memory, as functions from keys to values; whatever the values are. (Written from XMapV by gen_mapj.py.) -/
import Derived.Test.YtnfnebfioibndaaMapV
namespace Go.Proofs.Ytnfnebfioibndaa
open Go.RowKit Go.Maps
set_option maxRecDepth 10000

def litJ (s : Int) : Lit := .int .i64 s
theorem litJ_inj {a b : Int} (h : litJ a = litJ b) : a = b := by
  unfold litJ at h
  injection h with _ h
def InJ (s : Int) : Prop := -9223372036854775808 ≤ s ∧ s ≤ 9223372036854775807
abbrev MapG := Int → Option Value
def putJ (f : MapG) (s : Int) (v : Option Value) : MapG := fun x => if x = s then v else f x
theorem putJ_same (f : MapG) (s : Int) (v : Option Value) : putJ f s v s = v := by simp [putJ]
theorem putJ_ne (f : MapG) {s x : Int} (v : Option Value) (h : x ≠ s) : putJ f s v x = f x := by simp [putJ, h]
/-- Block b is a map of at most n entries; f tells what stands at a key. -/
def MapJ (P : Program) (k : TypeId) (w : World) (b n : Nat) (f : MapG) : Prop :=
  ∃ D : DataW Value, w.ownsMap P k anyR b n D ∧ ∀ s, Maps.has D (litJ s) = (f s).isSome ∧ ∀ v, f s = some v → ∀ z, D.atKey (litJ s) z = .held v

section
variable {P : Program} {k : TypeId} {w : World} {b n : Nat} {f : MapG}
theorem MapJ.lt (h : MapJ P k w b n f) : b < w.heap.size := by
  obtain ⟨D, h, _⟩ := h
  exact h.lt
theorem MapJ.made (w : World) (P : Program) (k : TypeId) : MapJ P k (w.alloc (.map #[] 0)) w.heap.size 0 (fun _ => none) :=
  ⟨_, World.ownsMap_made w P k anyR, fun s => ⟨rfl, fun v h => by cases h⟩⟩
theorem MapJ.mono (h : MapJ P k w b n f) {m : Nat} (hm : n ≤ m) : MapJ P k w b m f := by
  obtain ⟨D, h, h2⟩ := h
  exact ⟨D, h.mono hm, h2⟩
theorem MapJ.keep {w' : World} (h : MapJ P k w b n f) (hk : w'.heap[b]? = w.heap[b]?) : MapJ P k w' b n f := by
  obtain ⟨D, ⟨es, clock, hb, r⟩, h2⟩ := h
  exact ⟨D, ⟨es, clock, hk.trans hb, r⟩, h2⟩
theorem MapJ.below {w' : World} (h : MapJ P k w b n f) {B : Nat} (hb : Below B w w') (hB : b < B) : MapJ P k w' b n f := h.keep (hb.block b hB)
theorem MapJ.cell {w' : World} (h : MapJ P k w b n f) {a : Addr} (ha : b ≠ a.block) (v : Value) : MapJ P k (w.setCell a v) b n f := h.keep (Below.heap_setCell w a v b ha)
theorem MapJ.grown {w' : World} {row : Option Nat} (h : MapJ P k w b n f) (hg : w.grownBy w' row) (hne : some b ≠ row) : MapJ P k w' b n f := h.keep (hg.block b h.lt hne)
theorem MapJ.congr (h : MapJ P k w b n f) {g : MapG} (hg : ∀ s, f s = g s) : MapJ P k w b n g := by
  have : f = g := funext hg
  rw [← this]; exact h

theorem keyOf_j (hk : P.underlying k = some (.int .i64)) {s : Int} (hs : InJ s) : keyOf P k (.int .i64 s) = some (litJ s) := Go.Maps.keyOf_int_mk hk (by have h1 : IntKind.i64.min = -9223372036854775808 := rfl; have h2 : IntKind.i64.max = 9223372036854775807 := rfl; unfold InJ at hs; simp [Lit.wf, h1, h2]; omega)
theorem keyOf_j_inv (hk : P.underlying k = some (.int .i64)) {key : Value} {kl : Lit} (h : keyOf P k key = some kl) : ∃ s : Int, key = .int .i64 s ∧ kl = litJ s := by
  obtain ⟨x, h1, h2, _⟩ := Maps.keyOf_int_inv hk h
  exact ⟨x, h1, h2⟩
theorem isKey_j (s : Int) : WideAt.IsKeyLit (litJ s) := trivial

/-- What comes back of a look-up. -/
def gotJ (f : MapG) (z : Value) (s : Int) : Value := (f s).getD z
theorem MapJ.look_ok {t e : TypeId} (h : MapJ P k w b n f) (hk : P.underlying k = some (.int .i64)) (ht : P.underlying t = some (.map k e)) {z : Value} (hz : (zeroValue e).run P w = .ok z w) {s : Int} (hs : InJ s) :
    (Instr.lookup t (.map (some b)) (.int .i64 s) true).run P w = .ok (.tuple #[gotJ f z s, .bool (f s).isSome]) w := by
  obtain ⟨D, hD, h2⟩ := h
  obtain ⟨e1, e2⟩ := h2 s
  obtain ⟨v, ps, hrun, hv⟩ := hD.look_ok (int_keyed hk) ht hz (zd := .held z) (zp := []) rfl (keyOf_j hk hs)
  rw [e1] at hrun
  have hat : D.atKey (litJ s) (.held z) = .held (gotJ f z s) := by
    unfold gotJ
    cases hf : f s with
    | some u => exact e2 u hf _
    | none => exact atKey_of_not_has (by rw [e1, hf]; rfl) _
  rw [hat] at hv
  have : v = gotJ f z s := by
    unfold anyR at hv
    simp only [Option.some.injEq, Prod.mk.injEq, DataW.held.injEq] at hv
    exact hv.1
  rw [← this]
  exact hrun
theorem MapJ.look {t e : TypeId} (h : MapJ P k w b n f) (hk : P.underlying k = some (.int .i64)) (ht : P.underlying t = some (.map k e)) {z : Value} (hz : (zeroValue e).run P w = .ok z w) {s : Int} (hs : InJ s) :
    (Instr.lookup t (.map (some b)) (.int .i64 s) false).run P w = .ok (gotJ f z s) w := by
  obtain ⟨D, hD, h2⟩ := h
  obtain ⟨e1, e2⟩ := h2 s
  obtain ⟨v, ps, hrun, hv⟩ := hD.lookup (int_keyed hk) ht hz (zd := .held z) (zp := []) rfl (keyOf_j hk hs)
  have hat : D.atKey (litJ s) (.held z) = .held (gotJ f z s) := by
    unfold gotJ
    cases hf : f s with
    | some u => exact e2 u hf _
    | none => exact atKey_of_not_has (by rw [e1, hf]; rfl) _
  rw [hat] at hv
  have : v = gotJ f z s := by
    unfold anyR at hv
    simp only [Option.some.injEq, Prod.mk.injEq, DataW.held.injEq] at hv
    exact hv.1
  rw [← this]
  exact hrun
theorem MapJ.put_view {D : DataW Value} (hm : IsMap D) (h2 : ∀ s, Maps.has D (litJ s) = (f s).isSome ∧ ∀ v, f s = some v → ∀ z, D.atKey (litJ s) z = .held v) (s : Int) (v : Value) :
    ∀ x, Maps.has (D.put (litJ s) (.held v)) (litJ x) = (putJ f s (some v) x).isSome ∧ ∀ u, putJ f s (some v) x = some u → ∀ z, (D.put (litJ s) (.held v)).atKey (litJ x) z = .held u := by
  intro x
  by_cases e : x = s
  · subst e
    refine ⟨by rw [putJ_same, has_put_same hm (isKey_j x)]; rfl, fun u hu z => ?_⟩
    rw [putJ_same] at hu
    injection hu with hu
    rw [← hu]
    exact atKey_put_same hm (isKey_j x) _ _
  · have hne : litJ x ≠ litJ s := fun h => e (litJ_inj h)
    refine ⟨by rw [putJ_ne _ _ e, has_put_other hne]; exact (h2 x).1, fun u hu z => ?_⟩
    rw [putJ_ne _ _ e] at hu
    rw [atKey_put_other hne]
    exact (h2 x).2 u hu z
theorem MapJ.del_view {D : DataW Value} (h2 : ∀ s, Maps.has D (litJ s) = (f s).isSome ∧ ∀ v, f s = some v → ∀ z, D.atKey (litJ s) z = .held v) (s : Int) :
    ∀ x, Maps.has (D.del (litJ s)) (litJ x) = (putJ f s none x).isSome ∧ ∀ u, putJ f s none x = some u → ∀ z, (D.del (litJ s)).atKey (litJ x) z = .held u := by
  intro x
  by_cases e : x = s
  · subst e
    refine ⟨by rw [putJ_same, has_del_same]; rfl, fun u hu z => ?_⟩
    rw [putJ_same] at hu
    cases hu
  · have hne : litJ x ≠ litJ s := fun h => e (litJ_inj h)
    refine ⟨by rw [putJ_ne _ _ e, has_del_other hne]; exact (h2 x).1, fun u hu z => ?_⟩
    rw [putJ_ne _ _ e] at hu
    rw [atKey_del_other hne]
    exact (h2 x).2 u hu z
theorem MapJ.store {t e : TypeId} (h : MapJ P k w b n f) (hk : P.underlying k = some (.int .i64)) (ht : P.underlying t = some (.map k e)) (hn : n < maxLen) {s : Int} (hs : InJ s) (v : Value) :
    ∃ w', (Instr.mapUpdate t (.map (some b)) (.int .i64 s) v).run P w = .ok () w' ∧ MapJ P k w' b (n + 1) (putJ f s (some v)) ∧ w.grownBy w' (some b) := by
  obtain ⟨D, hD, h2⟩ := h
  obtain ⟨w', hrun, hD', hg⟩ := hD.update (int_keyed hk) ht hn (d := .held v) (ps := []) (keyOf_j hk hs) rfl
  exact ⟨w', hrun, ⟨_, hD', MapJ.put_view hD.isMap h2 s v⟩, hg⟩
theorem MapJ.drop {t e : TypeId} (h : MapJ P k w b n f) (hk : P.underlying k = some (.int .i64)) (ht : P.underlying t = some (.map k e)) {s : Int} (hs : InJ s) (ty : TypeId) :
    ∃ w', (Builtin.delete_ #[t, k] ty #[.map (some b), .int .i64 s]).run P w = .ok (.tuple #[]) w' ∧ MapJ P k w' b n (putJ f s none) ∧ w.grownBy w' (some b) := by
  obtain ⟨D, hD, h2⟩ := h
  obtain ⟨w', hrun, hD', hg⟩ := hD.drop (int_keyed hk) ht (keyOf_j hk hs) ty
  exact ⟨w', hrun, ⟨_, hD', MapJ.del_view h2 s⟩, hg.grown⟩

/-! ### how many entries, and which keys -/
/-- The keys of f, each once. -/
structure KeysJ (f : MapG) (ks : List Int) : Prop where
  nodup : ks.Nodup
  mem : ∀ s, s ∈ ks ↔ (f s).isSome = true
theorem KeysJ.perm {f : MapG} {a b : List Int} (ha : KeysJ f a) (hb : KeysJ f b) : a.Perm b :=
  (List.perm_ext_iff_of_nodup ha.nodup hb.nodup).2 fun s => (ha.mem s).trans (hb.mem s).symm
theorem KeysJ.len {f : MapG} {a b : List Int} (ha : KeysJ f a) (hb : KeysJ f b) : a.length = b.length := (ha.perm hb).length_eq
theorem KeysJ.nil : KeysJ (fun _ => none) [] := ⟨List.nodup_nil, fun s => by simp⟩
theorem KeysJ.put {f : MapG} {ks : List Int} (h : KeysJ f ks) (s : Int) (v : Value) : KeysJ (putJ f s (some v)) (if (f s).isSome then ks else s :: ks) := by
  cases hf : (f s).isSome
  · have hn : s ∉ ks := fun hm => by rw [(h.mem s).1 hm] at hf; cases hf
    refine ⟨by simpa using ⟨hn, h.nodup⟩, fun x => ?_⟩
    by_cases e : x = s
    · subst e; simp [putJ_same]
    · simp [putJ_ne _ _ e, e, h.mem]
  · refine ⟨by simpa using h.nodup, fun x => ?_⟩
    by_cases e : x = s
    · subst e; simp [putJ_same, (h.mem x).2 hf]
    · simp [putJ_ne _ _ e, h.mem]
theorem KeysJ.del {f : MapG} {ks : List Int} (h : KeysJ f ks) (s : Int) : KeysJ (putJ f s none) (ks.filter fun x => !decide (x = s)) := by
  refine ⟨h.nodup.filter _, fun x => ?_⟩
  by_cases e : x = s
  · subst e; simp [putJ_same]
  · simp [putJ_ne _ _ e, e, h.mem]
theorem MapJ.keys (h : MapJ P k w b n f) (hk : P.underlying k = some (.int .i64)) : ∃ ks, KeysJ f ks ∧ ks.length ≤ n ∧ ∀ {t e : TypeId}, P.underlying t = some (.map k e) → ∀ ty, (Builtin.len_ #[t] ty #[.map (some b)]).run P w = .ok (.int .i64 ((ks.length : Nat) : Int)) w := by
  obtain ⟨D, hD, h2⟩ := h
  have hsz := hD.size_le
  have hlen : ∀ {t e : TypeId}, P.underlying t = some (.map k e) → ∀ ty, (Builtin.len_ #[t] ty #[.map (some b)]).run P w = .ok (.int .i64 (Maps.size D)) w := fun ht ty => hD.len ht ty
  obtain ⟨es, clock, hb, F, hs, rfl⟩ := hD
  have hks := Maps.fit_keys F
  have hap := Maps.fit_apart (int_keyed hk) F
  obtain ⟨L, hL⟩ : ∃ L : List (Lit × DataW Value), L = es.toList.map (Go.WideElems.rg P k anyR) := ⟨_, rfl⟩
  rw [← hL] at hks hap h2 hsz hlen
  have hstr : ∀ p ∈ L, ∃ s : Int, p.1 = litJ s := fun p hp => by
    obtain ⟨v, hv⟩ := hks p hp
    obtain ⟨s, _, h⟩ := keyOf_j_inv hk hv
    exact ⟨s, h⟩
  -- the keys as texts
  have key : ∃ ks : List Int, ks.map litJ = L.map (·.1) := by
    clear hL h2 hsz hlen hap hks
    induction L with
    | nil => exact ⟨[], rfl⟩
    | cons p L ih =>
      obtain ⟨s, hs⟩ := hstr p (List.mem_cons_self ..)
      obtain ⟨ks, hk⟩ := ih (fun q hq => hstr q (List.mem_cons_of_mem _ hq))
      exact ⟨s :: ks, by simp [hs, hk]⟩
  obtain ⟨ks, hkk⟩ := key
  have hll : ks.length = L.length := by have := congrArg List.length hkk; simpa using this
  have hsize : Maps.size (DataW.map (L.foldr DataW.insert [])) = ks.length := by rw [hll]; simp [Maps.size, length_sorted]
  rw [hsize] at hsz hlen
  refine ⟨ks, ⟨?_, fun s => ?_⟩, hsz, hlen⟩
  · have h1 : (L.map (·.1)).Nodup := List.pairwise_map.2 hap
    rw [← hkk] at h1
    exact List.Pairwise.imp (fun hne e => hne (by rw [e])) (List.pairwise_map.1 h1)
  · rw [← (h2 s).1, Maps.has_eq, List.any_eq_true]
    constructor
    · intro hm
      have : litJ s ∈ L.map (·.1) := by rw [← hkk]; exact List.mem_map_of_mem hm
      obtain ⟨p, hp, he⟩ := List.mem_map.1 this
      exact ⟨p, Go.mem_sorted.2 hp, by rw [he]; exact WideAt.sameKey_self (isKey_j s)⟩
    · rintro ⟨p, hp, he⟩
      have hp := Go.mem_sorted.1 hp
      have : litJ s ∈ ks.map litJ := by rw [hkk]; exact List.mem_map.2 ⟨p, hp, WideAt.sameKey_eq he⟩
      obtain ⟨x, hx, e⟩ := List.mem_map.1 this
      rw [← litJ_inj e]
      exact hx
end

/-! ### at the operation, for the walk -/
section
variable {P : Program} (w : World) {ops : Array Oper} {rest : List Oper} {o : Oper} {a : Act} {Q : Exit → Act → World → Prop}
theorem wpList_lookJ_ok (hg : o.guard = none) (m x : Operand) (t : TypeId) (hop : o.op = Op.lookup t m x true) (k e : TypeId) (hk : P.underlying k = some (.int .i64)) (ht : P.underlying t = some (.map k e)) (z : Value) (hz : (zeroValue e).run P w = .ok z w) (b n : Nat) (f : MapG)
    (hm : a.eval m = .map (some b)) (h : MapJ P k w b n f) (s : Int) (hx : a.eval x = .int .i64 s) (hs : InJ s) (v : Value) (y : Bool) (hv : gotJ f z s = v) (hy : (f s).isSome = y)
    (hK : wpList P ops Q rest (a.put o.dst (.tuple #[v, .bool y])) w) : wpList P ops Q (o :: rest) a w := by
  refine wpList_plain hg fun K' hK' => ?_
  unfold Oper.wp
  have hrun := h.look_ok hk ht hz hs
  rw [hv, hy] at hrun
  simp [execOp, hop, hm, hx, hrun, Result.andThen]
  exact hK' _ _ hK
theorem wpList_lookJ (hg : o.guard = none) (m x : Operand) (t : TypeId) (hop : o.op = Op.lookup t m x false) (k e : TypeId) (hk : P.underlying k = some (.int .i64)) (ht : P.underlying t = some (.map k e)) (z : Value) (hz : (zeroValue e).run P w = .ok z w) (b n : Nat) (f : MapG)
    (hm : a.eval m = .map (some b)) (h : MapJ P k w b n f) (s : Int) (hx : a.eval x = .int .i64 s) (hs : InJ s) (v : Value) (hv : gotJ f z s = v)
    (hK : wpList P ops Q rest (a.put o.dst v) w) : wpList P ops Q (o :: rest) a w := by
  refine wpList_plain hg fun K' hK' => ?_
  unfold Oper.wp
  have hrun := h.look hk ht hz hs
  rw [hv] at hrun
  simp [execOp, hop, hm, hx, hrun, Result.andThen]
  exact hK' _ _ hK
theorem wpList_storeJ (hg : o.guard = none) (m x v : Operand) (t : TypeId) (hop : o.op = Op.mapUpdate t m x v) (k e : TypeId) (hk : P.underlying k = some (.int .i64)) (ht : P.underlying t = some (.map k e)) (b n : Nat) (f : MapG)
    (hm : a.eval m = .map (some b)) (h : MapJ P k w b n f) (hn : n < maxLen) (s : Int) (hx : a.eval x = .int .i64 s) (hs : InJ s) (val : Value) (hv : a.eval v = val)
    (hK : ∀ w', MapJ P k w' b (n + 1) (putJ f s (some val)) → w.grownBy w' (some b) → wpList P ops Q rest (a.put o.dst undef) w') : wpList P ops Q (o :: rest) a w := by
  refine wpList_plain hg fun K' hK' => ?_
  obtain ⟨w', hrun, r1, r2⟩ := h.store hk ht hn hs val
  unfold Oper.wp
  simp [execOp, hop, hm, hx, hv, hrun, Result.andThen]
  exact hK' _ _ (hK w' r1 r2)
theorem wpList_delJ (hg : o.guard = none) (m x : Operand) (t k : TypeId) (hop : o.op = Op.call { callee := Callee.builtin Builtin.delete, args := #[m, x], argTypes := #[t, k] }) (e : TypeId) (hk : P.underlying k = some (.int .i64)) (ht : P.underlying t = some (.map k e)) (b n : Nat) (f : MapG)
    (hm : a.eval m = .map (some b)) (h : MapJ P k w b n f) (s : Int) (hx : a.eval x = .int .i64 s) (hs : InJ s)
    (hK : ∀ w', MapJ P k w' b n (putJ f s none) → w.grownBy w' (some b) → wpList P ops Q rest (a.put o.dst (.tuple #[])) w') : wpList P ops Q (o :: rest) a w := by
  refine wpList_plain hg fun K' hK' => ?_
  obtain ⟨w', hrun, r1, r2⟩ := h.drop hk ht hs o.type
  unfold Oper.wp
  simp [execOp, hop, resolve, invoke, builtin, hm, hx, hrun, Result.andThen]
  exact hK' _ _ (hK w' r1 r2)
theorem wpList_lenJ (hg : o.guard = none) (m : Operand) (t : TypeId) (hop : o.op = Op.call { callee := Callee.builtin Builtin.len, args := #[m], argTypes := #[t] }) (k e : TypeId) (hk : P.underlying k = some (.int .i64)) (ht : P.underlying t = some (.map k e)) (b n : Nat) (f : MapG)
    (hm : a.eval m = .map (some b)) (h : MapJ P k w b n f) (ks : List Int) (hks : KeysJ f ks)
    (hK : wpList P ops Q rest (a.put o.dst (.int .i64 ((ks.length : Nat) : Int))) w) : wpList P ops Q (o :: rest) a w := by
  refine wpList_plain hg fun K' hK' => ?_
  obtain ⟨ks', hks', _, hlen⟩ := h.keys hk
  have hrun := hlen ht o.type
  rw [hks'.len hks] at hrun
  unfold Oper.wp
  simp [execOp, hop, resolve, invoke, builtin, hm, hrun, Result.andThen]
  exact hK' _ _ hK
theorem wpList_lookJw (hw : Region.wanted o (yielded ops a.tmps) = true) (m x : Operand) (t : TypeId) (hop : o.op = Op.lookup t m x false) (k e : TypeId) (hk : P.underlying k = some (.int .i64)) (ht : P.underlying t = some (.map k e)) (z : Value) (hz : (zeroValue e).run P w = .ok z w) (b n : Nat) (f : MapG)
    (hm : a.eval m = .map (some b)) (h : MapJ P k w b n f) (s : Int) (hx : a.eval x = .int .i64 s) (hs : InJ s) (v : Value) (hv : gotJ f z s = v)
    (hK : wpList P ops Q rest (a.put o.dst v) w) : wpList P ops Q (o :: rest) a w := by
  refine wpList_step fun K' hK' => ?_
  rw [if_pos hw]
  unfold Oper.wp
  have hrun := h.look hk ht hz hs
  rw [hv] at hrun
  simp [execOp, hop, hm, hx, hrun, Result.andThen]
  exact hK' _ _ hK
theorem wpList_lenJw (hw : Region.wanted o (yielded ops a.tmps) = true) (m : Operand) (t : TypeId) (hop : o.op = Op.call { callee := Callee.builtin Builtin.len, args := #[m], argTypes := #[t] }) (k e : TypeId) (hk : P.underlying k = some (.int .i64)) (ht : P.underlying t = some (.map k e)) (b n : Nat) (f : MapG)
    (hm : a.eval m = .map (some b)) (h : MapJ P k w b n f) (ks : List Int) (hks : KeysJ f ks)
    (hK : wpList P ops Q rest (a.put o.dst (.int .i64 ((ks.length : Nat) : Int))) w) : wpList P ops Q (o :: rest) a w := by
  refine wpList_step fun K' hK' => ?_
  rw [if_pos hw]
  obtain ⟨ks', hks', _, hlen⟩ := h.keys hk
  have hrun := hlen ht o.type
  rw [hks'.len hks] at hrun
  unfold Oper.wp
  simp [execOp, hop, resolve, invoke, builtin, hm, hrun, Result.andThen]
  exact hK' _ _ hK
end
end Go.Proofs.Ytnfnebfioibndaa
