/- Maps keyed by strings, in memory, as functions from keys to values; whatever the values are. -/
import Derived.Test.YtodmnogoacghpaaGreatDoorM01
import Derived.Maps.OwnSet
import Derived.Maps.OwnOps
import Derived.Maps.RangeWalk
import Derived.Lib.Hide
namespace Go.Proofs.YtodmnogoacghpaaGreatDoor
open Go.RowKit Go.Maps
set_option maxRecDepth 10000

def anyR (v : Value) : Option (DataW Value × List MemPlace) := some (.held v, [])
def litS (s : ByteArray) : Lit := .string s.data.toList
theorem litS_inj {a b : ByteArray} (h : litS a = litS b) : a = b := by
  unfold litS at h
  injection h with h
  have : a.data = b.data := by rw [← Array.toArray_toList (xs := a.data), h, Array.toArray_toList]
  cases a; cases b; simp_all
abbrev MapF := ByteArray → Option Value
def putM (f : MapF) (s : ByteArray) (v : Option Value) : MapF := fun x => if x = s then v else f x
theorem putM_same (f : MapF) (s : ByteArray) (v : Option Value) : putM f s v s = v := by simp [putM]
theorem putM_ne (f : MapF) {s x : ByteArray} (v : Option Value) (h : x ≠ s) : putM f s v x = f x := by simp [putM, h]
/-- Block b is a map of at most n entries; f tells what stands at a key. -/
def MapV (P : Program) (k : TypeId) (w : World) (b n : Nat) (f : MapF) : Prop :=
  ∃ D : DataW Value, w.ownsMap P k anyR b n D ∧ ∀ s, Maps.has D (litS s) = (f s).isSome ∧ ∀ v, f s = some v → ∀ z, D.atKey (litS s) z = .held v

section
variable {P : Program} {k : TypeId} {w : World} {b n : Nat} {f : MapF}
theorem MapV.lt (h : MapV P k w b n f) : b < w.heap.size := by
  obtain ⟨D, h, _⟩ := h
  exact h.lt
theorem MapV.made (w : World) (P : Program) (k : TypeId) : MapV P k (w.alloc (.map #[] 0)) w.heap.size 0 (fun _ => none) :=
  ⟨_, World.ownsMap_made w P k anyR, fun s => ⟨rfl, fun v h => by cases h⟩⟩
theorem MapV.mono (h : MapV P k w b n f) {m : Nat} (hm : n ≤ m) : MapV P k w b m f := by
  obtain ⟨D, h, h2⟩ := h
  exact ⟨D, h.mono hm, h2⟩
theorem MapV.keep {w' : World} (h : MapV P k w b n f) (hk : w'.heap[b]? = w.heap[b]?) : MapV P k w' b n f := by
  obtain ⟨D, ⟨es, clock, hb, r⟩, h2⟩ := h
  exact ⟨D, ⟨es, clock, hk.trans hb, r⟩, h2⟩
theorem MapV.below {w' : World} (h : MapV P k w b n f) {B : Nat} (hb : Below B w w') (hB : b < B) : MapV P k w' b n f := h.keep (hb.block b hB)
theorem MapV.cell (h : MapV P k w b n f) {a : Addr} (ha : b ≠ a.block) (v : Value) : MapV P k (w.setCell a v) b n f := h.keep (Below.heap_setCell w a v b ha)
theorem MapV.grown {w' : World} {row : Option Nat} (h : MapV P k w b n f) (hg : w.grownBy w' row) (hne : some b ≠ row) : MapV P k w' b n f := h.keep (hg.block b h.lt hne)
theorem MapV.congr (h : MapV P k w b n f) {g : MapF} (hg : ∀ s, f s = g s) : MapV P k w b n g := by
  have : f = g := funext hg
  rw [← this]; exact h

theorem keyOf_s (hk : P.underlying k = some .string) {s : ByteArray} (hs : s.size ≤ maxLen) : keyOf P k (.string s) = some (litS s) := Go.WideMaps.keyOf_string_mk hk hs
theorem keyOf_s_inv (hk : P.underlying k = some .string) {key : Value} {kl : Lit} (h : keyOf P k key = some kl) : ∃ s : ByteArray, key = .string s ∧ kl = litS s ∧ s.size ≤ maxLen := by
  obtain ⟨s, e, h1, h2⟩ : ∃ s : ByteArray, key = .string s ∧ kl = litS s ∧ s.size ≤ maxLen := by
    cases key <;> simp [keyOf, mapKey, hk] at h
    exact ⟨_, rfl, h.2.symm, h.1⟩
  exact ⟨s, e, h1, h2⟩
theorem isKey_s (s : ByteArray) : WideAt.IsKeyLit (litS s) := trivial

/-- What comes back of a look-up. -/
def gotV (f : MapF) (z : Value) (s : ByteArray) : Value := (f s).getD z
theorem MapV.look_ok {t e : TypeId} (h : MapV P k w b n f) (hk : P.underlying k = some .string) (ht : P.underlying t = some (.map k e)) {z : Value} (hz : (zeroValue e).run P w = .ok z w) {s : ByteArray} (hs : s.size ≤ maxLen) :
    (Instr.lookup t (.map (some b)) (.string s) true).run P w = .ok (.tuple #[gotV f z s, .bool (f s).isSome]) w := by
  obtain ⟨D, hD, h2⟩ := h
  obtain ⟨e1, e2⟩ := h2 s
  obtain ⟨v, ps, hrun, hv⟩ := hD.look_ok (string_keyed hk) ht hz (zd := .held z) (zp := []) rfl (keyOf_s hk hs)
  rw [e1] at hrun
  have hat : D.atKey (litS s) (.held z) = .held (gotV f z s) := by
    unfold gotV
    cases hf : f s with
    | some u => exact e2 u hf _
    | none => exact atKey_of_not_has (by rw [e1, hf]; rfl) _
  rw [hat] at hv
  have : v = gotV f z s := by
    unfold anyR at hv
    simp only [Option.some.injEq, Prod.mk.injEq, DataW.held.injEq] at hv
    exact hv.1
  rw [← this]
  exact hrun
theorem MapV.look {t e : TypeId} (h : MapV P k w b n f) (hk : P.underlying k = some .string) (ht : P.underlying t = some (.map k e)) {z : Value} (hz : (zeroValue e).run P w = .ok z w) {s : ByteArray} (hs : s.size ≤ maxLen) :
    (Instr.lookup t (.map (some b)) (.string s) false).run P w = .ok (gotV f z s) w := by
  obtain ⟨D, hD, h2⟩ := h
  obtain ⟨e1, e2⟩ := h2 s
  obtain ⟨v, ps, hrun, hv⟩ := hD.lookup (string_keyed hk) ht hz (zd := .held z) (zp := []) rfl (keyOf_s hk hs)
  have hat : D.atKey (litS s) (.held z) = .held (gotV f z s) := by
    unfold gotV
    cases hf : f s with
    | some u => exact e2 u hf _
    | none => exact atKey_of_not_has (by rw [e1, hf]; rfl) _
  rw [hat] at hv
  have : v = gotV f z s := by
    unfold anyR at hv
    simp only [Option.some.injEq, Prod.mk.injEq, DataW.held.injEq] at hv
    exact hv.1
  rw [← this]
  exact hrun
theorem MapV.put_view {D : DataW Value} (hm : IsMap D) (h2 : ∀ s, Maps.has D (litS s) = (f s).isSome ∧ ∀ v, f s = some v → ∀ z, D.atKey (litS s) z = .held v) (s : ByteArray) (v : Value) :
    ∀ x, Maps.has (D.put (litS s) (.held v)) (litS x) = (putM f s (some v) x).isSome ∧ ∀ u, putM f s (some v) x = some u → ∀ z, (D.put (litS s) (.held v)).atKey (litS x) z = .held u := by
  intro x
  by_cases e : x = s
  · subst e
    refine ⟨by rw [putM_same, has_put_same hm (isKey_s x)]; rfl, fun u hu z => ?_⟩
    rw [putM_same] at hu
    injection hu with hu
    rw [← hu]
    exact atKey_put_same hm (isKey_s x) _ _
  · have hne : litS x ≠ litS s := fun h => e (litS_inj h)
    refine ⟨by rw [putM_ne _ _ e, has_put_other hne]; exact (h2 x).1, fun u hu z => ?_⟩
    rw [putM_ne _ _ e] at hu
    rw [atKey_put_other hne]
    exact (h2 x).2 u hu z
theorem MapV.del_view {D : DataW Value} (h2 : ∀ s, Maps.has D (litS s) = (f s).isSome ∧ ∀ v, f s = some v → ∀ z, D.atKey (litS s) z = .held v) (s : ByteArray) :
    ∀ x, Maps.has (D.del (litS s)) (litS x) = (putM f s none x).isSome ∧ ∀ u, putM f s none x = some u → ∀ z, (D.del (litS s)).atKey (litS x) z = .held u := by
  intro x
  by_cases e : x = s
  · subst e
    refine ⟨by rw [putM_same, has_del_same]; rfl, fun u hu z => ?_⟩
    rw [putM_same] at hu
    cases hu
  · have hne : litS x ≠ litS s := fun h => e (litS_inj h)
    refine ⟨by rw [putM_ne _ _ e, has_del_other hne]; exact (h2 x).1, fun u hu z => ?_⟩
    rw [putM_ne _ _ e] at hu
    rw [atKey_del_other hne]
    exact (h2 x).2 u hu z
theorem MapV.store {t e : TypeId} (h : MapV P k w b n f) (hk : P.underlying k = some .string) (ht : P.underlying t = some (.map k e)) (hn : n < maxLen) {s : ByteArray} (hs : s.size ≤ maxLen) (v : Value) :
    ∃ w', (Instr.mapUpdate t (.map (some b)) (.string s) v).run P w = .ok () w' ∧ MapV P k w' b (n + 1) (putM f s (some v)) ∧ w.grownBy w' (some b) := by
  obtain ⟨D, hD, h2⟩ := h
  obtain ⟨w', hrun, hD', hg⟩ := hD.update (string_keyed hk) ht hn (d := .held v) (ps := []) (keyOf_s hk hs) rfl
  exact ⟨w', hrun, ⟨_, hD', MapV.put_view hD.isMap h2 s v⟩, hg⟩
theorem MapV.drop {t e : TypeId} (h : MapV P k w b n f) (hk : P.underlying k = some .string) (ht : P.underlying t = some (.map k e)) {s : ByteArray} (hs : s.size ≤ maxLen) (ty : TypeId) :
    ∃ w', (Builtin.delete_ #[t, k] ty #[.map (some b), .string s]).run P w = .ok (.tuple #[]) w' ∧ MapV P k w' b n (putM f s none) ∧ w.grownBy w' (some b) := by
  obtain ⟨D, hD, h2⟩ := h
  obtain ⟨w', hrun, hD', hg⟩ := hD.drop (string_keyed hk) ht (keyOf_s hk hs) ty
  exact ⟨w', hrun, ⟨_, hD', MapV.del_view h2 s⟩, hg.grown⟩

/-! ### how many entries, and which keys -/
/-- The keys of f, each once. -/
structure KeysM (f : MapF) (ks : List ByteArray) : Prop where
  nodup : ks.Nodup
  mem : ∀ s, s ∈ ks ↔ (f s).isSome = true
theorem KeysM.perm {f : MapF} {a b : List ByteArray} (ha : KeysM f a) (hb : KeysM f b) : a.Perm b :=
  (List.perm_ext_iff_of_nodup ha.nodup hb.nodup).2 fun s => (ha.mem s).trans (hb.mem s).symm
theorem KeysM.len {f : MapF} {a b : List ByteArray} (ha : KeysM f a) (hb : KeysM f b) : a.length = b.length := (ha.perm hb).length_eq
theorem KeysM.nil : KeysM (fun _ => none) [] := ⟨List.nodup_nil, fun s => by simp⟩
theorem KeysM.put {f : MapF} {ks : List ByteArray} (h : KeysM f ks) (s : ByteArray) (v : Value) : KeysM (putM f s (some v)) (if (f s).isSome then ks else s :: ks) := by
  cases hf : (f s).isSome
  · have hn : s ∉ ks := fun hm => by rw [(h.mem s).1 hm] at hf; cases hf
    refine ⟨by simpa using ⟨hn, h.nodup⟩, fun x => ?_⟩
    by_cases e : x = s
    · subst e; simp [putM_same]
    · simp [putM_ne _ _ e, e, h.mem]
  · refine ⟨by simpa using h.nodup, fun x => ?_⟩
    by_cases e : x = s
    · subst e; simp [putM_same, (h.mem x).2 hf]
    · simp [putM_ne _ _ e, h.mem]
theorem KeysM.del {f : MapF} {ks : List ByteArray} (h : KeysM f ks) (s : ByteArray) : KeysM (putM f s none) (ks.filter fun x => !decide (x = s)) := by
  refine ⟨h.nodup.filter _, fun x => ?_⟩
  by_cases e : x = s
  · subst e; simp [putM_same]
  · simp [putM_ne _ _ e, e, h.mem]
theorem MapV.keys0 (h : MapV P k w b n f) (hk : P.underlying k = some .string) : ∃ ks, KeysM f ks ∧ MapV P k w b ks.length f ∧ ks.length ≤ n ∧ ∀ {t e : TypeId}, P.underlying t = some (.map k e) → ∀ ty, (Builtin.len_ #[t] ty #[.map (some b)]).run P w = .ok (.int .i64 ((ks.length : Nat) : Int)) w := by
  obtain ⟨D, hD, h2⟩ := h
  have h0 := h2
  have hsz := hD.size_le
  have hlen : ∀ {t e : TypeId}, P.underlying t = some (.map k e) → ∀ ty, (Builtin.len_ #[t] ty #[.map (some b)]).run P w = .ok (.int .i64 (Maps.size D)) w := fun ht ty => hD.len ht ty
  obtain ⟨es, clock, hb, F, hs, rfl⟩ := hD
  have hks := Maps.fit_keys F
  have hap := Maps.fit_apart (string_keyed hk) F
  have hst : ∀ j, es.size ≤ j → MapV P k w b j f := fun j hj => ⟨_, ⟨es, clock, hb, F, hj, rfl⟩, h0⟩
  obtain ⟨L, hL⟩ : ∃ L : List (Lit × DataW Value), L = es.toList.map (Go.WideElems.rg P k anyR) := ⟨_, rfl⟩
  have hLs : L.length = es.size := by rw [hL]; simp
  rw [← hL] at hks hap h2 hsz hlen
  have hstr : ∀ p ∈ L, ∃ s : ByteArray, p.1 = litS s := fun p hp => by
    obtain ⟨v, hv⟩ := hks p hp
    obtain ⟨s, _, h, _⟩ := keyOf_s_inv hk hv
    exact ⟨s, h⟩
  -- the keys as texts
  have key : ∃ ks : List ByteArray, ks.map litS = L.map (·.1) := by
    clear hL hLs h2 hsz hlen hap hks
    induction L with
    | nil => exact ⟨[], rfl⟩
    | cons p L ih =>
      obtain ⟨s, hs⟩ := hstr p (List.mem_cons_self ..)
      obtain ⟨ks, hk⟩ := ih (fun q hq => hstr q (List.mem_cons_of_mem _ hq))
      exact ⟨s :: ks, by simp [hs, hk]⟩
  obtain ⟨ks, hkk⟩ := key
  have hll : ks.length = L.length := by have := congrArg List.length hkk; simpa using this
  have hsize : Maps.size (DataW.map (L.foldr DataW.insert [])) = ks.length := by rw [hll]; simp [Maps.size, length_sorted]
  rw [hsize] at hsz hlen
  refine ⟨ks, ⟨?_, fun s => ?_⟩, hst _ (by omega), hsz, hlen⟩
  · have h1 : (L.map (·.1)).Nodup := List.pairwise_map.2 hap
    rw [← hkk] at h1
    exact List.Pairwise.imp (fun hne e => hne (by rw [e])) (List.pairwise_map.1 h1)
  · rw [← (h2 s).1, Maps.has_eq, List.any_eq_true]
    constructor
    · intro hm
      have : litS s ∈ L.map (·.1) := by rw [← hkk]; exact List.mem_map_of_mem hm
      obtain ⟨p, hp, he⟩ := List.mem_map.1 this
      exact ⟨p, Go.mem_sorted.2 hp, by rw [he]; exact WideAt.sameKey_self (isKey_s s)⟩
    · rintro ⟨p, hp, he⟩
      have hp := Go.mem_sorted.1 hp
      have : litS s ∈ ks.map litS := by rw [hkk]; exact List.mem_map.2 ⟨p, hp, WideAt.sameKey_eq he⟩
      obtain ⟨x, hx, e⟩ := List.mem_map.1 this
      rw [← litS_inj e]
      exact hx

theorem MapV.keys (h : MapV P k w b n f) (hk : P.underlying k = some .string) : ∃ ks, KeysM f ks ∧ ks.length ≤ n ∧ ∀ {t e : TypeId}, P.underlying t = some (.map k e) → ∀ ty, (Builtin.len_ #[t] ty #[.map (some b)]).run P w = .ok (.int .i64 ((ks.length : Nat) : Int)) w := by
  obtain ⟨ks, h1, _, h2, h3⟩ := h.keys0 hk
  exact ⟨ks, h1, h2, h3⟩
/-- As many entries as keys. -/
theorem MapV.fit (h : MapV P k w b n f) (hk : P.underlying k = some .string) {ks : List ByteArray} (hK : KeysM f ks) {m : Nat} (hm : ks.length ≤ m) : MapV P k w b m f := by
  obtain ⟨js, h1, h2, _, _⟩ := h.keys0 hk
  rw [h1.len hK] at h2
  exact h2.mono hm
end

/-! ### at the operation, for the walk -/
section
variable {P : Program} (w : World) {ops : Array Oper} {rest : List Oper} {o : Oper} {a : Act} {Q : Exit → Act → World → Prop}
theorem wpList_lookV_ok (hg : o.guard = none) (m x : Operand) (t : TypeId) (hop : o.op = Op.lookup t m x true) (k e : TypeId) (hk : P.underlying k = some .string) (ht : P.underlying t = some (.map k e)) (z : Value) (hz : (zeroValue e).run P w = .ok z w) (b n : Nat) (f : MapF)
    (hm : a.eval m = .map (some b)) (h : MapV P k w b n f) (s : ByteArray) (hx : a.eval x = .string s) (hs : s.size ≤ maxLen) (v : Value) (y : Bool) (hv : gotV f z s = v) (hy : (f s).isSome = y)
    (hK : wpList P ops Q rest (a.put o.dst (.tuple #[v, .bool y])) w) : wpList P ops Q (o :: rest) a w := by
  refine wpList_plain hg fun K' hK' => ?_
  unfold Oper.wp
  have hrun := h.look_ok hk ht hz hs
  rw [hv, hy] at hrun
  simp [execOp, hop, hm, hx, hrun, Result.andThen]
  exact hK' _ _ hK
theorem wpList_lookV (hg : o.guard = none) (m x : Operand) (t : TypeId) (hop : o.op = Op.lookup t m x false) (k e : TypeId) (hk : P.underlying k = some .string) (ht : P.underlying t = some (.map k e)) (z : Value) (hz : (zeroValue e).run P w = .ok z w) (b n : Nat) (f : MapF)
    (hm : a.eval m = .map (some b)) (h : MapV P k w b n f) (s : ByteArray) (hx : a.eval x = .string s) (hs : s.size ≤ maxLen) (v : Value) (hv : gotV f z s = v)
    (hK : wpList P ops Q rest (a.put o.dst v) w) : wpList P ops Q (o :: rest) a w := by
  refine wpList_plain hg fun K' hK' => ?_
  unfold Oper.wp
  have hrun := h.look hk ht hz hs
  rw [hv] at hrun
  simp [execOp, hop, hm, hx, hrun, Result.andThen]
  exact hK' _ _ hK
theorem wpList_storeV (hg : o.guard = none) (m x v : Operand) (t : TypeId) (hop : o.op = Op.mapUpdate t m x v) (k e : TypeId) (hk : P.underlying k = some .string) (ht : P.underlying t = some (.map k e)) (b n : Nat) (f : MapF)
    (hm : a.eval m = .map (some b)) (h : MapV P k w b n f) (hn : n < maxLen) (s : ByteArray) (hx : a.eval x = .string s) (hs : s.size ≤ maxLen) (val : Value) (hv : a.eval v = val)
    (hK : ∀ w', MapV P k w' b (n + 1) (putM f s (some val)) → w.grownBy w' (some b) → wpList P ops Q rest (a.put o.dst undef) w') : wpList P ops Q (o :: rest) a w := by
  refine wpList_plain hg fun K' hK' => ?_
  obtain ⟨w', hrun, r1, r2⟩ := h.store hk ht hn hs val
  unfold Oper.wp
  simp [execOp, hop, hm, hx, hv, hrun, Result.andThen]
  exact hK' _ _ (hK w' r1 r2)
theorem wpList_delV (hg : o.guard = none) (m x : Operand) (t k : TypeId) (hop : o.op = Op.call { callee := Callee.builtin Builtin.delete, args := #[m, x], argTypes := #[t, k] }) (e : TypeId) (hk : P.underlying k = some .string) (ht : P.underlying t = some (.map k e)) (b n : Nat) (f : MapF)
    (hm : a.eval m = .map (some b)) (h : MapV P k w b n f) (s : ByteArray) (hx : a.eval x = .string s) (hs : s.size ≤ maxLen)
    (hK : ∀ w', MapV P k w' b n (putM f s none) → w.grownBy w' (some b) → wpList P ops Q rest (a.put o.dst (.tuple #[])) w') : wpList P ops Q (o :: rest) a w := by
  refine wpList_plain hg fun K' hK' => ?_
  obtain ⟨w', hrun, r1, r2⟩ := h.drop hk ht hs o.type
  unfold Oper.wp
  simp [execOp, hop, resolve, invoke, builtin, hm, hx, hrun, Result.andThen]
  exact hK' _ _ (hK w' r1 r2)
theorem wpList_lenV (hg : o.guard = none) (m : Operand) (t : TypeId) (hop : o.op = Op.call { callee := Callee.builtin Builtin.len, args := #[m], argTypes := #[t] }) (k e : TypeId) (hk : P.underlying k = some .string) (ht : P.underlying t = some (.map k e)) (b n : Nat) (f : MapF)
    (hm : a.eval m = .map (some b)) (h : MapV P k w b n f) (ks : List ByteArray) (hks : KeysM f ks)
    (hK : wpList P ops Q rest (a.put o.dst (.int .i64 ((ks.length : Nat) : Int))) w) : wpList P ops Q (o :: rest) a w := by
  refine wpList_plain hg fun K' hK' => ?_
  obtain ⟨ks', hks', _, hlen⟩ := h.keys hk
  have hrun := hlen ht o.type
  rw [hks'.len hks] at hrun
  unfold Oper.wp
  simp [execOp, hop, resolve, invoke, builtin, hm, hrun, Result.andThen]
  exact hK' _ _ hK

/-! ### ranging -/
/-- An iterator (block r) over the map in block b; left: is it still to come? -/
def RangeV (P : Program) (k : TypeId) (w : World) (b r n : Nat) (f : MapF) (left : ByteArray → Bool) (cnt : Nat) : Prop :=
  ∃ (D : DataW Value) (lf : Lit → Bool), w.ranges P k anyR b r n D lf cnt ∧ (∀ s, Maps.has D (litS s) = (f s).isSome ∧ ∀ v, f s = some v → ∀ z, D.atKey (litS s) z = .held v) ∧ (∀ s, lf (litS s) = left s)
variable {k : TypeId} {b r n : Nat} {f : MapF} {left : ByteArray → Bool} {cnt : Nat} {w0 : World}
theorem RangeV.map (h : RangeV P k w0 b r n f left cnt) : MapV P k w0 b n f := by
  obtain ⟨D, lf, h1, h2, _⟩ := h
  exact ⟨D, h1.owns, h2⟩
theorem RangeV.lt (h : RangeV P k w0 b r n f left cnt) : r < w0.heap.size := by
  obtain ⟨D, lf, h1, h2, _⟩ := h
  exact h1.lt
theorem RangeV.kept {w' : World} {row : Option Nat} (h : RangeV P k w0 b r n f left cnt) (hg : w0.grownBy w' row) (hb : some b ≠ row) (hr : some r ≠ row) : RangeV P k w' b r n f left cnt := by
  obtain ⟨D, lf, h1, h2, h3⟩ := h
  exact ⟨D, lf, h1.kept hg hb hr, h2, h3⟩
theorem RangeV.keep {w' : World} (h : RangeV P k w0 b r n f left cnt) (hb : w'.heap[b]? = w0.heap[b]?) (hr : w'.heap[r]? = w0.heap[r]?) : RangeV P k w' b r n f left cnt := by
  obtain ⟨D, lf, ⟨es, clock, since, seen, c0, hb0, F, hs, hD, hr0, rest⟩, h2, h3⟩ := h
  exact ⟨D, lf, ⟨es, clock, since, seen, c0, hb.trans hb0, F, hs, hD, hr.trans hr0, rest⟩, h2, h3⟩
theorem wpList_rangeV (hg : o.guard = none) (m : Operand) (t : TypeId) (hop : o.op = Op.range t m) (k e : TypeId) (hk : P.underlying k = some .string) (ht : P.underlying t = some (.map k e)) (b n : Nat) (f : MapF)
    (hm : a.eval m = .map (some b)) (h : MapV P k w b n f)
    (hK : ∀ w' cnt, RangeV P k w' b w.heap.size n f (fun s => (f s).isSome) cnt → w.grownBy w' none → w'.heap.size = w.heap.size + 1 → wpList P ops Q rest (a.put o.dst (.pointer (some ⟨w.heap.size, 0, none⟩))) w') : wpList P ops Q (o :: rest) a w := by
  obtain ⟨D, hD, h2⟩ := h
  exact wpList_range_own w hg m t hop k e (string_keyed hk) ht anyR b n D hm hD fun w' hr hg hs => hK w' _ ⟨D, _, hr, h2, fun s => (h2 s).1⟩ hg hs
theorem sameKey_litS (a b : ByteArray) : (litS a).sameKey (litS b) = decide (a = b) := by
  by_cases h : a = b
  · subst h
    simp [WideAt.sameKey_self (isKey_s a)]
  · rw [decide_eq_false h]
    exact sameKey_ne (fun e => h (litS_inj e))
/-- A step. mk: the values' shape. -/
theorem wpList_nextV {β : Type} (mk : β → Value) (hg : o.guard = none) (it : Operand) (hop : o.op = Op.next it false) (k : TypeId) (hk : P.underlying k = some .string) (b r n : Nat) (f : MapF) (hmk : ∀ s v, f s = some v → ∃ c, v = mk c) (left : ByteArray → Bool) (cnt : Nat)
    (hit : a.eval it = .pointer (some ⟨r, 0, none⟩)) (h : RangeV P k w b r n f left cnt)
    (hDone : (∀ s, left s = false) → wpList P ops Q rest (a.put o.dst (.tuple #[.bool false])) w)
    (hMore : ∀ (s : ByteArray) (c : β) (w' : World) (cnt' : Nat), s.size ≤ maxLen → left s = true → f s = some (mk c) → RangeV P k w' b r n f (fun x => left x && !decide (x = s)) cnt' → cnt' < cnt → w.grownBy w' (some r) → w'.heap.size = w.heap.size →
      (Instr.entry (.pointer (some ⟨r, 0, none⟩))).run P w' = .ok (.tuple #[.string s, mk c]) w' → wpList P ops Q rest (a.put o.dst (.tuple #[.bool true, .string s, mk c])) w') : wpList P ops Q (o :: rest) a w := by
  obtain ⟨D, lf, h1, h2, h3⟩ := h
  refine wpList_plain hg fun K' hK' => ?_
  unfold Oper.wp
  rcases h1.next (string_keyed hk) o.type with ⟨h0, hl, hrun⟩ | ⟨key, v, kl, y, w', cnt', hkey, hlk, hv, hat, hrun, hrg, hlt, hgr, hsz, hen⟩
  · simp [execOp, hop, hit, hrun, Result.andThen]
    exact hK' _ _ (hDone fun s => by rw [← h3 s]; exact hl _)
  · obtain ⟨s, rfl, rfl, hs⟩ := keyOf_s_inv hk hkey
    have hfs : f s = some v := by
      unfold anyR at hv
      injection hv with hv
      subst hv
      obtain ⟨e1, e2⟩ := h2 s
      cases hf : f s with
      | some u =>
        have q1 := e2 u hf (.held u)
        rw [hat (.held u)] at q1
        simp only [DataW.held.injEq] at q1
        rw [q1]
      | none =>
        exfalso
        rw [hf] at e1
        have q1 := atKey_of_not_has e1 DataW.nil
        rw [hat DataW.nil] at q1
        cases q1
    obtain ⟨c, rfl⟩ := hmk s v hfs
    simp [execOp, hop, hit, hrun, Result.andThen]
    exact hK' _ _ (hMore s c w' cnt' hs (by rw [← h3 s]; exact hlk) hfs ⟨D, _, hrg, h2, fun x => by rw [h3 x, sameKey_litS]⟩ hlt hgr hsz hen)
end
end Go.Proofs.YtodmnogoacghpaaGreatDoor
