/- order.Rings and the document's, at whatever edges. (The first part of XRingsL.) · Maps keyed by strings, in memory, as functions from keys to values; whatever the values are. · A map from numbers to numbers, in memory: how often each was told. · The document's Line: edges that are wrong. -/
import Derived.Test.YtnfnebfioibndaaGreatDoorM31
import Derived.Test.YtnfnebfioibndaaGreatDoorM17
import Derived.Test.YtnfnebfioibndaaGreatDoorM01
import Derived.Maps.OwnSet
import Derived.Maps.OwnOps
import Derived.Maps.RangeWalk
import Derived.Lib.Hide
import Derived.Test.YtnfnebfioibndaaGreatDoorM26
namespace Go.Proofs.YtnfnebfioibndaaGreatDoor
open Go.RowKit
set_option maxRecDepth 100000
set_option maxHeartbeats 4000000

theorem rings_calls (v : Value) (l : List EdgeD) (n : Int) (w : World) (hE : Edges w v l) (hlen : l.length ≤ 100000) :
    Calls Tryz.prog 71 #[.int .i64 n, v] w (RingsE w n l) := by
  by_cases hr : rightR n l = (0, -1)
  · obtain ⟨m, rfl, _, _⟩ := right_fine hr
    exact rings_good v l m w hE hr hlen
  · exact rings_bad v l n w hE hr
theorem refRings_calls (v : Value) (l : List EdgeD) (n : Int) (w : World) (hE : Edges w v l) (hN : FineR w) (hlen : l.length ≤ 100000) :
    Calls Tryz.prog 80 #[.int .i64 n, v] w (RefRingsE w n l) := by
  rcases right_cases n l with hr | hr | ⟨i, hr⟩
  · obtain ⟨m, rfl, _, _⟩ := right_fine hr
    exact refRings_good v l m w hE hN hr hlen
  · exact refRings_bad v l n w hE hN 4 (-1) hr (by decide) neq_four
  · exact refRings_bad v l n w hE hN 2 i hr (by simp) (neq_two i)
theorem Rows2.form {w : World} {v : Value} {xss : List (List Nat)} (h : Rows2 w v xss) : ∃ (a : Option Addr) (cap : Nat) (V : Nat → Value), v = .slice a xss.length cap ∧ xss.length ≤ cap ∧ cap ≤ 9223372036854775807 ∧ (xss.length = 0 ∨ ∃ b o, a = some ⟨b, o, none⟩ ∧ b < w.heap.size ∧ ∀ i, i < xss.length → w.cell? ⟨b, o + i, none⟩ = some (V i)) ∧ ∀ i, i < xss.length → Row w (V i) (ringAt xss i) := by
  obtain ⟨V, ⟨a, cap, rfl, h1, h2, h3⟩, hr⟩ := h
  unfold maxLen at h2
  refine ⟨a, cap, V, rfl, h1, by omega, h3.imp id fun ⟨b, o, e, hb, hc⟩ => ⟨b, o, e, hb, fun i hi => ?_⟩, hr⟩
  have := hc i 0 hi (by decide)
  simpa using this
theorem Row.slice {w : World} {v : Value} {S : List Nat} (h : Row w v S) : ∃ a m c, v = .slice a m c := by
  obtain ⟨a, c, e, _⟩ := h
  exact ⟨_, _, _, e⟩

end Go.Proofs.YtnfnebfioibndaaGreatDoor
namespace Go.Proofs.YtnfnebfioibndaaGreatDoor
open Go.RowKit Go.Maps
set_option maxRecDepth 10000

def anyR (v : Value) : Option (DataW Value × List MemPlace) := some (.held v, [])
def litS (s : ByteArray) : Lit := .string s.data.toList
theorem litS_inj {a b : ByteArray} (h : litS a = litS b) : a = b := by
  unfold litS at h
  injection h with h
  have : a.data = b.data := by rw [← Array.toArray_toList (xs := a.data), h, Array.toArray_toList]
  cases a; cases b; simp_all
abbrev MapF := ByteArray → Option Value
def putM (f : MapF) (s : ByteArray) (v : Option Value) : MapF := fun x => if x = s then v else f x
theorem putM_same (f : MapF) (s : ByteArray) (v : Option Value) : putM f s v s = v := by simp [putM]
theorem putM_ne (f : MapF) {s x : ByteArray} (v : Option Value) (h : x ≠ s) : putM f s v x = f x := by simp [putM, h]
/-- Block b is a map of at most n entries; f tells what stands at a key. -/
def MapV (P : Program) (k : TypeId) (w : World) (b n : Nat) (f : MapF) : Prop :=
  ∃ D : DataW Value, w.ownsMap P k anyR b n D ∧ ∀ s, Maps.has D (litS s) = (f s).isSome ∧ ∀ v, f s = some v → ∀ z, D.atKey (litS s) z = .held v

section
variable {P : Program} {k : TypeId} {w : World} {b n : Nat} {f : MapF}
theorem MapV.lt (h : MapV P k w b n f) : b < w.heap.size := by
  obtain ⟨D, h, _⟩ := h
  exact h.lt
theorem MapV.made (w : World) (P : Program) (k : TypeId) : MapV P k (w.alloc (.map #[] 0)) w.heap.size 0 (fun _ => none) :=
  ⟨_, World.ownsMap_made w P k anyR, fun s => ⟨rfl, fun v h => by cases h⟩⟩
theorem MapV.mono (h : MapV P k w b n f) {m : Nat} (hm : n ≤ m) : MapV P k w b m f := by
  obtain ⟨D, h, h2⟩ := h
  exact ⟨D, h.mono hm, h2⟩
theorem MapV.keep {w' : World} (h : MapV P k w b n f) (hk : w'.heap[b]? = w.heap[b]?) : MapV P k w' b n f := by
  obtain ⟨D, ⟨es, clock, hb, r⟩, h2⟩ := h
  exact ⟨D, ⟨es, clock, hk.trans hb, r⟩, h2⟩
theorem MapV.below {w' : World} (h : MapV P k w b n f) {B : Nat} (hb : Below B w w') (hB : b < B) : MapV P k w' b n f := h.keep (hb.block b hB)
theorem MapV.cell {w' : World} (h : MapV P k w b n f) {a : Addr} (ha : b ≠ a.block) (v : Value) : MapV P k (w.setCell a v) b n f := h.keep (Below.heap_setCell w a v b ha)
theorem MapV.grown {w' : World} {row : Option Nat} (h : MapV P k w b n f) (hg : w.grownBy w' row) (hne : some b ≠ row) : MapV P k w' b n f := h.keep (hg.block b h.lt hne)
theorem MapV.congr (h : MapV P k w b n f) {g : MapF} (hg : ∀ s, f s = g s) : MapV P k w b n g := by
  have : f = g := funext hg
  rw [← this]; exact h

theorem keyOf_s (hk : P.underlying k = some .string) {s : ByteArray} (hs : s.size ≤ maxLen) : keyOf P k (.string s) = some (litS s) := Go.WideMaps.keyOf_string_mk hk hs
theorem keyOf_s_inv (hk : P.underlying k = some .string) {key : Value} {kl : Lit} (h : keyOf P k key = some kl) : ∃ s : ByteArray, key = .string s ∧ kl = litS s ∧ s.size ≤ maxLen := by
  obtain ⟨s, e, h1, h2⟩ : ∃ s : ByteArray, key = .string s ∧ kl = litS s ∧ s.size ≤ maxLen := by
    cases key <;> simp [keyOf, mapKey, hk] at h
    exact ⟨_, rfl, h.2.symm, h.1⟩
  exact ⟨s, e, h1, h2⟩
theorem isKey_s (s : ByteArray) : WideAt.IsKeyLit (litS s) := trivial

/-- What comes back of a look-up. -/
def gotV (f : MapF) (z : Value) (s : ByteArray) : Value := (f s).getD z
theorem MapV.look_ok {t e : TypeId} (h : MapV P k w b n f) (hk : P.underlying k = some .string) (ht : P.underlying t = some (.map k e)) {z : Value} (hz : (zeroValue e).run P w = .ok z w) {s : ByteArray} (hs : s.size ≤ maxLen) :
    (Instr.lookup t (.map (some b)) (.string s) true).run P w = .ok (.tuple #[gotV f z s, .bool (f s).isSome]) w := by
  obtain ⟨D, hD, h2⟩ := h
  obtain ⟨e1, e2⟩ := h2 s
  obtain ⟨v, ps, hrun, hv⟩ := hD.look_ok (string_keyed hk) ht hz (zd := .held z) (zp := []) rfl (keyOf_s hk hs)
  rw [e1] at hrun
  have hat : D.atKey (litS s) (.held z) = .held (gotV f z s) := by
    unfold gotV
    cases hf : f s with
    | some u => exact e2 u hf _
    | none => exact atKey_of_not_has (by rw [e1, hf]; rfl) _
  rw [hat] at hv
  have : v = gotV f z s := by
    unfold anyR at hv
    simp only [Option.some.injEq, Prod.mk.injEq, DataW.held.injEq] at hv
    exact hv.1
  rw [← this]
  exact hrun
theorem MapV.look {t e : TypeId} (h : MapV P k w b n f) (hk : P.underlying k = some .string) (ht : P.underlying t = some (.map k e)) {z : Value} (hz : (zeroValue e).run P w = .ok z w) {s : ByteArray} (hs : s.size ≤ maxLen) :
    (Instr.lookup t (.map (some b)) (.string s) false).run P w = .ok (gotV f z s) w := by
  obtain ⟨D, hD, h2⟩ := h
  obtain ⟨e1, e2⟩ := h2 s
  obtain ⟨v, ps, hrun, hv⟩ := hD.lookup (string_keyed hk) ht hz (zd := .held z) (zp := []) rfl (keyOf_s hk hs)
  have hat : D.atKey (litS s) (.held z) = .held (gotV f z s) := by
    unfold gotV
    cases hf : f s with
    | some u => exact e2 u hf _
    | none => exact atKey_of_not_has (by rw [e1, hf]; rfl) _
  rw [hat] at hv
  have : v = gotV f z s := by
    unfold anyR at hv
    simp only [Option.some.injEq, Prod.mk.injEq, DataW.held.injEq] at hv
    exact hv.1
  rw [← this]
  exact hrun
theorem MapV.put_view {D : DataW Value} (hm : IsMap D) (h2 : ∀ s, Maps.has D (litS s) = (f s).isSome ∧ ∀ v, f s = some v → ∀ z, D.atKey (litS s) z = .held v) (s : ByteArray) (v : Value) :
    ∀ x, Maps.has (D.put (litS s) (.held v)) (litS x) = (putM f s (some v) x).isSome ∧ ∀ u, putM f s (some v) x = some u → ∀ z, (D.put (litS s) (.held v)).atKey (litS x) z = .held u := by
  intro x
  by_cases e : x = s
  · subst e
    refine ⟨by rw [putM_same, has_put_same hm (isKey_s x)]; rfl, fun u hu z => ?_⟩
    rw [putM_same] at hu
    injection hu with hu
    rw [← hu]
    exact atKey_put_same hm (isKey_s x) _ _
  · have hne : litS x ≠ litS s := fun h => e (litS_inj h)
    refine ⟨by rw [putM_ne _ _ e, has_put_other hne]; exact (h2 x).1, fun u hu z => ?_⟩
    rw [putM_ne _ _ e] at hu
    rw [atKey_put_other hne]
    exact (h2 x).2 u hu z
theorem MapV.del_view {D : DataW Value} (h2 : ∀ s, Maps.has D (litS s) = (f s).isSome ∧ ∀ v, f s = some v → ∀ z, D.atKey (litS s) z = .held v) (s : ByteArray) :
    ∀ x, Maps.has (D.del (litS s)) (litS x) = (putM f s none x).isSome ∧ ∀ u, putM f s none x = some u → ∀ z, (D.del (litS s)).atKey (litS x) z = .held u := by
  intro x
  by_cases e : x = s
  · subst e
    refine ⟨by rw [putM_same, has_del_same]; rfl, fun u hu z => ?_⟩
    rw [putM_same] at hu
    cases hu
  · have hne : litS x ≠ litS s := fun h => e (litS_inj h)
    refine ⟨by rw [putM_ne _ _ e, has_del_other hne]; exact (h2 x).1, fun u hu z => ?_⟩
    rw [putM_ne _ _ e] at hu
    rw [atKey_del_other hne]
    exact (h2 x).2 u hu z
theorem MapV.store {t e : TypeId} (h : MapV P k w b n f) (hk : P.underlying k = some .string) (ht : P.underlying t = some (.map k e)) (hn : n < maxLen) {s : ByteArray} (hs : s.size ≤ maxLen) (v : Value) :
    ∃ w', (Instr.mapUpdate t (.map (some b)) (.string s) v).run P w = .ok () w' ∧ MapV P k w' b (n + 1) (putM f s (some v)) ∧ w.grownBy w' (some b) := by
  obtain ⟨D, hD, h2⟩ := h
  obtain ⟨w', hrun, hD', hg⟩ := hD.update (string_keyed hk) ht hn (d := .held v) (ps := []) (keyOf_s hk hs) rfl
  exact ⟨w', hrun, ⟨_, hD', MapV.put_view hD.isMap h2 s v⟩, hg⟩
theorem MapV.drop {t e : TypeId} (h : MapV P k w b n f) (hk : P.underlying k = some .string) (ht : P.underlying t = some (.map k e)) {s : ByteArray} (hs : s.size ≤ maxLen) (ty : TypeId) :
    ∃ w', (Builtin.delete_ #[t, k] ty #[.map (some b), .string s]).run P w = .ok (.tuple #[]) w' ∧ MapV P k w' b n (putM f s none) ∧ w.grownBy w' (some b) := by
  obtain ⟨D, hD, h2⟩ := h
  obtain ⟨w', hrun, hD', hg⟩ := hD.drop (string_keyed hk) ht (keyOf_s hk hs) ty
  exact ⟨w', hrun, ⟨_, hD', MapV.del_view h2 s⟩, hg.grown⟩

/-! ### how many entries, and which keys -/
/-- The keys of f, each once. -/
structure KeysM (f : MapF) (ks : List ByteArray) : Prop where
  nodup : ks.Nodup
  mem : ∀ s, s ∈ ks ↔ (f s).isSome = true
theorem KeysM.perm {f : MapF} {a b : List ByteArray} (ha : KeysM f a) (hb : KeysM f b) : a.Perm b :=
  (List.perm_ext_iff_of_nodup ha.nodup hb.nodup).2 fun s => (ha.mem s).trans (hb.mem s).symm
theorem KeysM.len {f : MapF} {a b : List ByteArray} (ha : KeysM f a) (hb : KeysM f b) : a.length = b.length := (ha.perm hb).length_eq
theorem KeysM.nil : KeysM (fun _ => none) [] := ⟨List.nodup_nil, fun s => by simp⟩
theorem KeysM.put {f : MapF} {ks : List ByteArray} (h : KeysM f ks) (s : ByteArray) (v : Value) : KeysM (putM f s (some v)) (if (f s).isSome then ks else s :: ks) := by
  cases hf : (f s).isSome
  · have hn : s ∉ ks := fun hm => by rw [(h.mem s).1 hm] at hf; cases hf
    refine ⟨by simpa using ⟨hn, h.nodup⟩, fun x => ?_⟩
    by_cases e : x = s
    · subst e; simp [putM_same]
    · simp [putM_ne _ _ e, e, h.mem]
  · refine ⟨by simpa using h.nodup, fun x => ?_⟩
    by_cases e : x = s
    · subst e; simp [putM_same, (h.mem x).2 hf]
    · simp [putM_ne _ _ e, h.mem]
theorem KeysM.del {f : MapF} {ks : List ByteArray} (h : KeysM f ks) (s : ByteArray) : KeysM (putM f s none) (ks.filter fun x => !decide (x = s)) := by
  refine ⟨h.nodup.filter _, fun x => ?_⟩
  by_cases e : x = s
  · subst e; simp [putM_same]
  · simp [putM_ne _ _ e, e, h.mem]
theorem MapV.keys (h : MapV P k w b n f) (hk : P.underlying k = some .string) : ∃ ks, KeysM f ks ∧ ks.length ≤ n ∧ ∀ {t e : TypeId}, P.underlying t = some (.map k e) → ∀ ty, (Builtin.len_ #[t] ty #[.map (some b)]).run P w = .ok (.int .i64 ((ks.length : Nat) : Int)) w := by
  obtain ⟨D, hD, h2⟩ := h
  have hsz := hD.size_le
  have hlen : ∀ {t e : TypeId}, P.underlying t = some (.map k e) → ∀ ty, (Builtin.len_ #[t] ty #[.map (some b)]).run P w = .ok (.int .i64 (Maps.size D)) w := fun ht ty => hD.len ht ty
  obtain ⟨es, clock, hb, F, hs, rfl⟩ := hD
  have hks := Maps.fit_keys F
  have hap := Maps.fit_apart (string_keyed hk) F
  obtain ⟨L, hL⟩ : ∃ L : List (Lit × DataW Value), L = es.toList.map (Go.WideElems.rg P k anyR) := ⟨_, rfl⟩
  rw [← hL] at hks hap h2 hsz hlen
  have hstr : ∀ p ∈ L, ∃ s : ByteArray, p.1 = litS s := fun p hp => by
    obtain ⟨v, hv⟩ := hks p hp
    obtain ⟨s, _, h, _⟩ := keyOf_s_inv hk hv
    exact ⟨s, h⟩
  -- the keys as texts
  have key : ∃ ks : List ByteArray, ks.map litS = L.map (·.1) := by
    clear hL h2 hsz hlen hap hks
    induction L with
    | nil => exact ⟨[], rfl⟩
    | cons p L ih =>
      obtain ⟨s, hs⟩ := hstr p (List.mem_cons_self ..)
      obtain ⟨ks, hk⟩ := ih (fun q hq => hstr q (List.mem_cons_of_mem _ hq))
      exact ⟨s :: ks, by simp [hs, hk]⟩
  obtain ⟨ks, hkk⟩ := key
  have hll : ks.length = L.length := by have := congrArg List.length hkk; simpa using this
  have hsize : Maps.size (DataW.map (L.foldr DataW.insert [])) = ks.length := by rw [hll]; simp [Maps.size, length_sorted]
  rw [hsize] at hsz hlen
  refine ⟨ks, ⟨?_, fun s => ?_⟩, hsz, hlen⟩
  · have h1 : (L.map (·.1)).Nodup := List.pairwise_map.2 hap
    rw [← hkk] at h1
    exact List.Pairwise.imp (fun hne e => hne (by rw [e])) (List.pairwise_map.1 h1)
  · rw [← (h2 s).1, Maps.has_eq, List.any_eq_true]
    constructor
    · intro hm
      have : litS s ∈ L.map (·.1) := by rw [← hkk]; exact List.mem_map_of_mem hm
      obtain ⟨p, hp, he⟩ := List.mem_map.1 this
      exact ⟨p, Go.mem_sorted.2 hp, by rw [he]; exact WideAt.sameKey_self (isKey_s s)⟩
    · rintro ⟨p, hp, he⟩
      have hp := Go.mem_sorted.1 hp
      have : litS s ∈ ks.map litS := by rw [hkk]; exact List.mem_map.2 ⟨p, hp, WideAt.sameKey_eq he⟩
      obtain ⟨x, hx, e⟩ := List.mem_map.1 this
      rw [← litS_inj e]
      exact hx
end

/-! ### at the operation, for the walk -/
section
variable {P : Program} (w : World) {ops : Array Oper} {rest : List Oper} {o : Oper} {a : Act} {Q : Exit → Act → World → Prop}
theorem wpList_lookV_ok (hg : o.guard = none) (m x : Operand) (t : TypeId) (hop : o.op = Op.lookup t m x true) (k e : TypeId) (hk : P.underlying k = some .string) (ht : P.underlying t = some (.map k e)) (z : Value) (hz : (zeroValue e).run P w = .ok z w) (b n : Nat) (f : MapF)
    (hm : a.eval m = .map (some b)) (h : MapV P k w b n f) (s : ByteArray) (hx : a.eval x = .string s) (hs : s.size ≤ maxLen) (v : Value) (y : Bool) (hv : gotV f z s = v) (hy : (f s).isSome = y)
    (hK : wpList P ops Q rest (a.put o.dst (.tuple #[v, .bool y])) w) : wpList P ops Q (o :: rest) a w := by
  refine wpList_plain hg fun K' hK' => ?_
  unfold Oper.wp
  have hrun := h.look_ok hk ht hz hs
  rw [hv, hy] at hrun
  simp [execOp, hop, hm, hx, hrun, Result.andThen]
  exact hK' _ _ hK
theorem wpList_lookV (hg : o.guard = none) (m x : Operand) (t : TypeId) (hop : o.op = Op.lookup t m x false) (k e : TypeId) (hk : P.underlying k = some .string) (ht : P.underlying t = some (.map k e)) (z : Value) (hz : (zeroValue e).run P w = .ok z w) (b n : Nat) (f : MapF)
    (hm : a.eval m = .map (some b)) (h : MapV P k w b n f) (s : ByteArray) (hx : a.eval x = .string s) (hs : s.size ≤ maxLen) (v : Value) (hv : gotV f z s = v)
    (hK : wpList P ops Q rest (a.put o.dst v) w) : wpList P ops Q (o :: rest) a w := by
  refine wpList_plain hg fun K' hK' => ?_
  unfold Oper.wp
  have hrun := h.look hk ht hz hs
  rw [hv] at hrun
  simp [execOp, hop, hm, hx, hrun, Result.andThen]
  exact hK' _ _ hK
theorem wpList_storeV (hg : o.guard = none) (m x v : Operand) (t : TypeId) (hop : o.op = Op.mapUpdate t m x v) (k e : TypeId) (hk : P.underlying k = some .string) (ht : P.underlying t = some (.map k e)) (b n : Nat) (f : MapF)
    (hm : a.eval m = .map (some b)) (h : MapV P k w b n f) (hn : n < maxLen) (s : ByteArray) (hx : a.eval x = .string s) (hs : s.size ≤ maxLen) (val : Value) (hv : a.eval v = val)
    (hK : ∀ w', MapV P k w' b (n + 1) (putM f s (some val)) → w.grownBy w' (some b) → wpList P ops Q rest (a.put o.dst undef) w') : wpList P ops Q (o :: rest) a w := by
  refine wpList_plain hg fun K' hK' => ?_
  obtain ⟨w', hrun, r1, r2⟩ := h.store hk ht hn hs val
  unfold Oper.wp
  simp [execOp, hop, hm, hx, hv, hrun, Result.andThen]
  exact hK' _ _ (hK w' r1 r2)
theorem wpList_delV (hg : o.guard = none) (m x : Operand) (t k : TypeId) (hop : o.op = Op.call { callee := Callee.builtin Builtin.delete, args := #[m, x], argTypes := #[t, k] }) (e : TypeId) (hk : P.underlying k = some .string) (ht : P.underlying t = some (.map k e)) (b n : Nat) (f : MapF)
    (hm : a.eval m = .map (some b)) (h : MapV P k w b n f) (s : ByteArray) (hx : a.eval x = .string s) (hs : s.size ≤ maxLen)
    (hK : ∀ w', MapV P k w' b n (putM f s none) → w.grownBy w' (some b) → wpList P ops Q rest (a.put o.dst (.tuple #[])) w') : wpList P ops Q (o :: rest) a w := by
  refine wpList_plain hg fun K' hK' => ?_
  obtain ⟨w', hrun, r1, r2⟩ := h.drop hk ht hs o.type
  unfold Oper.wp
  simp [execOp, hop, resolve, invoke, builtin, hm, hx, hrun, Result.andThen]
  exact hK' _ _ (hK w' r1 r2)
theorem wpList_lenV (hg : o.guard = none) (m : Operand) (t : TypeId) (hop : o.op = Op.call { callee := Callee.builtin Builtin.len, args := #[m], argTypes := #[t] }) (k e : TypeId) (hk : P.underlying k = some .string) (ht : P.underlying t = some (.map k e)) (b n : Nat) (f : MapF)
    (hm : a.eval m = .map (some b)) (h : MapV P k w b n f) (ks : List ByteArray) (hks : KeysM f ks)
    (hK : wpList P ops Q rest (a.put o.dst (.int .i64 ((ks.length : Nat) : Int))) w) : wpList P ops Q (o :: rest) a w := by
  refine wpList_plain hg fun K' hK' => ?_
  obtain ⟨ks', hks', _, hlen⟩ := h.keys hk
  have hrun := hlen ht o.type
  rw [hks'.len hks] at hrun
  unfold Oper.wp
  simp [execOp, hop, resolve, invoke, builtin, hm, hrun, Result.andThen]
  exact hK' _ _ hK

/-! ### ranging -/
/-- An iterator (block r) over the map in block b; left: is it still to come? -/
def RangeV (P : Program) (k : TypeId) (w : World) (b r n : Nat) (f : MapF) (left : ByteArray → Bool) (cnt : Nat) : Prop :=
  ∃ (D : DataW Value) (lf : Lit → Bool), w.ranges P k anyR b r n D lf cnt ∧ (∀ s, Maps.has D (litS s) = (f s).isSome ∧ ∀ v, f s = some v → ∀ z, D.atKey (litS s) z = .held v) ∧ (∀ s, lf (litS s) = left s)
variable {k : TypeId} {b r n : Nat} {f : MapF} {left : ByteArray → Bool} {cnt : Nat} {w0 : World}
theorem RangeV.map (h : RangeV P k w0 b r n f left cnt) : MapV P k w0 b n f := by
  obtain ⟨D, lf, h1, h2, _⟩ := h
  exact ⟨D, h1.owns, h2⟩
theorem RangeV.lt (h : RangeV P k w0 b r n f left cnt) : r < w0.heap.size := by
  obtain ⟨D, lf, h1, h2, _⟩ := h
  exact h1.lt
theorem RangeV.kept {w' : World} {row : Option Nat} (h : RangeV P k w0 b r n f left cnt) (hg : w0.grownBy w' row) (hb : some b ≠ row) (hr : some r ≠ row) : RangeV P k w' b r n f left cnt := by
  obtain ⟨D, lf, h1, h2, h3⟩ := h
  exact ⟨D, lf, h1.kept hg hb hr, h2, h3⟩
theorem wpList_rangeV (hg : o.guard = none) (m : Operand) (t : TypeId) (hop : o.op = Op.range t m) (k e : TypeId) (hk : P.underlying k = some .string) (ht : P.underlying t = some (.map k e)) (b n : Nat) (f : MapF)
    (hm : a.eval m = .map (some b)) (h : MapV P k w b n f)
    (hK : ∀ w' cnt, RangeV P k w' b w.heap.size n f (fun s => (f s).isSome) cnt → w.grownBy w' none → w'.heap.size = w.heap.size + 1 → wpList P ops Q rest (a.put o.dst (.pointer (some ⟨w.heap.size, 0, none⟩))) w') : wpList P ops Q (o :: rest) a w := by
  obtain ⟨D, hD, h2⟩ := h
  exact wpList_range_own w hg m t hop k e (string_keyed hk) ht anyR b n D hm hD fun w' hr hg hs => hK w' _ ⟨D, _, hr, h2, fun s => (h2 s).1⟩ hg hs
theorem sameKey_litS (a b : ByteArray) : (litS a).sameKey (litS b) = decide (a = b) := by
  by_cases h : a = b
  · subst h
    simp [WideAt.sameKey_self (isKey_s a)]
  · rw [decide_eq_false h]
    exact sameKey_ne (fun e => h (litS_inj e))
/-- A step. mk: the values' shape. -/
theorem wpList_nextV {β : Type} (mk : β → Value) (hg : o.guard = none) (it : Operand) (hop : o.op = Op.next it false) (k : TypeId) (hk : P.underlying k = some .string) (b r n : Nat) (f : MapF) (hmk : ∀ s v, f s = some v → ∃ c, v = mk c) (left : ByteArray → Bool) (cnt : Nat)
    (hit : a.eval it = .pointer (some ⟨r, 0, none⟩)) (h : RangeV P k w b r n f left cnt)
    (hDone : (∀ s, left s = false) → wpList P ops Q rest (a.put o.dst (.tuple #[.bool false])) w)
    (hMore : ∀ (s : ByteArray) (c : β) (w' : World) (cnt' : Nat), s.size ≤ maxLen → left s = true → f s = some (mk c) → RangeV P k w' b r n f (fun x => left x && !decide (x = s)) cnt' → cnt' < cnt → w.grownBy w' (some r) → w'.heap.size = w.heap.size →
      (Instr.entry (.pointer (some ⟨r, 0, none⟩))).run P w' = .ok (.tuple #[.string s, mk c]) w' → wpList P ops Q rest (a.put o.dst (.tuple #[.bool true, .string s, mk c])) w') : wpList P ops Q (o :: rest) a w := by
  obtain ⟨D, lf, h1, h2, h3⟩ := h
  refine wpList_plain hg fun K' hK' => ?_
  unfold Oper.wp
  rcases h1.next (string_keyed hk) o.type with ⟨h0, hl, hrun⟩ | ⟨key, v, kl, y, w', cnt', hkey, hlk, hv, hat, hrun, hrg, hlt, hgr, hsz, hen⟩
  · simp [execOp, hop, hit, hrun, Result.andThen]
    exact hK' _ _ (hDone fun s => by rw [← h3 s]; exact hl _)
  · obtain ⟨s, rfl, rfl, hs⟩ := keyOf_s_inv hk hkey
    have hfs : f s = some v := by
      unfold anyR at hv
      injection hv with hv
      subst hv
      obtain ⟨e1, e2⟩ := h2 s
      cases hf : f s with
      | some u =>
        have q1 := e2 u hf (.held u)
        rw [hat (.held u)] at q1
        simp only [DataW.held.injEq] at q1
        rw [q1]
      | none =>
        exfalso
        rw [hf] at e1
        have q1 := atKey_of_not_has e1 DataW.nil
        rw [hat DataW.nil] at q1
        cases q1
    obtain ⟨c, rfl⟩ := hmk s v hfs
    simp [execOp, hop, hit, hrun, Result.andThen]
    exact hK' _ _ (hMore s c w' cnt' hs (by rw [← h3 s]; exact hlk) hfs ⟨D, _, hrg, h2, fun x => by rw [h3 x, sameKey_litS]⟩ hlt hgr hsz hen)
end
end Go.Proofs.YtnfnebfioibndaaGreatDoor
namespace Go.Proofs.YtnfnebfioibndaaGreatDoor
open Go.RowKit Go.Maps
set_option maxRecDepth 10000

def litI (u : Nat) : Lit := .int .i64 ((u : Nat) : Int)
def MapI (P : Program) (k : TypeId) (w : World) (b n : Nat) (told : Nat → Nat) : Prop :=
  ∃ D : DataW Value, w.ownsMap P k anyR b n D ∧ ∀ u, D.atKey (litI u) (.held (.int .i64 0)) = .held (.int .i64 ((told u : Nat) : Int))
section
variable {P : Program} {k : TypeId} {w : World} {b n : Nat} {f : Nat → Nat}
theorem MapI.lt (h : MapI P k w b n f) : b < w.heap.size := by
  obtain ⟨D, h, _⟩ := h
  exact h.lt
theorem MapI.made (w : World) (P : Program) (k : TypeId) : MapI P k (w.alloc (.map #[] 0)) w.heap.size 0 (fun _ => 0) :=
  ⟨_, World.ownsMap_made w P k anyR, fun _ => rfl⟩
theorem MapI.keep {w' : World} (h : MapI P k w b n f) (hk : w'.heap[b]? = w.heap[b]?) : MapI P k w' b n f := by
  obtain ⟨D, ⟨es, clock, hb, r⟩, h2⟩ := h
  exact ⟨D, ⟨es, clock, hk.trans hb, r⟩, h2⟩
theorem MapI.below {w' : World} (h : MapI P k w b n f) {B : Nat} (hb : Below B w w') (hB : b < B) : MapI P k w' b n f := h.keep (hb.block b hB)
theorem MapI.grown {w' : World} {row : Option Nat} (h : MapI P k w b n f) (hg : w.grownBy w' row) (hne : some b ≠ row) : MapI P k w' b n f := h.keep (hg.block b h.lt hne)
theorem keyOf_i (hk : P.underlying k = some (.int .i64)) {u : Nat} (hu : u ≤ 1000000) : keyOf P k (.int .i64 ((u : Nat) : Int)) = some (litI u) := Go.Maps.keyOf_int_mk hk (by have h1 : IntKind.i64.min = -9223372036854775808 := rfl; have h2 : IntKind.i64.max = 9223372036854775807 := rfl; simp [Lit.wf, h1, h2]; omega)
theorem MapI.look {t e : TypeId} (h : MapI P k w b n f) (hk : P.underlying k = some (.int .i64)) (ht : P.underlying t = some (.map k e)) (hz : (zeroValue e).run P w = .ok (.int .i64 0) w) {u : Nat} (hu : u ≤ 1000000) :
    (Instr.lookup t (.map (some b)) (.int .i64 ((u : Nat) : Int)) false).run P w = .ok (.int .i64 ((f u : Nat) : Int)) w := by
  obtain ⟨D, hD, h2⟩ := h
  obtain ⟨v, ps, hrun, hv⟩ := hD.lookup (int_keyed hk) ht hz (zd := .held (.int .i64 0)) (zp := []) rfl (keyOf_i hk hu)
  rw [h2 u] at hv
  have : v = .int .i64 ((f u : Nat) : Int) := by
    unfold anyR at hv
    simp only [Option.some.injEq, Prod.mk.injEq, DataW.held.injEq] at hv
    exact hv.1
  rw [← this]
  exact hrun
theorem MapI.store {t e : TypeId} (h : MapI P k w b n f) (hk : P.underlying k = some (.int .i64)) (ht : P.underlying t = some (.map k e)) (hn : n < maxLen) {u : Nat} (hu : u ≤ 1000000) (m : Nat) :
    ∃ w', (Instr.mapUpdate t (.map (some b)) (.int .i64 ((u : Nat) : Int)) (.int .i64 ((m : Nat) : Int))).run P w = .ok () w' ∧ MapI P k w' b (n + 1) (fun x => if x = u then m else f x) ∧ w.grownBy w' (some b) := by
  obtain ⟨D, hD, h2⟩ := h
  obtain ⟨w', hrun, hD', hg⟩ := hD.update (int_keyed hk) ht hn (d := .held (.int .i64 ((m : Nat) : Int))) (ps := []) (keyOf_i hk hu) rfl
  refine ⟨w', hrun, ⟨_, hD', fun x => ?_⟩, hg⟩
  by_cases e : x = u
  · subst e
    show _ = DataW.held (Value.int .i64 (((if x = x then m else f x : Nat)) : Int))
    rw [if_pos rfl]
    exact atKey_put_same hD.isMap (show WideAt.IsKeyLit (litI x) from trivial) _ _
  · have hne : litI x ≠ litI u := by
      intro h
      unfold litI at h
      injection h with _ h
      exact e (by omega)
    show _ = DataW.held (Value.int .i64 (((if x = u then m else f x : Nat)) : Int))
    rw [if_neg e, atKey_put_other hne]
    exact h2 x
end
section
variable {P : Program} (w : World) {ops : Array Oper} {rest : List Oper} {o : Oper} {a : Act} {Q : Exit → Act → World → Prop}
theorem wpList_lookI (hg : o.guard = none) (m x : Operand) (t : TypeId) (hop : o.op = Op.lookup t m x false) (k e : TypeId) (hk : P.underlying k = some (.int .i64)) (ht : P.underlying t = some (.map k e)) (hz : (zeroValue e).run P w = .ok (.int .i64 0) w) (b n : Nat) (f : Nat → Nat)
    (hm : a.eval m = .map (some b)) (h : MapI P k w b n f) (u : Nat) (hx : a.eval x = .int .i64 ((u : Nat) : Int)) (hu : u ≤ 1000000) (c : Nat) (hc : f u = c)
    (hK : wpList P ops Q rest (a.put o.dst (.int .i64 ((c : Nat) : Int))) w) : wpList P ops Q (o :: rest) a w := by
  refine wpList_plain hg fun K' hK' => ?_
  unfold Oper.wp
  have hrun := h.look hk ht hz hu
  rw [hc] at hrun
  simp [execOp, hop, hm, hx, hrun, Result.andThen]
  exact hK' _ _ hK
theorem wpList_lookIw (hw : Region.wanted o (yielded ops a.tmps) = true) (m x : Operand) (t : TypeId) (hop : o.op = Op.lookup t m x false) (k e : TypeId) (hk : P.underlying k = some (.int .i64)) (ht : P.underlying t = some (.map k e)) (hz : (zeroValue e).run P w = .ok (.int .i64 0) w) (b n : Nat) (f : Nat → Nat)
    (hm : a.eval m = .map (some b)) (h : MapI P k w b n f) (u : Nat) (hx : a.eval x = .int .i64 ((u : Nat) : Int)) (hu : u ≤ 1000000) (c : Nat) (hc : f u = c)
    (hK : wpList P ops Q rest (a.put o.dst (.int .i64 ((c : Nat) : Int))) w) : wpList P ops Q (o :: rest) a w := by
  refine wpList_step fun K' hK' => ?_
  rw [if_pos hw]
  unfold Oper.wp
  have hrun := h.look hk ht hz hu
  rw [hc] at hrun
  simp [execOp, hop, hm, hx, hrun, Result.andThen]
  exact hK' _ _ hK
theorem wpList_storeI (hg : o.guard = none) (m x v : Operand) (t : TypeId) (hop : o.op = Op.mapUpdate t m x v) (k e : TypeId) (hk : P.underlying k = some (.int .i64)) (ht : P.underlying t = some (.map k e)) (b n : Nat) (f : Nat → Nat)
    (hm : a.eval m = .map (some b)) (h : MapI P k w b n f) (hn : n < maxLen) (u : Nat) (hx : a.eval x = .int .i64 ((u : Nat) : Int)) (hu : u ≤ 1000000) (c : Nat) (hv : a.eval v = .int .i64 ((c : Nat) : Int))
    (hK : ∀ w', MapI P k w' b (n + 1) (fun x => if x = u then c else f x) → w.grownBy w' (some b) → wpList P ops Q rest (a.put o.dst undef) w') : wpList P ops Q (o :: rest) a w := by
  refine wpList_plain hg fun K' hK' => ?_
  obtain ⟨w', hrun, r1, r2⟩ := h.store hk ht hn hu c
  unfold Oper.wp
  simp [execOp, hop, hm, hx, hv, hrun, Result.andThen]
  exact hK' _ _ (hK w' r1 r2)
end
end Go.Proofs.YtnfnebfioibndaaGreatDoor
namespace Go.Proofs.YtnfnebfioibndaaGreatDoor
open Go.RowKit
set_option maxRecDepth 100000
set_option maxHeartbeats 4000000

def RefLineE (w : World) (n : Int) (weak strong : List EdgeD) (e : Ending) (w' : World) : Prop :=
  ∃ (lv : Value) (xs : List Nat), e = .returned (.tuple #[lv, .agg #[.int .i64 (lineR n weak strong).1, .int .i64 (lineR n weak strong).2]]) ∧ Row w' lv xs ∧ (lineR n weak strong ≠ (0, -1) → xs = []) ∧ (lineR n weak strong = (0, -1) → ∀ m : Nat, n = m → ∃ rings, InOrder (EdL (weak ++ strong)) m rings ∧ AllTold m rings ∧ xs = linesOf strong rings) ∧ Below w.heap.size w w'

theorem refLine_bad1 (v1 v2 : Value) (weak strong : List EdgeD) (n : Int) (w : World) (hE : Edges w v1 weak) (hN : FineR w) (p q : Int) (hr : rightR n weak = (p, q)) (hbad : (p, q) ≠ (0, -1)) (hneq : ∀ w, (binOp .neq 42 (.agg #[.int .i64 p, .int .i64 q]) (.agg #[.int .i64 0, .int .i64 (-1)])).run Tryz.prog w = .ok (.bool true) w) :
    Calls Tryz.prog 52 #[.int .i64 n, v1, v2] w (RefLineE w n weak strong) := by
  obtain ⟨w0, hw0⟩ : ∃ w0 : World, w0 = w.alloc (.cells #[.int .i64 0, .int .i64 0] 42) := ⟨_, rfl⟩
  have hB0 : Below w.heap.size w w0 := by rw [hw0]; go_grown
  have hRC : ResC w0 w.heap.size := by rw [hw0]; exact ResC.new _
  have hC := refEdges_calls v1 weak n w0 (hE.below hB0 (Nat.le_refl _)) (hN.below hB0 (Nat.le_refl _))
  rw [hr] at hC
  have CE := Lib.hid hC
  have HN := Lib.hid (hN.below hB0 (Nat.le_refl _))
  have HRC := Lib.hid hRC
  have HB0 := Lib.hid hB0
  have Hw := Lib.hid hw0
  have Hr := Lib.hid hr
  clear hC hE hN hB0 hRC hw0 hr
  go_enter Tryz.func52, Tryz.ntmps52
  go_wp2_with fail
  rw [← Hw.out]
  go_wp2_with fail
  refine CE.out.mono ?_
  rintro e1 w1 ⟨rfl, hc1⟩
  have hfn := HN.out.below (hc1.alloc hc1.size (.cells #[.int .i64 p, .int .i64 q] 42)) (Nat.le_refl _)
  have f0 := hfn.c0
  have f1 := hfn.c1
  have fl := hfn.lt
  have hrc := (HRC.out.below hc1 HRC.out.lt).below ((Below.refl _ _).alloc (Nat.le_refl _) (.cells #[.int .i64 p, .int .i64 q] 42)) (HRC.out.below hc1 HRC.out.lt).lt
  have c0 := hrc.c0
  have c1 := hrc.c1
  have z0 := hrc.z0
  have z1 := hrc.z1
  have hrl := hrc.lt
  have d0 := hrc.d0 (.int .i64 p)
  have d1 := hrc.d1 (.int .i64 p) (.int .i64 q)
  clear hfn hrc
  go_wp2_with fail
  go_region
  go_wp2_with fail
  try simp only [Exit.inBlock, Exit.then]
  refine bodyPost_ret (v := .tuple #[.slice none 0 0, .agg #[.int .i64 p, .int .i64 q]]) (by simp [results, Tryz.results52, go_sem, d0, d1]; try rfl) rfl ?_
  have hL : lineR n weak strong = (p, q) := (if_neg (by rw [Hr.out]; exact hbad)).trans Hr.out
  refine ⟨.slice none 0 0, [], by rw [hL], Sl.nil _ _ _, fun _ => rfl, fun h => absurd (hL.symm.trans h) hbad, ?_⟩
  exact HB0.out.trans (((((hc1.alloc hc1.size _).mono HB0.out.size).setCell (Nat.le_refl _) _).setCell (Nat.le_refl _) _).drew)

theorem refLine_bad2 (v1 v2 : Value) (weak strong : List EdgeD) (n : Int) (w : World) (hE : Edges w v1 weak) (hE2 : Edges w v2 strong) (hN : FineR w) (hr1 : rightR n weak = (0, -1)) (p q : Int) (hr : rightR n strong = (p, q)) (hbad : (p, q) ≠ (0, -1)) (hneq : ∀ w, (binOp .neq 42 (.agg #[.int .i64 p, .int .i64 q]) (.agg #[.int .i64 0, .int .i64 (-1)])).run Tryz.prog w = .ok (.bool true) w) :
    Calls Tryz.prog 52 #[.int .i64 n, v1, v2] w (RefLineE w n weak strong) := by
  have hneq0 := neq_fine
  obtain ⟨w0, hw0⟩ : ∃ w0 : World, w0 = w.alloc (.cells #[.int .i64 0, .int .i64 0] 42) := ⟨_, rfl⟩
  have hB0 : Below w.heap.size w w0 := by rw [hw0]; go_grown
  have hRC : ResC w0 w.heap.size := by rw [hw0]; exact ResC.new _
  have hC := refEdges_calls v1 weak n w0 (hE.below hB0 (Nat.le_refl _)) (hN.below hB0 (Nat.le_refl _))
  rw [hr1] at hC
  have CE := Lib.hid hC
  have HN := Lib.hid (hN.below hB0 (Nat.le_refl _))
  have HRC := Lib.hid hRC
  have HE2 := Lib.hid hE2
  have HB0 := Lib.hid hB0
  have Hw := Lib.hid hw0
  have Hr := Lib.hid hr
  have Hr1 := Lib.hid hr1
  clear hC hE hE2 hN hB0 hRC hw0 hr hr1
  go_enter Tryz.func52, Tryz.ntmps52
  go_wp2_with fail
  rw [← Hw.out]
  go_wp2_with fail
  refine CE.out.mono ?_
  rintro e1 w1 ⟨rfl, hc1⟩
  obtain ⟨w2, hw2⟩ : ∃ w2 : World, w2 = w1.alloc (.cells #[.int .i64 0, .int .i64 (-1)] 42) := ⟨_, rfl⟩
  have hb2 : Below w0.heap.size w0 w2 := by rw [hw2]; exact hc1.alloc hc1.size _
  have hfn := HN.out.below hb2 (Nat.le_refl _)
  have hC2 := refEdges_calls v2 strong n w2 (HE2.out.below (HB0.out.trans (hb2.mono HB0.out.size)) (Nat.le_refl _)) hfn
  rw [Hr.out, hw2] at hC2
  have CE2 := Lib.hid hC2
  have HN2 := Lib.hid hfn
  have Hw2 := Lib.hid hw2
  have HB2 := Lib.hid hb2
  rw [hw2] at hfn
  have f0 := hfn.c0
  have f1 := hfn.c1
  have fl := hfn.lt
  clear hfn hC2 hb2 hw2 CE
  go_wp2_with fail
  refine CE2.out.mono ?_
  rintro e3 w3 ⟨rfl, hc3⟩
  rw [← Hw2.out] at hc3
  have hb3 := HB2.out.trans (hc3.mono HB2.out.size)
  have hfn := HN2.out.below (hc3.alloc hc3.size (.cells #[.int .i64 p, .int .i64 q] 42)) (Nat.le_refl _)
  clear f0 f1 fl CE2
  have f0 := hfn.c0
  have f1 := hfn.c1
  have fl := hfn.lt
  have hrc := (HRC.out.below hb3 HRC.out.lt).below ((Below.refl _ _).alloc (Nat.le_refl _) (.cells #[.int .i64 p, .int .i64 q] 42)) (HRC.out.below hb3 HRC.out.lt).lt
  have c0 := hrc.c0
  have c1 := hrc.c1
  have z0 := hrc.z0
  have z1 := hrc.z1
  have hrl := hrc.lt
  have d0 := hrc.d0 (.int .i64 p)
  have d1 := hrc.d1 (.int .i64 p) (.int .i64 q)
  have Hb3 := Lib.hid hb3
  clear hfn hrc hc3 hb3
  go_wp2_with fail
  go_region
  go_wp2_with fail
  try simp only [Exit.inBlock, Exit.then]
  refine bodyPost_ret (v := .tuple #[.slice none 0 0, .agg #[.int .i64 p, .int .i64 q]]) (by simp [results, Tryz.results52, go_sem, d0, d1]; try rfl) rfl ?_
  have hL : lineR n weak strong = (p, q) := (if_pos Hr1.out).trans Hr.out
  refine ⟨.slice none 0 0, [], by rw [hL], Sl.nil _ _ _, fun _ => rfl, fun h => absurd (hL.symm.trans h) hbad, ?_⟩
  exact HB0.out.trans (((((Hb3.out.alloc Hb3.out.size _).mono HB0.out.size).setCell (Nat.le_refl _) _).setCell (Nat.le_refl _) _).drew)
end Go.Proofs.YtnfnebfioibndaaGreatDoor
