/- errors.As at the target *api.Errno: an *api.At around an Errno. · api.Tell, plain.Place, stevedorelaw.is and bare: an error value is this one, and where. -/
import Derived.Test.YtodmnogoacghpaaGreatDoorM07
import Derived.Lib.Hide
namespace Go.Proofs.YtodmnogoacghpaaGreatDoor
open Go.RowKit Go.Extern.Stop Go.Stop Go.Extern

theorem noAs_At (v : Value) (xT : TypeId) (w : World) : (Instr.typeAssert (.iface 113 v) xT 130 true).run Tryz.prog w = .ok (.tuple #[.nilIface, .bool false]) w :=
  run_typeAssert_lacksB Tryz.underlying130 (by kernel_rfl) (by kernel_rfl) v xT w
theorem hasUnwrap_At (v : Value) (xT : TypeId) (w : World) : (Instr.typeAssert (.iface 113 v) xT 116 true).run Tryz.prog w = .ok (.tuple #[.iface 113 v, .bool true]) w :=
  run_typeAssert_hasB Tryz.underlying116 (by kernel_rfl) v xT w
theorem noUnwrap_E (v : Value) (xT : TypeId) (w : World) : (Instr.typeAssert (.iface 33 v) xT 116 true).run Tryz.prog w = .ok (.tuple #[.nilIface, .bool false]) w :=
  run_typeAssert_lacksB Tryz.underlying116 (by kernel_rfl) (by kernel_rfl) v xT w

set_option maxRecDepth 100000 in
set_option maxHeartbeats 4000000 in
theorem as_at (a : Addr) (e : Int) (t : Addr) (old : Value) (w : World) (hg : w.cell? ⟨0, 0, none⟩ = some (.iface 125 (.agg #[.pointer (some ⟨2, 29, none⟩)]))) (ha : w.cell? a = some (.int .i64 e)) (ht0 : w.cell? t = some old) (hf0 : w.frozen? t = false) :
    Calls Tryz.prog 39 #[.iface 113 (.pointer (some a)), .iface 89 (.pointer (some t))] w fun ev w' => ev = .returned (.bool true) ∧ w' = asWorld w t e := by
  unfold asWorld
  have h6 := @run_callFunc_extern Tryz.prog 53 _ (fun args => ReflectliteValue.unpack (args.getD 0 (.tuple #[]))) Tryz.func53 (by kernel_rfl) (by kernel_rfl) (by kernel_rfl) (by kernel_rfl)
  have h7 := @run_callFunc_extern Tryz.prog 54 _ (ReflectliteValue.methodAny (ReflectliteValue.valueError "reflectlite.Value.Type" 0) (fun t _ _ _ => ReflectliteType.toType t)) Tryz.func54 (by kernel_rfl) (by kernel_rfl) (by kernel_rfl) (by kernel_rfl)
  have h8 := @run_callFunc_extern Tryz.prog 55 _ (ReflectliteValue.method (ReflectliteValue.valueError "reflectlite.Value.IsNil" 0) ReflectliteValue.isNil) Tryz.func55 (by kernel_rfl) (by kernel_rfl) (by kernel_rfl) (by kernel_rfl)
  have h27 := @run_callFunc_extern Tryz.prog 115 _ (ReflectliteType.abiMethod fun t => do pure (.int .u8 (← Rtype.kind t))) Tryz.func115 (by kernel_rfl) (by kernel_rfl) (by kernel_rfl) (by kernel_rfl)
  have h37 := @run_callFunc_extern Tryz.prog 129 _ (ReflectliteType.method ReflectliteType.elem) Tryz.func129 (by kernel_rfl) (by kernel_rfl) (by kernel_rfl) (by kernel_rfl)
  have h38 := @run_callFunc_extern Tryz.prog 130 _ (ReflectliteType.relation "Implements" ReflectliteType.implements_) Tryz.func130 (by kernel_rfl) (by kernel_rfl) (by kernel_rfl) (by kernel_rfl)
  have h10 := @run_callFunc_extern Tryz.prog 67 _ ReflectliteType.typeOf Tryz.func67 (by kernel_rfl) (by kernel_rfl) (by kernel_rfl) (by kernel_rfl)
  have h35 := @run_callFunc_extern Tryz.prog 127 _ (ReflectliteType.relation "AssignableTo" ReflectliteType.assignableTo) Tryz.func127 (by kernel_rfl) (by kernel_rfl) (by kernel_rfl) (by kernel_rfl)
  have h11 := @run_callFunc_extern Tryz.prog 68 _ (ReflectliteValue.method (ReflectliteValue.valueError "reflectlite.Value.Elem" 0) ReflectliteValue.elem) Tryz.func68 (by kernel_rfl) (by kernel_rfl) (by kernel_rfl) (by kernel_rfl)
  have h12 := @run_callFunc_extern Tryz.prog 69 _ ReflectliteValue.set Tryz.func69 (by kernel_rfl) (by kernel_rfl) (by kernel_rfl) (by kernel_rfl)
  have tO := as_typeOfE
  have tA := as_typeOfA
  have nA := noAs_At
  have hU := hasUnwrap_At
  have aA := as_assignableA
  have a25 := as_assignableE
  have v25 := as_valueOfE
  have f6 := as_valueOfP
  have f7 := as_typeP
  have k27 := as_kindP
  have k25 := as_kindE
  have e27 := as_elemP
  have i25 := as_implementsE
  have n8 := as_isNil ⟨w.heap.size, 0, none⟩ t ((w.alloc (.cells #[.pointer (some t)] 89)).alloc (.cells #[.pointer (some ⟨2, 89, none⟩), .pointer (some ⟨w.heap.size, 0, none⟩), .int .u64 150] 103)) (by simp)
  have hlt : 0 < w.heap.size := by
    rcases Nat.lt_or_ge 0 w.heap.size with h | h
    · exact h
    · simp [World.cell?, Array.getElem?_eq_none h] at hg
  have hg2 : ((w.alloc (.cells #[.pointer (some t)] 89)).alloc (.cells #[.pointer (some ⟨2, 89, none⟩), .pointer (some ⟨w.heap.size, 0, none⟩), .int .u64 150] 103)).cell? ⟨0, 0, none⟩ = some (.iface 125 (.agg #[.pointer (some ⟨2, 29, none⟩)])) := by
    rw [World.cell?_alloc_lt _ _ ⟨0, 0, none⟩ (by first | (simp; omega) | simp), World.cell?_alloc_lt _ _ ⟨0, 0, none⟩ hlt]; exact hg
  have hal : a.block < w.heap.size := by
    rcases Nat.lt_or_ge a.block w.heap.size with h | h
    · exact h
    · simp [World.cell?, Array.getElem?_eq_none h] at ha
  have ha2 : (((w.alloc (.cells #[.pointer (some t)] 89)).alloc (.cells #[.pointer (some ⟨2, 89, none⟩), .pointer (some ⟨w.heap.size, 0, none⟩), .int .u64 150] 103)).alloc (.cells #[.pointer (some ⟨2, 89, none⟩), .pointer (some ⟨w.heap.size, 0, none⟩), .int .u64 150] 103)).cell? a = some (.int .i64 e) := by
    rw [World.cell?_alloc_lt _ _ a (by first | (simp; omega) | simp), World.cell?_alloc_lt _ _ a (by first | (simp; omega) | simp), World.cell?_alloc_lt _ _ a hal]; exact ha
  have htl : t.block < w.heap.size := by
    rcases Nat.lt_or_ge t.block w.heap.size with h | h
    · exact h
    · simp [World.cell?, Array.getElem?_eq_none h] at ht0
  have el := as_elemV ⟨w.heap.size, 0, none⟩ t (((w.alloc (.cells #[.pointer (some t)] 89)).alloc (.cells #[.pointer (some ⟨2, 89, none⟩), .pointer (some ⟨w.heap.size, 0, none⟩), .int .u64 150] 103)).alloc (.cells #[.pointer (some ⟨2, 89, none⟩), .pointer (some ⟨w.heap.size, 0, none⟩), .int .u64 150] 103)) (by rw [World.cell?_alloc_lt _ _ ⟨w.heap.size, 0, none⟩ (by first | (simp; omega) | simp)]; simp)
  have st := as_set t ⟨w.heap.size + 1 + 1 + 1, 0, none⟩ e old ((((w.alloc (.cells #[.pointer (some t)] 89)).alloc (.cells #[.pointer (some ⟨2, 89, none⟩), .pointer (some ⟨w.heap.size, 0, none⟩), .int .u64 150] 103)).alloc (.cells #[.pointer (some ⟨2, 89, none⟩), .pointer (some ⟨w.heap.size, 0, none⟩), .int .u64 150] 103)).alloc (.cells #[.int .i64 e] 33))
    (by rw [World.cell?_alloc_at _ _ _ _ (by simp)]; rfl)
    (by rw [World.cell?_alloc_lt _ _ t (by first | (simp; omega) | simp), World.cell?_alloc_lt _ _ t (by first | (simp; omega) | simp), World.cell?_alloc_lt _ _ t (by first | (simp; omega) | simp), World.cell?_alloc_lt _ _ t htl]; exact ht0)
    (by rw [World.frozen?_alloc_old _ _ t (by first | (simp; omega) | simp), World.frozen?_alloc_old _ _ t (by first | (simp; omega) | simp), World.frozen?_alloc_old _ _ t (by first | (simp; omega) | simp), World.frozen?_alloc_old _ _ t (Nat.ne_of_lt htl)]; exact hf0)
  go_enter Tryz.func39, Tryz.ntmps39
  go_wp2
  refine wp_loop_rounds 2 ?_
  rw [rounds_succ]
  go_wp2
  rw [rounds_succ]
  go_wp2
  go_ret
  exact ⟨rfl, rfl⟩
end Go.Proofs.YtodmnogoacghpaaGreatDoor
namespace Go.Proofs.YtodmnogoacghpaaGreatDoor
open Go.RowKit Go.Extern.Stop Go.Stop Go.Extern

/-- errors.errorType is what errors.As reads. -/
def ErrVar (w : World) : Prop := w.cell? ⟨0, 0, none⟩ = some (.iface 125 (.agg #[.pointer (some ⟨2, 29, none⟩)])) ∧ 0 < w.heap.size

theorem ErrVar.below {w w' : World} (h : ErrVar w) (hb : Below w.heap.size w w') : ErrVar w' :=
  ⟨(hb.cell (p := ⟨0, 0, none⟩) h.2).trans h.1, Nat.lt_of_lt_of_le h.2 hb.size⟩

/-- An error value of the program: its number, and its place (-1: none). -/
inductive ErrV (w : World) : Value → Int → Int → Prop
  | nil : ErrV w .nilIface 0 (-1)
  | no (e : Int) : ErrV w (.iface 33 (.int .i64 e)) e (-1)
  | at (b o : Nat) (e p : Int) (h0 : w.cell? ⟨b, o, none⟩ = some (.int .i64 e)) (h1 : w.cell? ⟨b, o + 1, none⟩ = some (.int .i64 p)) (hb : b < w.heap.size) : ErrV w (.iface 113 (.pointer (some ⟨b, o, none⟩))) e p

theorem ErrV.below {w w' : World} {v : Value} {e p : Int} (h : ErrV w v e p) (hb : Below w.heap.size w w') : ErrV w' v e p := by
  cases h with
  | nil => exact .nil
  | no e => exact .no e
  | «at» b o e p h0 h1 hlt => exact .at b o e p ((hb.cell (p := ⟨b, o, none⟩) hlt).trans h0) ((hb.cell (p := ⟨b, o + 1, none⟩) hlt).trans h1) (Nat.lt_of_lt_of_le hlt hb.size)

theorem asWorld_below (w : World) (t : Addr) (e : Int) {B : Nat} (h : B ≤ t.block) (hB : B ≤ w.heap.size) : Below B w (asWorld w t e) := by
  unfold asWorld
  exact ((((((Below.refl B w).alloc hB _).alloc (by first | (simp; omega) | simp) _).alloc (by first | (simp; omega) | simp) _).alloc (by first | (simp; omega) | simp) _).setCell h _)

theorem asWorld_cell (w : World) (e : Int) : (asWorld (w.alloc (.cells #[.int .i64 0] 33)) ⟨w.heap.size, 0, none⟩ e).cell? ⟨w.heap.size, 0, none⟩ = some (.int .i64 e) := by
  unfold asWorld
  refine World.cell?_setCell_same' _ _ _ ?_
  rw [World.cell?_alloc_lt _ _ _ (by first | (simp; omega) | simp), World.cell?_alloc_lt _ _ _ (by first | (simp; omega) | simp), World.cell?_alloc_lt _ _ _ (by first | (simp; omega) | simp), World.cell?_alloc_lt _ _ _ (by simp)]
  simp [go_sem]

set_option maxHeartbeats 1000000 in
theorem tell_calls (v : Value) (e p : Int) (w : World) (hv : ErrVar w) (h : ErrV w v e p) :
    Calls Tryz.prog 22 #[v] w fun ev w' => ev = .returned (.int .i64 e) ∧ Below w.heap.size w w' := by
  have hg := hv.1
  have hgl := hv.2
  cases h with
  | nil =>
    go_enter Tryz.func22, Tryz.ntmps22
    go_wp2
    go_ret
    exact ⟨rfl, Below.refl _ _⟩
  | no e =>
    have hc := asWorld_cell w e
    have hbb := asWorld_below (w.alloc (.cells #[.int .i64 0] 33)) ⟨w.heap.size, 0, none⟩ e (B := w.heap.size) (Nat.le_refl _) (by simp)
    go_enter Tryz.func22, Tryz.ntmps22
    go_wp2_with fail
    refine (as_hit e _ (.int .i64 0) _ ?h1 ?h2 ?h3).mono ?_
    case h1 => rw [World.cell?_alloc_lt _ _ _ hgl]; exact hg
    case h2 => simp [go_sem]
    case h3 => simp [go_sem]
    rintro ev w' ⟨rfl, rfl⟩
    go_wp2
    go_ret
    exact ⟨rfl, (((Below.refl _ _).alloc (Nat.le_refl _) _).trans hbb)⟩
  | «at» b o e p h0 h1 hlt =>
    have hc := asWorld_cell w e
    have hbb := asWorld_below (w.alloc (.cells #[.int .i64 0] 33)) ⟨w.heap.size, 0, none⟩ e (B := w.heap.size) (Nat.le_refl _) (by simp)
    go_enter Tryz.func22, Tryz.ntmps22
    go_wp2_with fail
    refine (as_at _ e _ (.int .i64 0) _ ?h1 ?ha ?h2 ?h3).mono ?_
    case h1 => rw [World.cell?_alloc_lt _ _ _ hgl]; exact hg
    case ha => rw [World.cell?_alloc_lt _ _ _ hlt]; exact h0
    case h2 => simp [go_sem]
    case h3 => simp [go_sem]
    rintro ev w' ⟨rfl, rfl⟩
    go_wp2
    go_ret
    exact ⟨rfl, (((Below.refl _ _).alloc (Nat.le_refl _) _).trans hbb)⟩

theorem isAt_At (v : Value) (w : World) : (Instr.typeAssert (.iface 113 v) 29 113 true).run Tryz.prog w = .ok (.tuple #[v, .bool true]) w := by kernel_rfl
theorem isAt_E (v : Value) (w : World) : (Instr.typeAssert (.iface 33 v) 29 113 true).run Tryz.prog w = .ok (.tuple #[.pointer none, .bool false]) w := by kernel_rfl

set_option maxRecDepth 100000 in
set_option maxHeartbeats 1000000 in
theorem place_calls (v : Value) (e p : Int) (w : World) (hv : ErrVar w) (h : ErrV w v e p) :
    Calls Tryz.prog 43 #[v] w fun ev w' => ev = .returned (.tuple #[.int .i64 e, .int .i64 p]) ∧ Below w.heap.size w w' := by
  have ht := tell_calls v e p w hv h
  cases h with
  | nil =>
    go_enter Tryz.func43, Tryz.ntmps43
    go_wp2_with fail
    refine ht.mono ?_
    rintro ev w' ⟨rfl, hb⟩
    clear ht
    go_wp2_with fail
    refine wp_loop_rounds 1 ?_
    rw [rounds_succ]
    go_wp2
    go_ret2
    exact ⟨rfl, hb⟩
  | no e =>
    have nE := noUnwrap_E
    have nA := isAt_E
    go_enter Tryz.func43, Tryz.ntmps43
    go_wp2_with fail
    refine ht.mono ?_
    rintro ev w' ⟨rfl, hb⟩
    clear ht
    go_wp2_with fail
    refine wp_loop_rounds 1 ?_
    rw [rounds_succ]
    go_wp2
    go_ret2
    exact ⟨rfl, hb⟩
  | «at» b o e p h0 h1 hlt =>
    go_enter Tryz.func43, Tryz.ntmps43
    go_wp2_with fail
    refine ht.mono ?_
    rintro ev w' ⟨rfl, hb⟩
    clear ht
    have nA := isAt_At
    have c0 := (hb.cell (p := ⟨b, o, none⟩) hlt).trans h0
    have c1 := (hb.cell (p := ⟨b, o + 1, none⟩) hlt).trans h1
    go_wp2_with fail
    refine wp_loop_rounds 1 ?_
    rw [rounds_succ]
    go_wp2
    go_quiet (fail)
    go_wp2
    go_ret2
    exact ⟨rfl, below_drewN hb _⟩

set_option maxHeartbeats 1000000 in
theorem is_calls (v : Value) (e p e' p' : Int) (w : World) (hv : ErrVar w) (h : ErrV w v e p) :
    Calls Tryz.prog 27 #[v, .agg #[.int .i64 e', .int .i64 p']] w fun ev w' => ev = .returned (.bool (e == e' && p == p')) ∧ Below w.heap.size w w' := by
  have hlt := hv.2
  have hb0 : Below w.heap.size w (w.alloc (.cells #[.int .i64 e', .int .i64 p'] 70)) := (Below.refl _ _).alloc (Nat.le_refl _) _
  have hp := place_calls v e p _ (hv.below hb0) (h.below hb0)
  go_enter Tryz.func27, Tryz.ntmps27
  go_wp2_with fail
  refine hp.mono ?_
  rintro ev w' ⟨rfl, hb⟩
  clear hp
  have c0 : w'.cell? ⟨w.heap.size, 0, none⟩ = some (.int .i64 e') := (hb.cell (p := ⟨w.heap.size, 0, none⟩) (by simp)).trans (by simp [go_sem])
  have c1 : w'.cell? ⟨w.heap.size, 1, none⟩ = some (.int .i64 p') := (hb.cell (p := ⟨w.heap.size, 1, none⟩) (by simp)).trans (by simp [go_sem])
  have hb1 := hb0.trans (hb.mono (by simp : w.heap.size ≤ _))
  clear hb
  by_cases he : e = e'
  · have he' : (e == e') = true := by simp [he]
    have HE := Lib.hid he
    clear he
    go_wp2
    go_ret
    exact ⟨by simp [he'], hb1⟩
  · have he' : (e == e') = false := by simp [he]
    clear he
    go_wp2
    go_ret
    exact ⟨by simp [he'], hb1⟩

theorem bare_calls (v : Value) (e p e' : Int) (w : World) (hv : ErrVar w) (h : ErrV w v e p) :
    Calls Tryz.prog 6 #[v, .int .i64 e'] w fun ev w' => ev = .returned (.bool (e == e' && p == -1)) ∧ Below w.heap.size w w' := by
  go_enter Tryz.func6, Tryz.ntmps6
  go_wp2_with fail
  refine Calls.mono (?_ : Calls _ _ _ _ fun e1 w1 => e1 = .returned (.agg #[.int .i64 e', .int .i64 (-1)]) ∧ Below w.heap.size w w1) ?_
  · go_enter Tryz.func28, Tryz.ntmps28
    go_wp2
    go_returns
    exact ⟨rfl, by go_grown⟩
  rintro e1 w1 ⟨rfl, hb⟩
  go_wp2_with fail
  refine (is_calls v e p e' (-1) _ (hv.below hb) (h.below hb)).mono ?_
  rintro e2 w2 ⟨rfl, hb2⟩
  go_wp2
  go_ret
  exact ⟨rfl, hb.trans (hb2.mono hb.size)⟩
end Go.Proofs.YtodmnogoacghpaaGreatDoor
