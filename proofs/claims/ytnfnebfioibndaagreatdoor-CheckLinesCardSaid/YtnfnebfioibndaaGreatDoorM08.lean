/- errors.As at the target *api.Errno, by its contracts: a nil error; an Errno; an *api.At around one. (After the guide's worked text ToyasAs, turned to a target that is a number.) · errors.As at the target *api.Errno: an *api.At around an Errno. · api.Tell, plain.Place, stevedorelaw.is and bare: an error value is this one, and where. · status.Next, May, stevedoreref.Next: which state comes of a state and an event. -/
import Derived.Test.YtnfnebfioibndaaGreatDoorChecked
import Derived.WalkKit
import Derived.WalkLawsBesides
import Derived.WalkSpells
import Derived.LaidEql
import Derived.Stop.Asserts
import Derived.RowKitTokens
import Derived.Deep.QuietTactic
import Derived.BigQuiet
import Derived.Below
import Derived.Handy
import Derived.Lib.Hide
namespace Go.Proofs.YtnfnebfioibndaaGreatDoor
open Go.RowKit Go.Extern.Stop Go.Stop Go.Extern

theorem as_nil (t : Value) (w : World) :
    Calls Tryz.prog 81 #[.nilIface, t] w fun e w' => e = .returned (.bool false) ∧ w = w' := by
  go_enter Tryz.func81, Tryz.ntmps81
  go_wp2
  go_ret
  exact ⟨rfl, rfl⟩

/-! Closed facts on the model's entries for internal/reflectlite at this program's types. -/
theorem as_valueOfP (t : Addr) (w : World) : (ReflectliteValue.unpack (.iface 146 (.pointer (some t)))).run Tryz.prog w
    = .ok (.agg #[.pointer (some ⟨7, 146, none⟩), .pointer (some ⟨w.heap.size, 0, none⟩), .int .u64 150]) (w.alloc (.cells #[.pointer (some t)] 146)) := by kernel_rfl
theorem as_typeP (a : Addr) (w : World) : (ReflectliteValue.methodAny (ReflectliteValue.valueError "reflectlite.Value.Type" 0) (fun t _ _ _ => ReflectliteType.toType t) #[.agg #[.pointer (some ⟨7, 146, none⟩), .pointer (some a), .int .u64 150]]).run Tryz.prog w
    = .ok (.iface 195 (.agg #[.pointer (some ⟨7, 146, none⟩)])) w := by kernel_rfl
theorem as_kindP (w : World) : ((ReflectliteType.abiMethod fun t => (fun a : Nat => Value.int IntKind.u8 (a : Int)) <$> Rtype.kind t) #[.pointer (some ⟨7, 146, none⟩)]).run Tryz.prog w = .ok (.int .u8 22) w := by kernel_rfl
theorem as_kindE (w : World) : ((ReflectliteType.abiMethod fun t => (fun a : Nat => Value.int IntKind.u8 (a : Int)) <$> Rtype.kind t) #[.pointer (some ⟨7, 40, none⟩)]).run Tryz.prog w = .ok (.int .u8 2) w := by kernel_rfl

theorem as_rlm (z : Sem Value) (f : TypeId → Addr → Nat → Nat → Sem Value) (v : Value) :
    ReflectliteValue.method z f #[v] = (do match ← ReflectliteValue.parts v with | none => z | some (t, a, fl) => f t a fl (fl % 32)) := rfl
theorem as_partsP (a : Addr) (w : World) : (ReflectliteValue.parts (.agg #[.pointer (some ⟨7, 146, none⟩), .pointer (some a), .int .u64 150])).run Tryz.prog w = .ok (some (146, a, 150)) w := by kernel_rfl
theorem as_isNil (a p : Addr) (W : World) (ha : W.cell? a = some (.pointer (some p))) :
    (ReflectliteValue.method (ReflectliteValue.valueError "reflectlite.Value.IsNil" 0) ReflectliteValue.isNil #[.agg #[.pointer (some ⟨7, 146, none⟩), .pointer (some a), .int .u64 150]]).run Tryz.prog W = .ok (.bool false) W := by
  rw [as_rlm]
  simp only [Sem.run_bind, as_partsP, Result.andThen]
  simp [ReflectliteValue.isNil, loadVar, isAgg, underlying, Tryz.underlying146, ha, Result.andThen]

theorem as_elemP (w : World) : (ReflectliteType.method ReflectliteType.elem #[.agg #[.pointer (some ⟨7, 146, none⟩)]]).run Tryz.prog w = .ok (.iface 195 (.agg #[.pointer (some ⟨7, 40, none⟩)])) w := by kernel_rfl
theorem as_implementsE (w : World) : (ReflectliteType.relation "Implements" ReflectliteType.implements_ #[.agg #[.pointer (some ⟨7, 40, none⟩)], .iface 195 (.agg #[.pointer (some ⟨7, 38, none⟩)])]).run Tryz.prog w = .ok (.bool true) w := by kernel_rfl
theorem as_typeOfE (v : Value) (w : World) : (ReflectliteType.typeOf #[.iface 40 v]).run Tryz.prog w = .ok (.iface 195 (.agg #[.pointer (some ⟨7, 40, none⟩)])) w := by kernel_rfl
theorem as_typeOfA (v : Value) (w : World) : (ReflectliteType.typeOf #[.iface 79 v]).run Tryz.prog w = .ok (.iface 195 (.agg #[.pointer (some ⟨7, 79, none⟩)])) w := by kernel_rfl
theorem as_assignableE (w : World) : (ReflectliteType.relation "AssignableTo" ReflectliteType.assignableTo #[.agg #[.pointer (some ⟨7, 40, none⟩)], .iface 195 (.agg #[.pointer (some ⟨7, 40, none⟩)])]).run Tryz.prog w = .ok (.bool true) w := by kernel_rfl
theorem as_assignableA (w : World) : (ReflectliteType.relation "AssignableTo" ReflectliteType.assignableTo #[.agg #[.pointer (some ⟨7, 79, none⟩)], .iface 195 (.agg #[.pointer (some ⟨7, 40, none⟩)])]).run Tryz.prog w = .ok (.bool false) w := by kernel_rfl
theorem as_valueOfE (e : Int) (w : World) : (ReflectliteValue.unpack (.iface 40 (.int .i64 e))).run Tryz.prog w
    = .ok (.agg #[.pointer (some ⟨7, 40, none⟩), .pointer (some ⟨w.heap.size, 0, none⟩), .int .u64 130]) (w.alloc (.cells #[.int .i64 e] 40)) := by kernel_rfl

theorem as_elemOfP (w : World) : (Rtype.elem? 146).run Tryz.prog w = .ok (some 40) w := by kernel_rfl
theorem as_mkE (p : Addr) (w : World) : (ReflectliteValue.mk 40 p ReflectliteValue.flagAddr).run Tryz.prog w = .ok (.agg #[.pointer (some ⟨7, 40, none⟩), .pointer (some p), .int .u64 386]) w := by kernel_rfl
theorem as_elemV (a p : Addr) (W : World) (ha : W.cell? a = some (.pointer (some p))) :
    (ReflectliteValue.method (ReflectliteValue.valueError "reflectlite.Value.Elem" 0) ReflectliteValue.elem #[.agg #[.pointer (some ⟨7, 146, none⟩), .pointer (some a), .int .u64 150]]).run Tryz.prog W
      = .ok (.agg #[.pointer (some ⟨7, 40, none⟩), .pointer (some p), .int .u64 386]) W := by
  rw [as_rlm]
  simp only [Sem.run_bind, as_partsP, Result.andThen]
  simp [ReflectliteValue.elem, loadVar, isAgg, underlying, Tryz.underlying146, ha, Result.andThen, as_elemOfP, as_mkE]
theorem as_rls (v x : Value) : ReflectliteValue.set #[v, x] = (do
    let (some (dst, a, fl), some (src, b, _)) := (← ReflectliteValue.parts v, ← ReflectliteValue.parts x)
      | unsupported (.noEntry "extern/(internal/reflectlite.Value).Set.zeroValue")
    if fl / ReflectliteValue.flagAddr % 2 == 0 then unsupported (.noEntry "extern/(internal/reflectlite.Value).Set.unaddressable")
    let val ← loadVar src b
    if ← Rtype.directlyAssignable dst src then storeVar dst a val
    else if ← Rtype.implements dst src then
      if (← Rtype.kind src) == 20 then
        match val with
        | .nilIface => unsupported (.noEntry "extern/reflectlite: a nil value of one interface type handed on as a value of another")
        | _ => storeVar dst a val
      else storeVar dst a (.iface src val)
    else panicString ("reflectlite.Set: value of type " ++ (← Rtype.spelt src) ++ " is not assignable to type " ++ (← Rtype.spelt dst))
    pure (.tuple #[])) := rfl
theorem as_partsEa (a : Addr) (w : World) : (ReflectliteValue.parts (.agg #[.pointer (some ⟨7, 40, none⟩), .pointer (some a), .int .u64 386])).run Tryz.prog w = .ok (some (40, a, 386)) w := by kernel_rfl
theorem as_partsE (a : Addr) (w : World) : (ReflectliteValue.parts (.agg #[.pointer (some ⟨7, 40, none⟩), .pointer (some a), .int .u64 130])).run Tryz.prog w = .ok (some (40, a, 130)) w := by kernel_rfl
theorem as_directE (w : World) : (Rtype.directlyAssignable 40 40).run Tryz.prog w = .ok true w := by kernel_rfl
theorem as_set (ta b : Addr) (e : Int) (old : Value) (W : World) (hb : W.cell? b = some (.int .i64 e)) (ht : W.cell? ta = some old) (hf : W.frozen? ta = false) :
    (ReflectliteValue.set #[.agg #[.pointer (some ⟨7, 40, none⟩), .pointer (some ta), .int .u64 386], .agg #[.pointer (some ⟨7, 40, none⟩), .pointer (some b), .int .u64 130]]).run Tryz.prog W
      = .ok (.tuple #[]) (W.setCell ta (.int .i64 e)) := by
  rw [as_rls]
  simp only [Sem.run_bind, as_partsEa, as_partsE, Result.andThen]
  simp [ReflectliteValue.flagAddr, loadVar, isAgg, underlying, Tryz.underlying40, hb, Result.andThen, as_directE, storeVar, Value.cells, storeCells, Addr.add]
  rw [run_store Tryz.prog W ta _ _ (by rfl)]
  simp [ht, hf]

/-- The world that errors.As leaves: reflectlite's own copies, then the target's cell. -/
def asWorld (w : World) (t : Addr) (e : Int) : World :=
  ((((w.alloc (.cells #[.pointer (some t)] 146)).alloc (.cells #[.pointer (some ⟨7, 146, none⟩), .pointer (some ⟨w.heap.size, 0, none⟩), .int .u64 150] 175)).alloc (.cells #[.pointer (some ⟨7, 146, none⟩), .pointer (some ⟨w.heap.size, 0, none⟩), .int .u64 150] 175)).alloc (.cells #[.int .i64 e] 40)).setCell t (.int .i64 e)

set_option maxHeartbeats 4000000 in
theorem as_hit (e : Int) (t : Addr) (old : Value) (w : World) (hg : w.cell? ⟨3, 0, none⟩ = some (.iface 195 (.agg #[.pointer (some ⟨7, 38, none⟩)]))) (ht0 : w.cell? t = some old) (hf0 : w.frozen? t = false) :
    Calls Tryz.prog 81 #[.iface 40 (.int .i64 e), .iface 146 (.pointer (some t))] w fun ev w' => ev = .returned (.bool true) ∧ w' = asWorld w t e := by
  unfold asWorld
  have h6 := @run_callFunc_extern Tryz.prog 99 _ (fun args => ReflectliteValue.unpack (args.getD 0 (.tuple #[]))) Tryz.func99 (by kernel_rfl) (by kernel_rfl) (by kernel_rfl) (by kernel_rfl)
  have h7 := @run_callFunc_extern Tryz.prog 100 _ (ReflectliteValue.methodAny (ReflectliteValue.valueError "reflectlite.Value.Type" 0) (fun t _ _ _ => ReflectliteType.toType t)) Tryz.func100 (by kernel_rfl) (by kernel_rfl) (by kernel_rfl) (by kernel_rfl)
  have h8 := @run_callFunc_extern Tryz.prog 101 _ (ReflectliteValue.method (ReflectliteValue.valueError "reflectlite.Value.IsNil" 0) ReflectliteValue.isNil) Tryz.func101 (by kernel_rfl) (by kernel_rfl) (by kernel_rfl) (by kernel_rfl)
  have h27 := @run_callFunc_extern Tryz.prog 157 _ (ReflectliteType.abiMethod fun t => do pure (.int .u8 (← Rtype.kind t))) Tryz.func157 (by kernel_rfl) (by kernel_rfl) (by kernel_rfl) (by kernel_rfl)
  have h37 := @run_callFunc_extern Tryz.prog 169 _ (ReflectliteType.method ReflectliteType.elem) Tryz.func169 (by kernel_rfl) (by kernel_rfl) (by kernel_rfl) (by kernel_rfl)
  have h38 := @run_callFunc_extern Tryz.prog 170 _ (ReflectliteType.relation "Implements" ReflectliteType.implements_) Tryz.func170 (by kernel_rfl) (by kernel_rfl) (by kernel_rfl) (by kernel_rfl)
  have h10 := @run_callFunc_extern Tryz.prog 114 _ ReflectliteType.typeOf Tryz.func114 (by kernel_rfl) (by kernel_rfl) (by kernel_rfl) (by kernel_rfl)
  have h35 := @run_callFunc_extern Tryz.prog 167 _ (ReflectliteType.relation "AssignableTo" ReflectliteType.assignableTo) Tryz.func167 (by kernel_rfl) (by kernel_rfl) (by kernel_rfl) (by kernel_rfl)
  have h11 := @run_callFunc_extern Tryz.prog 115 _ (ReflectliteValue.method (ReflectliteValue.valueError "reflectlite.Value.Elem" 0) ReflectliteValue.elem) Tryz.func115 (by kernel_rfl) (by kernel_rfl) (by kernel_rfl) (by kernel_rfl)
  have h12 := @run_callFunc_extern Tryz.prog 116 _ ReflectliteValue.set Tryz.func116 (by kernel_rfl) (by kernel_rfl) (by kernel_rfl) (by kernel_rfl)
  have tO := as_typeOfE
  have a25 := as_assignableE
  have v25 := as_valueOfE
  have f6 := as_valueOfP
  have f7 := as_typeP
  have k27 := as_kindP
  have k25 := as_kindE
  have e27 := as_elemP
  have i25 := as_implementsE
  have n8 := as_isNil ⟨w.heap.size, 0, none⟩ t ((w.alloc (.cells #[.pointer (some t)] 146)).alloc (.cells #[.pointer (some ⟨7, 146, none⟩), .pointer (some ⟨w.heap.size, 0, none⟩), .int .u64 150] 175)) (by simp)
  have hlt : 3 < w.heap.size := by
    rcases Nat.lt_or_ge 3 w.heap.size with h | h
    · exact h
    · simp [World.cell?, Array.getElem?_eq_none h] at hg
  have hg2 : ((w.alloc (.cells #[.pointer (some t)] 146)).alloc (.cells #[.pointer (some ⟨7, 146, none⟩), .pointer (some ⟨w.heap.size, 0, none⟩), .int .u64 150] 175)).cell? ⟨3, 0, none⟩ = some (.iface 195 (.agg #[.pointer (some ⟨7, 38, none⟩)])) := by
    rw [World.cell?_alloc_lt _ _ ⟨3, 0, none⟩ (by simp; omega), World.cell?_alloc_lt _ _ ⟨3, 0, none⟩ hlt]; exact hg
  have htl : t.block < w.heap.size := by
    rcases Nat.lt_or_ge t.block w.heap.size with h | h
    · exact h
    · simp [World.cell?, Array.getElem?_eq_none h] at ht0
  have el := as_elemV ⟨w.heap.size, 0, none⟩ t (((w.alloc (.cells #[.pointer (some t)] 146)).alloc (.cells #[.pointer (some ⟨7, 146, none⟩), .pointer (some ⟨w.heap.size, 0, none⟩), .int .u64 150] 175)).alloc (.cells #[.pointer (some ⟨7, 146, none⟩), .pointer (some ⟨w.heap.size, 0, none⟩), .int .u64 150] 175)) (by rw [World.cell?_alloc_lt _ _ ⟨w.heap.size, 0, none⟩ (by simp; omega)]; simp)
  have st := as_set t ⟨w.heap.size + 1 + 1 + 1, 0, none⟩ e old ((((w.alloc (.cells #[.pointer (some t)] 146)).alloc (.cells #[.pointer (some ⟨7, 146, none⟩), .pointer (some ⟨w.heap.size, 0, none⟩), .int .u64 150] 175)).alloc (.cells #[.pointer (some ⟨7, 146, none⟩), .pointer (some ⟨w.heap.size, 0, none⟩), .int .u64 150] 175)).alloc (.cells #[.int .i64 e] 40))
    (by rw [World.cell?_alloc_at _ _ _ _ (by simp)]; rfl)
    (by rw [World.cell?_alloc_lt _ _ t (by simp; omega), World.cell?_alloc_lt _ _ t (by simp; omega), World.cell?_alloc_lt _ _ t (by simp; omega), World.cell?_alloc_lt _ _ t htl]; exact ht0)
    (by rw [World.frozen?_alloc_old _ _ t (by simp; omega), World.frozen?_alloc_old _ _ t (by simp; omega), World.frozen?_alloc_old _ _ t (by simp; omega), World.frozen?_alloc_old _ _ t (Nat.ne_of_lt htl)]; exact hf0)
  go_enter Tryz.func81, Tryz.ntmps81
  go_wp2
  refine wp_loop_rounds 1 ?_
  rw [rounds_succ]
  go_wp2
  go_ret
  exact ⟨rfl, rfl⟩
end Go.Proofs.YtnfnebfioibndaaGreatDoor
namespace Go.Proofs.YtnfnebfioibndaaGreatDoor
open Go.RowKit Go.Extern.Stop Go.Stop Go.Extern

theorem noAs_At (v : Value) (xT : TypeId) (w : World) : (Instr.typeAssert (.iface 79 v) xT 200 true).run Tryz.prog w = .ok (.tuple #[.nilIface, .bool false]) w :=
  run_typeAssert_lacksB Tryz.underlying200 (by kernel_rfl) (by kernel_rfl) v xT w
theorem hasUnwrap_At (v : Value) (xT : TypeId) (w : World) : (Instr.typeAssert (.iface 79 v) xT 112 true).run Tryz.prog w = .ok (.tuple #[.iface 79 v, .bool true]) w :=
  run_typeAssert_hasB Tryz.underlying112 (by kernel_rfl) v xT w
theorem noUnwrap_E (v : Value) (xT : TypeId) (w : World) : (Instr.typeAssert (.iface 40 v) xT 112 true).run Tryz.prog w = .ok (.tuple #[.nilIface, .bool false]) w :=
  run_typeAssert_lacksB Tryz.underlying112 (by kernel_rfl) (by kernel_rfl) v xT w

set_option maxRecDepth 100000 in
set_option maxHeartbeats 4000000 in
theorem as_at (a : Addr) (e : Int) (t : Addr) (old : Value) (w : World) (hg : w.cell? ⟨3, 0, none⟩ = some (.iface 195 (.agg #[.pointer (some ⟨7, 38, none⟩)]))) (ha : w.cell? a = some (.int .i64 e)) (ht0 : w.cell? t = some old) (hf0 : w.frozen? t = false) :
    Calls Tryz.prog 81 #[.iface 79 (.pointer (some a)), .iface 146 (.pointer (some t))] w fun ev w' => ev = .returned (.bool true) ∧ w' = asWorld w t e := by
  unfold asWorld
  have h6 := @run_callFunc_extern Tryz.prog 99 _ (fun args => ReflectliteValue.unpack (args.getD 0 (.tuple #[]))) Tryz.func99 (by kernel_rfl) (by kernel_rfl) (by kernel_rfl) (by kernel_rfl)
  have h7 := @run_callFunc_extern Tryz.prog 100 _ (ReflectliteValue.methodAny (ReflectliteValue.valueError "reflectlite.Value.Type" 0) (fun t _ _ _ => ReflectliteType.toType t)) Tryz.func100 (by kernel_rfl) (by kernel_rfl) (by kernel_rfl) (by kernel_rfl)
  have h8 := @run_callFunc_extern Tryz.prog 101 _ (ReflectliteValue.method (ReflectliteValue.valueError "reflectlite.Value.IsNil" 0) ReflectliteValue.isNil) Tryz.func101 (by kernel_rfl) (by kernel_rfl) (by kernel_rfl) (by kernel_rfl)
  have h27 := @run_callFunc_extern Tryz.prog 157 _ (ReflectliteType.abiMethod fun t => do pure (.int .u8 (← Rtype.kind t))) Tryz.func157 (by kernel_rfl) (by kernel_rfl) (by kernel_rfl) (by kernel_rfl)
  have h37 := @run_callFunc_extern Tryz.prog 169 _ (ReflectliteType.method ReflectliteType.elem) Tryz.func169 (by kernel_rfl) (by kernel_rfl) (by kernel_rfl) (by kernel_rfl)
  have h38 := @run_callFunc_extern Tryz.prog 170 _ (ReflectliteType.relation "Implements" ReflectliteType.implements_) Tryz.func170 (by kernel_rfl) (by kernel_rfl) (by kernel_rfl) (by kernel_rfl)
  have h10 := @run_callFunc_extern Tryz.prog 114 _ ReflectliteType.typeOf Tryz.func114 (by kernel_rfl) (by kernel_rfl) (by kernel_rfl) (by kernel_rfl)
  have h35 := @run_callFunc_extern Tryz.prog 167 _ (ReflectliteType.relation "AssignableTo" ReflectliteType.assignableTo) Tryz.func167 (by kernel_rfl) (by kernel_rfl) (by kernel_rfl) (by kernel_rfl)
  have h11 := @run_callFunc_extern Tryz.prog 115 _ (ReflectliteValue.method (ReflectliteValue.valueError "reflectlite.Value.Elem" 0) ReflectliteValue.elem) Tryz.func115 (by kernel_rfl) (by kernel_rfl) (by kernel_rfl) (by kernel_rfl)
  have h12 := @run_callFunc_extern Tryz.prog 116 _ ReflectliteValue.set Tryz.func116 (by kernel_rfl) (by kernel_rfl) (by kernel_rfl) (by kernel_rfl)
  have tO := as_typeOfE
  have tA := as_typeOfA
  have nA := noAs_At
  have hU := hasUnwrap_At
  have aA := as_assignableA
  have a25 := as_assignableE
  have v25 := as_valueOfE
  have f6 := as_valueOfP
  have f7 := as_typeP
  have k27 := as_kindP
  have k25 := as_kindE
  have e27 := as_elemP
  have i25 := as_implementsE
  have n8 := as_isNil ⟨w.heap.size, 0, none⟩ t ((w.alloc (.cells #[.pointer (some t)] 146)).alloc (.cells #[.pointer (some ⟨7, 146, none⟩), .pointer (some ⟨w.heap.size, 0, none⟩), .int .u64 150] 175)) (by simp)
  have hlt : 3 < w.heap.size := by
    rcases Nat.lt_or_ge 3 w.heap.size with h | h
    · exact h
    · simp [World.cell?, Array.getElem?_eq_none h] at hg
  have hg2 : ((w.alloc (.cells #[.pointer (some t)] 146)).alloc (.cells #[.pointer (some ⟨7, 146, none⟩), .pointer (some ⟨w.heap.size, 0, none⟩), .int .u64 150] 175)).cell? ⟨3, 0, none⟩ = some (.iface 195 (.agg #[.pointer (some ⟨7, 38, none⟩)])) := by
    rw [World.cell?_alloc_lt _ _ ⟨3, 0, none⟩ (by simp; omega), World.cell?_alloc_lt _ _ ⟨3, 0, none⟩ hlt]; exact hg
  have hal : a.block < w.heap.size := by
    rcases Nat.lt_or_ge a.block w.heap.size with h | h
    · exact h
    · simp [World.cell?, Array.getElem?_eq_none h] at ha
  have ha2 : (((w.alloc (.cells #[.pointer (some t)] 146)).alloc (.cells #[.pointer (some ⟨7, 146, none⟩), .pointer (some ⟨w.heap.size, 0, none⟩), .int .u64 150] 175)).alloc (.cells #[.pointer (some ⟨7, 146, none⟩), .pointer (some ⟨w.heap.size, 0, none⟩), .int .u64 150] 175)).cell? a = some (.int .i64 e) := by
    rw [World.cell?_alloc_lt _ _ a (by simp; omega), World.cell?_alloc_lt _ _ a (by simp; omega), World.cell?_alloc_lt _ _ a hal]; exact ha
  have htl : t.block < w.heap.size := by
    rcases Nat.lt_or_ge t.block w.heap.size with h | h
    · exact h
    · simp [World.cell?, Array.getElem?_eq_none h] at ht0
  have el := as_elemV ⟨w.heap.size, 0, none⟩ t (((w.alloc (.cells #[.pointer (some t)] 146)).alloc (.cells #[.pointer (some ⟨7, 146, none⟩), .pointer (some ⟨w.heap.size, 0, none⟩), .int .u64 150] 175)).alloc (.cells #[.pointer (some ⟨7, 146, none⟩), .pointer (some ⟨w.heap.size, 0, none⟩), .int .u64 150] 175)) (by rw [World.cell?_alloc_lt _ _ ⟨w.heap.size, 0, none⟩ (by simp; omega)]; simp)
  have st := as_set t ⟨w.heap.size + 1 + 1 + 1, 0, none⟩ e old ((((w.alloc (.cells #[.pointer (some t)] 146)).alloc (.cells #[.pointer (some ⟨7, 146, none⟩), .pointer (some ⟨w.heap.size, 0, none⟩), .int .u64 150] 175)).alloc (.cells #[.pointer (some ⟨7, 146, none⟩), .pointer (some ⟨w.heap.size, 0, none⟩), .int .u64 150] 175)).alloc (.cells #[.int .i64 e] 40))
    (by rw [World.cell?_alloc_at _ _ _ _ (by simp)]; rfl)
    (by rw [World.cell?_alloc_lt _ _ t (by simp; omega), World.cell?_alloc_lt _ _ t (by simp; omega), World.cell?_alloc_lt _ _ t (by simp; omega), World.cell?_alloc_lt _ _ t htl]; exact ht0)
    (by rw [World.frozen?_alloc_old _ _ t (by simp; omega), World.frozen?_alloc_old _ _ t (by simp; omega), World.frozen?_alloc_old _ _ t (by simp; omega), World.frozen?_alloc_old _ _ t (Nat.ne_of_lt htl)]; exact hf0)
  go_enter Tryz.func81, Tryz.ntmps81
  go_wp2
  refine wp_loop_rounds 2 ?_
  rw [rounds_succ]
  go_wp2
  rw [rounds_succ]
  go_wp2
  go_ret
  exact ⟨rfl, rfl⟩
end Go.Proofs.YtnfnebfioibndaaGreatDoor
namespace Go.Proofs.YtnfnebfioibndaaGreatDoor
open Go.RowKit Go.Extern.Stop Go.Stop Go.Extern

/-- errors.errorType is what errors.As reads. -/
def ErrVar (w : World) : Prop := w.cell? ⟨3, 0, none⟩ = some (.iface 195 (.agg #[.pointer (some ⟨7, 38, none⟩)])) ∧ 3 < w.heap.size

theorem ErrVar.below {w w' : World} (h : ErrVar w) (hb : Below w.heap.size w w') : ErrVar w' :=
  ⟨(hb.cell (p := ⟨3, 0, none⟩) h.2).trans h.1, Nat.lt_of_lt_of_le h.2 hb.size⟩

/-- An error value of the program: its number, and its place (-1: none). -/
inductive ErrV (w : World) : Value → Int → Int → Prop
  | nil : ErrV w .nilIface 0 (-1)
  | no (e : Int) : ErrV w (.iface 40 (.int .i64 e)) e (-1)
  | at (b o : Nat) (e p : Int) (h0 : w.cell? ⟨b, o, none⟩ = some (.int .i64 e)) (h1 : w.cell? ⟨b, o + 1, none⟩ = some (.int .i64 p)) (hb : b < w.heap.size) : ErrV w (.iface 79 (.pointer (some ⟨b, o, none⟩))) e p

theorem ErrV.below {w w' : World} {v : Value} {e p : Int} (h : ErrV w v e p) (hb : Below w.heap.size w w') : ErrV w' v e p := by
  cases h with
  | nil => exact .nil
  | no e => exact .no e
  | «at» b o e p h0 h1 hlt => exact .at b o e p ((hb.cell (p := ⟨b, o, none⟩) hlt).trans h0) ((hb.cell (p := ⟨b, o + 1, none⟩) hlt).trans h1) (Nat.lt_of_lt_of_le hlt hb.size)

theorem asWorld_below (w : World) (t : Addr) (e : Int) {B : Nat} (h : B ≤ t.block) (hB : B ≤ w.heap.size) : Below B w (asWorld w t e) := by
  unfold asWorld
  exact ((((((Below.refl B w).alloc hB _).alloc (by simp; omega) _).alloc (by simp; omega) _).alloc (by simp; omega) _).setCell h _)

theorem asWorld_cell (w : World) (e : Int) : (asWorld (w.alloc (.cells #[.int .i64 0] 40)) ⟨w.heap.size, 0, none⟩ e).cell? ⟨w.heap.size, 0, none⟩ = some (.int .i64 e) := by
  unfold asWorld
  refine World.cell?_setCell_same' _ _ _ ?_
  rw [World.cell?_alloc_lt _ _ _ (by simp; omega), World.cell?_alloc_lt _ _ _ (by simp; omega), World.cell?_alloc_lt _ _ _ (by simp; omega), World.cell?_alloc_lt _ _ _ (by simp)]
  simp [go_sem]

set_option maxHeartbeats 1000000 in
theorem tell_calls (v : Value) (e p : Int) (w : World) (hv : ErrVar w) (h : ErrV w v e p) :
    Calls Tryz.prog 53 #[v] w fun ev w' => ev = .returned (.int .i64 e) ∧ Below w.heap.size w w' := by
  have hg := hv.1
  have hgl := hv.2
  cases h with
  | nil =>
    go_enter Tryz.func53, Tryz.ntmps53
    go_wp2
    go_ret
    exact ⟨rfl, Below.refl _ _⟩
  | no e =>
    have hc := asWorld_cell w e
    have hbb := asWorld_below (w.alloc (.cells #[.int .i64 0] 40)) ⟨w.heap.size, 0, none⟩ e (B := w.heap.size) (Nat.le_refl _) (by simp)
    go_enter Tryz.func53, Tryz.ntmps53
    go_wp2_with fail
    refine (as_hit e _ (.int .i64 0) _ ?h1 ?h2 ?h3).mono ?_
    case h1 => rw [World.cell?_alloc_lt _ _ _ hgl]; exact hg
    case h2 => simp [go_sem]
    case h3 => simp [go_sem]
    rintro ev w' ⟨rfl, rfl⟩
    go_wp2
    go_ret
    exact ⟨rfl, (((Below.refl _ _).alloc (Nat.le_refl _) _).trans hbb)⟩
  | «at» b o e p h0 h1 hlt =>
    have hc := asWorld_cell w e
    have hbb := asWorld_below (w.alloc (.cells #[.int .i64 0] 40)) ⟨w.heap.size, 0, none⟩ e (B := w.heap.size) (Nat.le_refl _) (by simp)
    go_enter Tryz.func53, Tryz.ntmps53
    go_wp2_with fail
    refine (as_at _ e _ (.int .i64 0) _ ?h1 ?ha ?h2 ?h3).mono ?_
    case h1 => rw [World.cell?_alloc_lt _ _ _ hgl]; exact hg
    case ha => rw [World.cell?_alloc_lt _ _ _ hlt]; exact h0
    case h2 => simp [go_sem]
    case h3 => simp [go_sem]
    rintro ev w' ⟨rfl, rfl⟩
    go_wp2
    go_ret
    exact ⟨rfl, (((Below.refl _ _).alloc (Nat.le_refl _) _).trans hbb)⟩

theorem isAt_At (v : Value) (w : World) : (Instr.typeAssert (.iface 79 v) 38 79 true).run Tryz.prog w = .ok (.tuple #[v, .bool true]) w := by kernel_rfl
theorem isAt_E (v : Value) (w : World) : (Instr.typeAssert (.iface 40 v) 38 79 true).run Tryz.prog w = .ok (.tuple #[.pointer none, .bool false]) w := by kernel_rfl

set_option maxRecDepth 100000 in
set_option maxHeartbeats 1000000 in
theorem place_calls (v : Value) (e p : Int) (w : World) (hv : ErrVar w) (h : ErrV w v e p) :
    Calls Tryz.prog 21 #[v] w fun ev w' => ev = .returned (.tuple #[.int .i64 e, .int .i64 p]) ∧ Below w.heap.size w w' := by
  have ht := tell_calls v e p w hv h
  cases h with
  | nil =>
    go_enter Tryz.func21, Tryz.ntmps21
    go_wp2_with fail
    refine ht.mono ?_
    rintro ev w' ⟨rfl, hb⟩
    clear ht
    go_wp2_with fail
    refine wp_loop_rounds 1 ?_
    rw [rounds_succ]
    go_wp2
    go_ret2
    exact ⟨rfl, hb⟩
  | no e =>
    have nE := noUnwrap_E
    have nA := isAt_E
    go_enter Tryz.func21, Tryz.ntmps21
    go_wp2_with fail
    refine ht.mono ?_
    rintro ev w' ⟨rfl, hb⟩
    clear ht
    go_wp2_with fail
    refine wp_loop_rounds 1 ?_
    rw [rounds_succ]
    go_wp2
    go_ret2
    exact ⟨rfl, hb⟩
  | «at» b o e p h0 h1 hlt =>
    go_enter Tryz.func21, Tryz.ntmps21
    go_wp2_with fail
    refine ht.mono ?_
    rintro ev w' ⟨rfl, hb⟩
    clear ht
    have nA := isAt_At
    have c0 := (hb.cell (p := ⟨b, o, none⟩) hlt).trans h0
    have c1 := (hb.cell (p := ⟨b, o + 1, none⟩) hlt).trans h1
    go_wp2_with fail
    refine wp_loop_rounds 1 ?_
    rw [rounds_succ]
    go_wp2
    go_quiet (fail)
    go_wp2
    go_ret2
    exact ⟨rfl, below_drewN hb _⟩

set_option maxHeartbeats 1000000 in
theorem is_calls (v : Value) (e p e' p' : Int) (w : World) (hv : ErrVar w) (h : ErrV w v e p) :
    Calls Tryz.prog 7 #[v, .agg #[.int .i64 e', .int .i64 p']] w fun ev w' => ev = .returned (.bool (e == e' && p == p')) ∧ Below w.heap.size w w' := by
  have hlt := hv.2
  have hb0 : Below w.heap.size w (w.alloc (.cells #[.int .i64 e', .int .i64 p'] 42)) := (Below.refl _ _).alloc (Nat.le_refl _) _
  have hp := place_calls v e p _ (hv.below hb0) (h.below hb0)
  go_enter Tryz.func7, Tryz.ntmps7
  go_wp2_with fail
  refine hp.mono ?_
  rintro ev w' ⟨rfl, hb⟩
  clear hp
  have c0 : w'.cell? ⟨w.heap.size, 0, none⟩ = some (.int .i64 e') := (hb.cell (p := ⟨w.heap.size, 0, none⟩) (by simp)).trans (by simp [go_sem])
  have c1 : w'.cell? ⟨w.heap.size, 1, none⟩ = some (.int .i64 p') := (hb.cell (p := ⟨w.heap.size, 1, none⟩) (by simp)).trans (by simp [go_sem])
  have hb1 := hb0.trans (hb.mono (by simp : w.heap.size ≤ _))
  clear hb
  by_cases he : e = e'
  · have he' : (e == e') = true := by simp [he]
    have HE := Lib.hid he
    clear he
    go_wp2
    go_ret
    exact ⟨by simp [he'], hb1⟩
  · have he' : (e == e') = false := by simp [he]
    clear he
    go_wp2
    go_ret
    exact ⟨by simp [he'], hb1⟩

end Go.Proofs.YtnfnebfioibndaaGreatDoor
namespace Go.Proofs.YtnfnebfioibndaaGreatDoor
open Go.RowKit

/-- The program's table, row by row (of the event, from 0 on). -/
def afterT (e s : Nat) : Int :=
  (([[0, 0, 0, 0, 0, 0, 0, 0], [2, 2, 2, 2, 2, 2, 2, 2], [-1, -1, 3, -1, -1, -1, -1, -1], [-1, -1, -1, 4, 4, -1, -1, -1], [-1, -1, -1, -1, 7, -1, -1, -1], [-1, -1, 2, -1, 4, -1, 4, -1], [-1, -1, 2, 2, 2, 2, 2, 2], [-1, -1, 1, -1, -1, -1, -1, -1], [-1, 0, 0, -1, -1, -1, -1, -1], [-1, -1, -1, -1, -1, 5, 6, 6], [-1, -1, -1, -1, -1, -1, 7, -1]] : List (List Int)).getD e []).getD s 0
/-- The document's table, as bytes. -/
def refT (e : Nat) : List UInt8 :=
  ([[50, 50, 50, 50, 50, 50, 50, 50], [45, 45, 51, 45, 45, 45, 45, 45], [45, 45, 45, 52, 52, 45, 45, 45], [45, 45, 45, 45, 55, 45, 45, 45], [45, 45, 50, 45, 52, 45, 52, 45], [45, 45, 50, 50, 50, 50, 50, 50], [45, 45, 49, 45, 45, 45, 45, 45], [45, 48, 48, 45, 45, 45, 45, 45], [45, 45, 45, 45, 45, 53, 54, 54], [45, 45, 45, 45, 45, 45, 55, 45]] : List (List UInt8)).getD e []

/-- The two tables say one thing. -/
theorem tables : ∀ e, e < 10 → ∀ s, s < 8 → (refT e).length = 8 ∧ (((refT e).getD s 0 = 45 ∧ afterT (e + 1) s = -1) ∨ ((refT e).getD s 0 ≠ 45 ∧ 48 ≤ ((refT e).getD s 0).toNat ∧ afterT (e + 1) s = (((refT e).getD s 0).toNat : Int) - 48)) := by decide

def nextN (s e : Int) : Int := if s < 0 ∨ 7 < s ∨ e < 1 ∨ 10 < e then 0 else if 0 ≤ afterT e.toNat s.toNat then afterT e.toNat s.toNat else 0
def nextE (s e : Int) : Int := if s < 0 ∨ 7 < s ∨ e < 1 ∨ 10 < e then 1 else if 0 ≤ afterT e.toNat s.toNat then 0 else 6
/-- An Errno as an error: OK is none. -/
def errOf (e : Int) : Value := if e = 0 then .nilIface else .iface 40 (.int .i64 e)

theorem errOf_v (w : World) (e : Int) : ErrV w (errOf e) e (-1) := by
  unfold errOf
  split
  · rename_i h; subst h; exact .nil
  · exact .no e

/-- The variable status.after. -/
def TabA (w : World) : Prop := (∀ e s : Nat, e < 11 → s < 8 → w.cell? ⟨1, e * 8 + s, none⟩ = some (.int .i64 (afterT e s))) ∧ 1 < w.heap.size
/-- The variable stevedoreref.table. -/
def TabR (w : World) : Prop := (∀ e : Nat, e < 10 → w.cell? ⟨2, e, none⟩ = some (.string ⟨(refT e).toArray⟩)) ∧ 2 < w.heap.size

theorem TabA.below {w w' : World} (h : TabA w) (hb : Below w.heap.size w w') : TabA w' :=
  ⟨fun e s he hs => (hb.cell (p := ⟨_, e * 8 + s, none⟩) h.2).trans (h.1 e s he hs), Nat.lt_of_lt_of_le h.2 hb.size⟩
theorem TabR.below {w w' : World} (h : TabR w) (hb : Below w.heap.size w w') : TabR w' :=
  ⟨fun e he => (hb.cell (p := ⟨_, e, none⟩) h.2).trans (h.1 e he), Nat.lt_of_lt_of_le h.2 hb.size⟩

theorem next_bad (s e : Int) (h : s < 0 ∨ 7 < s ∨ e < 1 ∨ 10 < e) : nextN s e = 0 ∧ nextE s e = 1 := by
  unfold nextN nextE
  rw [if_pos h, if_pos h]
  exact ⟨rfl, rfl⟩
theorem next_good (s e : Nat) (hs : s < 8) (h1 : 1 ≤ e) (he : e < 11) (ha : 0 ≤ afterT e s) : nextN s e = afterT e s ∧ nextE s e = 0 := by
  unfold nextN nextE
  have hn : ¬ ((s : Int) < 0 ∨ 7 < (s : Int) ∨ (e : Int) < 1 ∨ 10 < (e : Int)) := by omega
  rw [if_neg hn, if_neg hn]
  simp [ha]
theorem next_not (s e : Nat) (hs : s < 8) (h1 : 1 ≤ e) (he : e < 11) (ha : ¬ 0 ≤ afterT e s) : nextN s e = 0 ∧ nextE s e = 6 := by
  unfold nextN nextE
  have hn : ¬ ((s : Int) < 0 ∨ 7 < (s : Int) ∨ (e : Int) < 1 ∨ 10 < (e : Int)) := by omega
  rw [if_neg hn, if_neg hn]
  simp [ha]

set_option maxHeartbeats 1000000 in
theorem next_calls (s e : Int) (w : World) (hT : TabA w) :
    Calls Tryz.prog 61 #[.int .i64 s, .int .i64 e] w fun ev w' => ev = .returned (.tuple #[.int .i64 (nextN s e), errOf (nextE s e)]) ∧ w = w' := by
  by_cases hbad : s < 0 ∨ 7 < s ∨ e < 1 ∨ 10 < e
  · obtain ⟨e1, e2⟩ := next_bad s e hbad
    rw [e1, e2]
    have e3 : errOf 1 = .iface 40 (.int .i64 1) := rfl
    rw [e3]
    clear e1 e2 e3 hT
    by_cases h1 : s < 0
    · go_enter Tryz.func61, Tryz.ntmps61
      go_wp2
      go_ret2
      exact ⟨rfl, rfl⟩
    · by_cases h2 : 7 < s
      · go_enter Tryz.func61, Tryz.ntmps61
        go_wp2
        go_ret2
        exact ⟨rfl, rfl⟩
      · by_cases h3 : e < 1
        · go_enter Tryz.func61, Tryz.ntmps61
          go_wp2
          go_ret2
          exact ⟨rfl, rfl⟩
        · have h4 : 10 < e := by omega
          go_enter Tryz.func61, Tryz.ntmps61
          go_wp2
          go_ret2
          exact ⟨rfl, rfl⟩
  · obtain ⟨s, rfl⟩ := Int.eq_ofNat_of_zero_le (show 0 ≤ s by omega)
    obtain ⟨e, rfl⟩ := Int.eq_ofNat_of_zero_le (show 0 ≤ e by omega)
    have hs : s < 8 := by omega
    have he : e < 11 := by omega
    have h1 : 1 ≤ e := by omega
    have hc := hT.1 e s he hs
    clear hT hbad
    by_cases ha : 0 ≤ afterT e s
    · obtain ⟨e1, e2⟩ := next_good s e hs h1 he ha
      rw [e1, e2]
      have e3 : errOf 0 = .nilIface := rfl
      rw [e3]
      clear e1 e2 e3
      generalize afterT e s = n at *
      go_enter Tryz.func61, Tryz.ntmps61
      go_wp2
      go_ret2
      exact ⟨rfl, rfl⟩
    · obtain ⟨e1, e2⟩ := next_not s e hs h1 he ha
      rw [e1, e2]
      have e3 : errOf 6 = .iface 40 (.int .i64 6) := rfl
      rw [e3]
      clear e1 e2 e3
      generalize afterT e s = n at *
      go_enter Tryz.func61, Tryz.ntmps61
      go_wp2
      go_ret2
      exact ⟨rfl, rfl⟩

theorem in_calls (n lo hi : Int) (w : World) :
    Calls Tryz.prog 37 #[.int .i64 n, .int .i64 lo, .int .i64 hi] w fun ev w' => ev = .returned (.bool (decide (lo ≤ n) && decide (n ≤ hi))) ∧ w = w' := by
  by_cases h : lo ≤ n
  · have e : decide (lo ≤ n) = true := decide_eq_true h
    rw [e]
    clear e
    go_enter Tryz.func37, Tryz.ntmps37
    go_wp2
    go_ret
    exact ⟨by simp, rfl⟩
  · have e : decide (lo ≤ n) = false := decide_eq_false h
    rw [e]
    clear e
    go_enter Tryz.func37, Tryz.ntmps37
    go_wp2
    go_ret
    exact ⟨by simp, rfl⟩

/-- A byte of the document's table, as the walk reads it. -/
theorem ref_byte (e s : Nat) (hs : s < 8) (he : e < 10) : (⟨(refT e).toArray⟩ : ByteArray).size = 8 ∧ (⟨(refT e).toArray⟩ : ByteArray).data.toList = refT e := by
  have := (tables e he s hs).1
  exact ⟨by simpa [ByteArray.size] using this, by simp⟩

set_option maxHeartbeats 1000000 in
theorem refNext_calls (s e : Int) (w : World) (hT : TabR w) :
    Calls Tryz.prog 62 #[.int .i64 s, .int .i64 e] w fun ev w' => ev = .returned (.tuple #[.int .i64 (nextN s e), .int .i64 (nextE s e)]) ∧ w = w' := by
  by_cases hbad : s < 0 ∨ 7 < s ∨ e < 1 ∨ 10 < e
  · obtain ⟨e1, e2⟩ := next_bad s e hbad
    rw [e1, e2]
    clear e1 e2 hT
    by_cases h1 : s < 0 ∨ 7 < s
    · have hi := in_calls s 0 7 w
      have hf : (decide (0 ≤ s) && decide (s ≤ 7)) = false := by simp; omega
      rw [hf] at hi
      clear hf
      go_enter Tryz.func62, Tryz.ntmps62
      go_wp2_with fail
      refine hi.mono ?_
      rintro ev w' ⟨rfl, rfl⟩
      go_wp2
      go_ret2
      exact ⟨rfl, rfl⟩
    · have hi := in_calls s 0 7 w
      have hf : (decide (0 ≤ s) && decide (s ≤ 7)) = true := by simp; omega
      rw [hf] at hi
      have hj := in_calls e 1 10 w
      have hf : (decide (1 ≤ e) && decide (e ≤ 10)) = false := by simp; omega
      rw [hf] at hj
      clear hf
      go_enter Tryz.func62, Tryz.ntmps62
      go_wp2_with fail
      refine hi.mono ?_
      rintro ev w' ⟨rfl, rfl⟩
      go_wp2_with fail
      refine hj.mono ?_
      rintro ev w' ⟨rfl, rfl⟩
      go_wp2
      go_ret2
      exact ⟨rfl, rfl⟩
  · obtain ⟨s, rfl⟩ := Int.eq_ofNat_of_zero_le (show 0 ≤ s by omega)
    obtain ⟨e, rfl⟩ : ∃ n : Nat, e = (n : Int) + 1 := ⟨(e - 1).toNat, by omega⟩
    have hs : s < 8 := by omega
    have he : e < 10 := by omega
    have hc := hT.1 e he
    have hi := in_calls s 0 7 w
    have hf : (decide (0 ≤ (s : Int)) && decide ((s : Int) ≤ 7)) = true := by simp; omega
    rw [hf] at hi
    have hj := in_calls ((e : Int) + 1) 1 10 w
    have hf : (decide (1 ≤ (e : Int) + 1) && decide ((e : Int) + 1 ≤ 10)) = true := by simp; omega
    rw [hf] at hj
    clear hT hbad hf
    obtain ⟨T, hTe⟩ : ∃ T : ByteArray, T = ⟨(refT e).toArray⟩ := ⟨_, rfl⟩
    have hsz : s < T.size := by rw [hTe, (ref_byte e s hs he).1]; exact hs
    have hb : T[s] = (refT e).getD s 0 := by
      subst hTe
      have h8 := (tables e he s hs).1
      simp [ByteArray.getElem_eq_getElem_data, List.getD, List.getElem?_eq_getElem (show s < (refT e).length by omega)]
    obtain ⟨_, ht⟩ := tables e he s hs
    rw [← hb] at ht
    rw [← hTe] at hc
    clear hTe hb
    have h256 : (T[s].toNat : Int) < 256 := by have := T[s].toNat_lt; omega
    rcases ht with ⟨h45, ha⟩ | ⟨h45, h48, ha⟩
    · obtain ⟨e1, e2⟩ := next_not s (e + 1) hs (by omega) (by omega) (by omega)
      have e1' : nextN (s : Int) ((e : Int) + 1) = 0 := e1
      have e2' : nextE (s : Int) ((e : Int) + 1) = 6 := e2
      rw [e1', e2']
      have hx : ((T[s].toNat : Int) == 45) = true := by rw [h45]; rfl
      clear e1 e2 e1' e2' ha h45 h256
      go_enter Tryz.func62, Tryz.ntmps62
      go_wp2_with fail
      refine hi.mono ?_
      rintro ev w' ⟨rfl, rfl⟩
      go_wp2_with fail
      refine hj.mono ?_
      rintro ev w' ⟨rfl, rfl⟩
      clear hi hj
      go_wp2
      go_ret2
      exact ⟨rfl, rfl⟩
    · obtain ⟨e1, e2⟩ := next_good s (e + 1) hs (by omega) (by omega) (by omega)
      have e1' : nextN (s : Int) ((e : Int) + 1) = (T[s].toNat : Int) - 48 := e1.trans ha
      have e2' : nextE (s : Int) ((e : Int) + 1) = 0 := e2
      rw [e1', e2']
      have hx : ((T[s].toNat : Int) == 45) = false := by
        have : (T[s].toNat : Int) ≠ 45 := by omega
        simpa using this
      have h48' : 48 ≤ (T[s].toNat : Int) := by omega
      clear e1 e2 e1' e2' ha h45 h48
      go_enter Tryz.func62, Tryz.ntmps62
      go_wp2_with fail
      refine hi.mono ?_
      rintro ev w' ⟨rfl, rfl⟩
      go_wp2_with fail
      refine hj.mono ?_
      rintro ev w' ⟨rfl, rfl⟩
      clear hi hj
      go_wp2
      go_ret2
      exact ⟨rfl, rfl⟩

theorem may_calls (s e : Int) (w : World) (hT : TabA w) :
    Calls Tryz.prog 36 #[.int .i64 s, .int .i64 e] w fun ev w' => ev = .returned (.bool (nextE s e == 0)) ∧ w = w' := by
  have hn := next_calls s e w hT
  clear hT
  unfold errOf at hn
  by_cases h : nextE s e = 0
  · have hb : (nextE s e == 0) = true := by simp [h]
    rw [hb]
    rw [if_pos h] at hn
    clear h hb
    go_enter Tryz.func36, Tryz.ntmps36
    go_wp2_with fail
    refine hn.mono ?_
    rintro ev w' ⟨rfl, rfl⟩
    go_wp2
    go_ret
    exact ⟨rfl, rfl⟩
  · have hb : (nextE s e == 0) = false := by simp [h]
    rw [hb]
    rw [if_neg h] at hn
    clear h hb
    go_enter Tryz.func36, Tryz.ntmps36
    go_wp2_with fail
    refine hn.mono ?_
    rintro ev w' ⟨rfl, rfl⟩
    go_wp2
    go_ret
    exact ⟨rfl, rfl⟩

end Go.Proofs.YtnfnebfioibndaaGreatDoor
