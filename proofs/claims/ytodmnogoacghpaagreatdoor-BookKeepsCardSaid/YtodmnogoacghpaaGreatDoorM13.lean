/- The disk's reads: Read, List, size; Sync, Remove. -/
import Derived.Test.YtodmnogoacghpaaGreatDoorM12
import Derived.Maps.RangeWalk
namespace Go.Proofs.YtodmnogoacghpaaGreatDoor
open Go.RowKit Go.Maps
set_option maxRecDepth 100000
set_option maxHeartbeats 4000000

def errV (k : Int) : Value := if k = 0 then .nilIface else .iface 33 (.int .i64 k)
theorem errV_zero : errV 0 = .nilIface := rfl
theorem errV_some {k : Int} (h : k ≠ 0) : errV k = .iface 33 (.int .i64 k) := if_neg h
def OpR (w : World) (a : Nat) (F : List Nat) (r : Int × DiskD) (e : Ending) (w' : World) : Prop := e = .returned (errV r.1) ∧ DStep w a F r.2 w'
theorem DStep.refl {w : World} {a : Nat} {F : List Nat} {d : DiskD} (h : PDisk w a F d) : DStep w a F d w := ⟨F, h, fun _ hk => Or.inl hk, Turn.refl F w⟩
theorem PMs.make {w : World} {a bn bs n1 n2 : Nat} {f1 f2 : MapF} {fs : FS} (hne : bn ≠ bs ∧ bn ≠ a ∧ bs ≠ a) (hn : NodupK fs) (h1 : MapV Tryz.prog 9 w bn n1 f1) (e1 : ∀ s, f1 s = nowM fs s) (h2 : MapV Tryz.prog 9 w bs n2 f2) (e2 : ∀ s, f2 s = safeM fs s) : PMs w a bn bs fs :=
  ⟨hne, (h1.congr e1).fit Tryz.underlying9 (nowM_keys hn) (by rw [List.length_map]; exact Nat.le_refl _), (h2.congr e2).fit Tryz.underlying9 (safeM_keys hn) (safeM_few fs)⟩
/-- Another map or both were written, behind 'does'. -/
theorem DX.next {w w1 w2 : World} {a : Nat} {F : List Nat} {d : DiskD} {bn bs : Nat} {l m : Int} (hP : PC w1 a (.map (some bn)) (.map (some bs)) l m d) (hF : ∀ k ∈ [a, bn, bs], k ∈ F ∨ w.heap.size ≤ k) (hT : Turn F w w1) {fs : FS} {row : Option Nat} (hg : w1.grownBy w2 row) (hr : row = some bn ∨ row = some bs) (hM : PMs w2 a bn bs fs) : DX w a F { d with fs := fs } w2 := by
  have hk : w2.heap[a]? = w1.heap[a]? := hg.block a hP.lt (fun e => by
    rcases hr with h | h
    · rw [h] at e; injection e with e; exact hM.ne.2.1 e.symm
    · rw [h] at e; injection e with e; exact hM.ne.2.2 e.symm)
  exact ⟨bn, bs, l, m, ⟨hk.trans hP.blk, hP.left, hP.bytes⟩, hM, hF, hT.grown hg (fun k e => by
    rcases hr with h | h
    · rw [h] at e; injection e with e; rw [← e]; exact hF bn (by simp)
    · rw [h] at e; injection e with e; rw [← e]; exact hF bs (by simp))⟩

theorem wpList_lookNil {P : Program} (w : World) {ops : Array Oper} {rest : List Oper} {o : Oper} {ac : Act} {Q : Exit → Act → World → Prop} (hg : o.guard = none) (m x : Operand) (t : TypeId) (hop : o.op = Op.lookup t m x true) (k e : TypeId) (hk : P.underlying k = some .string) (ht : P.underlying t = some (.map k e)) (z : Value) (hz : (zeroValue e).run P w = .ok z w)
    (hm : ac.eval m = .map none) (s : ByteArray) (hx : ac.eval x = .string s) (hs : s.size ≤ maxLen)
    (hK : wpList P ops Q rest (ac.put o.dst (.tuple #[z, .bool false])) w) : wpList P ops Q (o :: rest) ac w := by
  refine wpList_plain hg fun K' hK' => ?_
  unfold Oper.wp
  have hrun := Maps.look_nil (w := w) true (string_keyed hk) ht hz (keyOf_s hk hs)
  simp only [if_true] at hrun
  simp [execOp, hop, hm, hx, hrun, Result.andThen]
  exact hK' _ _ hK

theorem read_calls (w : World) (a : Nat) (F : List Nat) (d : DiskD) (f : ByteArray) (h : PDisk w a F d) (hf : f.size ≤ maxLen) :
    Calls Tryz.prog 24 #[.pointer (some ⟨a, 0, none⟩), .string f] w fun e w' => e = .returned (match fget d.fs f with | none => .tuple #[.string ⟨#[]⟩, errV 7] | some x => .tuple #[.string x.now, errV 0]) ∧ w = w' := by
  obtain ⟨nv, sv, l, m, hc, hm⟩ := h
  obtain ⟨c0, c1, c2, c3, c4, c5⟩ := hc.cell
  have hlt := hc.lt
  clear hc c1 c2 c3 c4 c5
  rcases hm with ⟨rfl, rfl, hfs, -⟩ | ⟨bn, bs, rfl, rfl, -, hM⟩
  · rw [hfs]
    have Hf0 := Lib.hid hf
    clear hfs hf
    go_enter Tryz.func24, Tryz.ntmps24
    go_wp2_with (at_lookup; refine wpList_lookNil _ rfl _ _ 24 rfl 9 9 Tryz.underlying9 Tryz.underlying24 (.string ⟨#[]⟩) (Tryz.zeroValue9 _) rfl f rfl Hf0.out ?_)
    go_ret2
    exact ⟨rfl, rfl⟩
  · have HM := Lib.hid hM.now
    have Hf := Lib.hid hf
    clear hM hf
    cases hx : fget d.fs f with
    | none =>
      have hg : gotV (nowM d.fs) (.string ⟨#[]⟩) f = .string ⟨#[]⟩ := by unfold gotV nowM; rw [hx]; rfl
      have hs : (nowM d.fs f).isSome = false := by unfold nowM; rw [hx]; rfl
      have HG := Lib.hid (And.intro hg hs)
      clear hx hg hs
      go_enter Tryz.func24, Tryz.ntmps24
      go_wp2_with (at_lookup; refine wpList_lookV_ok _ rfl _ _ 24 rfl 9 9 Tryz.underlying9 Tryz.underlying24 (.string ⟨#[]⟩) (Tryz.zeroValue9 _) bn d.fs.length _ rfl HM.out f rfl Hf.out (.string ⟨#[]⟩) false HG.out.1 HG.out.2 ?_)
      go_ret2
      exact ⟨rfl, rfl⟩
    | some x =>
      have hg : gotV (nowM d.fs) (.string ⟨#[]⟩) f = .string x.now := by unfold gotV nowM; rw [hx]; rfl
      have hs : (nowM d.fs f).isSome = true := by unfold nowM; rw [hx]; rfl
      have HG := Lib.hid (And.intro hg hs)
      clear hx hg hs
      go_enter Tryz.func24, Tryz.ntmps24
      go_wp2_with (at_lookup; refine wpList_lookV_ok _ rfl _ _ 24 rfl 9 9 Tryz.underlying9 Tryz.underlying24 (.string ⟨#[]⟩) (Tryz.zeroValue9 _) bn d.fs.length _ rfl HM.out f rfl Hf.out (.string x.now) true HG.out.1 HG.out.2 ?_)
      go_ret2
      exact ⟨rfl, rfl⟩

theorem size_calls (w : World) (a bn bs : Nat) (l m : Int) (d : DiskD) (hc : PC w a (.map (some bn)) (.map (some bs)) l m d) (hM : PMs w a bn bs d.fs) (hn : NodupK d.fs) (htot : ftot d.fs ≤ 1000000000) :
    Calls Tryz.prog 61 #[.pointer (some ⟨a, 0, none⟩)] w fun e w' => e = .returned (.int .i64 ((ftot d.fs : Nat) : Int)) ∧ Below w.heap.size w w' := by
  obtain ⟨c0, c1, c2, c3, c4, c5⟩ := hc.cell
  have hlt := hc.lt
  have HM := Lib.hid hM.now
  have hbl := hM.now.lt
  have Hn := Lib.hid hn
  obtain ⟨T, hT⟩ : ∃ T, ftot d.fs = T := ⟨_, rfl⟩
  have HT : Hid ((d.fs.map fun p : ByteArray × FileD => p.2.now.size).sum = T) := hT
  rw [hT] at htot ⊢
  have HMK : Hid (∀ s v, nowM d.fs s = some v → ∃ c : ByteArray, v = Value.string c) := by
    intro s v hv
    unfold nowM at hv
    cases hx : fget d.fs s with
    | none => rw [hx] at hv; cases hv
    | some x => rw [hx] at hv; injection hv with hv; exact ⟨_, hv.symm⟩
  clear hc hM hn hT c1 c2 c3 c4 c5
  go_enter Tryz.func61, Tryz.ntmps61
  go_wp2_with (at_range; refine wpList_rangeV _ rfl _ 24 rfl 9 9 Tryz.underlying9 Tryz.underlying24 bn d.fs.length _ rfl HM.out ?_; intro w0 cnt0 hrg0 hg0 hs0)
  have Hrg0 := Lib.hid hrg0
  have Hg0 := Lib.hid hg0
  clear hrg0 hg0
  go_frame
  go_loopg [3] cnt0 (fun k v3 wr => ∃ (left : ByteArray → Bool) (n : Nat), v3 = .int .i64 ((n : Nat) : Int) ∧ RangeV Tryz.prog 9 wr bn w.heap.size d.fs.length (nowM d.fs) left k ∧ n + sumT (fun p => p.2.now.size) d.fs left = T ∧ Below w.heap.size w wr)
  case atStart => exact ⟨_, 0, rfl, Hrg0.out, by rw [sumT_all (fun p hp => by show (nowM d.fs p.1).isSome = true; unfold nowM; rw [Option.isSome_map]; exact fget_isSome hp), Nat.zero_add]; exact HT.out, ((Below.refl w.heap.size w).grown Hg0.out (Nat.le_refl _) (fun k e => by cases e))⟩
  case round =>
    obtain ⟨left, n, rfl, hrg, hsum, hB⟩ := hrel
    have Hrg := Lib.hid hrg
    have Hsum := Lib.hid hsum
    have hnT : n ≤ T := by omega
    clear hrg hsum
    go_wp2_with (at_next; refine wpList_nextV _ Value.string rfl _ rfl 9 Tryz.underlying9 bn w.heap.size d.fs.length (nowM d.fs) HMK.out left gk rfl Hrg.out ?_ ?_)
    · intro hl0
      have HE : Hid (n = T) := by show n = T; have := Hsum.out; rw [sumT_none hl0] at this; omega
      go_wp2_with fail
      go_ret
      exact ⟨by rw [HE.out]; rfl, hB⟩
    · intro s c w1 cnt1 hs hls hfs hrg1 hlt1 hg1 hz1 hen
      obtain ⟨x, hx, hxc⟩ : ∃ x, fget d.fs s = some x ∧ x.now = c := by
        unfold nowM at hfs
        cases hx : fget d.fs s with
        | none => rw [hx] at hfs; cases hfs
        | some x => rw [hx] at hfs; injection hfs with hfs; injection hfs with hfs; exact ⟨x, rfl, hfs⟩
      have hst := sumT_step (g := fun p : ByteArray × FileD => p.2.now.size) Hn.out hx hls
      dsimp only at hst
      rw [hxc] at hst
      have hsm := Hsum.out
      rw [hst] at hsm
      have hnc : n + c.size ≤ T := by omega
      have HS1 : Hid (n + c.size + sumT (fun p => p.2.now.size) d.fs (tookL left s) = T) := by show _ = _; omega
      have Hrg1 := Lib.hid hrg1
      have HB1 := Lib.hid (hB.grown hg1 hB.size (fun k e => by injection e with e; omega))
      clear hx hxc hst hsm hfs hrg1 hg1 hB hls hs
      go_wp2_with fail
      go_roundg cnt1
      case rel => exact ⟨tookL left s, n + c.size, by go_num, Hrg1.out, HS1.out, HB1.out⟩
      case measure => exact hlt1
end Go.Proofs.YtodmnogoacghpaaGreatDoor
