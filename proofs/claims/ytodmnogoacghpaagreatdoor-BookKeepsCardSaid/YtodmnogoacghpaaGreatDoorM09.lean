/- The program's disk in memory. -/
import Derived.Test.YtodmnogoacghpaaGreatDoorM06
import Derived.Test.YtodmnogoacghpaaGreatDoorM08
import Derived.Deep.RegionHeld3
import Derived.Deep.QuietTactic
import Derived.BigQuiet
import Derived.LoopTactic
import Derived.Deep.LoopGhost
import Derived.Deep.CutBlock
import Derived.Deep.DeepCutAuto
import Derived.BigRegion
import Derived.Handy
import Derived.Outline
namespace Go.Proofs.YtodmnogoacghpaaGreatDoor
open Go.RowKit
set_option maxRecDepth 100000
set_option maxHeartbeats 2000000

/-- Whatever stood in other blocks stands. -/
structure Turn (F : List Nat) (w w' : World) : Prop where
  os : w'.os = w.os
  tape : w'.tape = w.tape
  output : w'.output = w.output
  size : w.heap.size ≤ w'.heap.size
  block : ∀ k, k < w.heap.size → k ∉ F → w'.heap[k]? = w.heap[k]?
theorem Turn.refl (F : List Nat) (w : World) : Turn F w w := ⟨rfl, rfl, rfl, Nat.le_refl _, fun _ _ _ => rfl⟩
theorem Turn.trans {F G : List Nat} {a b c : World} (h : Turn F a b) (k : Turn G b c) (hG : ∀ x ∈ G, x ∈ F ∨ a.heap.size ≤ x) : Turn F a c :=
  ⟨k.os.trans h.os, k.tape.trans h.tape, k.output.trans h.output, Nat.le_trans h.size k.size, fun x hx hF => (k.block x (Nat.lt_of_lt_of_le hx h.size) (fun hm => by
    rcases hG x hm with h' | h'
    · exact hF h'
    · omega)).trans (h.block x hx hF)⟩
theorem Turn.of_below {F : List Nat} {w w' : World} (h : Below w.heap.size w w') : Turn F w w' := ⟨h.os, h.tape, h.output, h.size, fun k hk _ => h.block k hk⟩
theorem Turn.andBelow {F : List Nat} {a b c : World} (h : Turn F a b) (k : Below b.heap.size b c) : Turn F a c := h.trans (Turn.of_below (F := []) k) (fun _ hx => by cases hx)
theorem Turn.setCell {F : List Nat} {a w : World} (h : Turn F a w) {p : Addr} (hp : p.block ∈ F ∨ a.heap.size ≤ p.block) (v : Value) : Turn F a (w.setCell p v) :=
  ⟨h.os, h.tape, h.output, by simpa [World.setCell] using h.size, fun k hk hF => (Below.heap_setCell w p v k (by
    rintro rfl
    rcases hp with hp | hp
    · exact hF hp
    · omega)).trans (h.block k hk hF)⟩
theorem Turn.alloc {F : List Nat} {a w : World} (h : Turn F a w) (o : Obj) : Turn F a (w.alloc o) := h.andBelow ((Below.refl _ _).alloc (Nat.le_refl _) o)
theorem Turn.drew {F : List Nat} {a w : World} (h : Turn F a w) : Turn F a w.drew := h.andBelow (Below.refl _ _).drew
theorem Turn.drewN {F : List Nat} {a w : World} (h : Turn F a w) (n : Nat) : Turn F a (w.drewN n) := ⟨h.os, h.tape, h.output, h.size, h.block⟩
theorem Turn.grown {F : List Nat} {a w w' : World} (h : Turn F a w) {row : Option Nat} (hg : w.grownBy w' row) (hr : ∀ k, row = some k → k ∈ F ∨ a.heap.size ≤ k) : Turn F a w' :=
  ⟨hg.os.trans h.os, hg.tape.trans h.tape, hg.output.trans h.output, Nat.le_trans h.size hg.size, fun k hk hF => (hg.block k (Nat.lt_of_lt_of_le hk h.size) (fun e => by
    rcases hr k e.symm with h' | h'
    · exact hF h'
    · omega)).trans (h.block k hk hF)⟩
theorem Turn.below {F : List Nat} {w w' : World} (h : Turn F w w') {B : Nat} (hF : ∀ k ∈ F, B ≤ k) (hB : B ≤ w.heap.size) : Below B w w' :=
  ⟨h.os, h.tape, h.output, h.size, fun k hk => h.block k (Nat.lt_of_lt_of_le hk hB) (fun hm => by have := hF k hm; omega)⟩

/-- The cells of a disk. -/
structure PC (w : World) (a : Nat) (nv sv : Value) (l m : Int) (d : DiskD) : Prop where
  blk : w.heap[a]? = some (.cells #[nv, sv, .int .i64 l, .bool (decide (0 ≤ d.left)), .int .i64 m, .bool (decide (0 ≤ d.bytes))] 26)
  left : 0 ≤ d.left → l = d.left
  bytes : 0 ≤ d.bytes → m = d.bytes
/-- Its two maps. -/
structure PMs (w : World) (a bn bs : Nat) (fs : FS) : Prop where
  ne : bn ≠ bs ∧ bn ≠ a ∧ bs ≠ a
  now : MapV Tryz.prog 9 w bn fs.length (nowM fs)
  safe : MapV Tryz.prog 9 w bs fs.length (safeM fs)
def PM (w : World) (a : Nat) (nv sv : Value) (F : List Nat) (fs : FS) : Prop :=
  (nv = .map none ∧ sv = .map none ∧ fs = [] ∧ F = [a]) ∨ ∃ bn bs, nv = .map (some bn) ∧ sv = .map (some bs) ∧ F = [a, bn, bs] ∧ PMs w a bn bs fs
def PDisk (w : World) (a : Nat) (F : List Nat) (d : DiskD) : Prop := ∃ nv sv l m, PC w a nv sv l m d ∧ PM w a nv sv F d.fs

section
variable {w : World} {a : Nat} {nv sv : Value} {l m : Int} {d : DiskD} {F : List Nat}
theorem PC.lt (h : PC w a nv sv l m d) : a < w.heap.size := by
  rcases Nat.lt_or_ge a w.heap.size with h' | h'
  · exact h'
  · have := h.blk
    rw [Array.getElem?_eq_none h'] at this; cases this
theorem PC.cell (h : PC w a nv sv l m d) : w.cell? ⟨a, 0, none⟩ = some nv ∧ w.cell? ⟨a, 1, none⟩ = some sv ∧ w.cell? ⟨a, 2, none⟩ = some (.int .i64 l) ∧ w.cell? ⟨a, 3, none⟩ = some (.bool (decide (0 ≤ d.left))) ∧ w.cell? ⟨a, 4, none⟩ = some (.int .i64 m) ∧ w.cell? ⟨a, 5, none⟩ = some (.bool (decide (0 ≤ d.bytes))) := by
  refine ⟨?_, ?_, ?_, ?_, ?_, ?_⟩ <;> simp [World.cell?, h.blk]
theorem PC.free (h : PC w a nv sv l m d) (i : Nat) : w.frozen? ⟨a, i, none⟩ = false := by simp [World.frozen?, h.blk]
theorem PC.keep {w' : World} (h : PC w a nv sv l m d) (hk : w'.heap[a]? = w.heap[a]?) : PC w' a nv sv l m d := ⟨hk.trans h.blk, h.left, h.bytes⟩
theorem PMs.keep {bn bs : Nat} {fs : FS} {w' : World} (h : PMs w a bn bs fs) (h1 : w'.heap[bn]? = w.heap[bn]?) (h2 : w'.heap[bs]? = w.heap[bs]?) : PMs w' a bn bs fs := ⟨h.ne, h.now.keep h1, h.safe.keep h2⟩
theorem PDisk.lt (h : PDisk w a F d) : ∀ k ∈ F, k < w.heap.size := by
  obtain ⟨nv, sv, l, m, hc, hm⟩ := h
  intro k hk
  rcases hm with ⟨_, _, _, rfl⟩ | ⟨bn, bs, _, _, rfl, hM⟩
  · rw [List.mem_singleton.1 hk]; exact hc.lt
  · simp only [List.mem_cons, List.not_mem_nil, or_false] at hk
    rcases hk with rfl | rfl | rfl
    · exact hc.lt
    · exact hM.now.lt
    · exact hM.safe.lt
theorem PDisk.mem (h : PDisk w a F d) : a ∈ F := by
  obtain ⟨nv, sv, l, m, hc, hm⟩ := h
  rcases hm with ⟨_, _, _, rfl⟩ | ⟨bn, bs, _, _, rfl, hM⟩ <;> simp
theorem PDisk.keep {w' : World} (h : PDisk w a F d) (hk : ∀ k ∈ F, w'.heap[k]? = w.heap[k]?) : PDisk w' a F d := by
  obtain ⟨nv, sv, l, m, hc, hm⟩ := h
  rcases hm with ⟨e1, e2, e3, rfl⟩ | ⟨bn, bs, e1, e2, rfl, hM⟩
  · exact ⟨nv, sv, l, m, hc.keep (hk a (by simp)), Or.inl ⟨e1, e2, e3, rfl⟩⟩
  · exact ⟨nv, sv, l, m, hc.keep (hk a (by simp)), Or.inr ⟨bn, bs, e1, e2, rfl, hM.keep (hk bn (by simp)) (hk bs (by simp))⟩⟩
/-- What others do leaves it as it is. -/
theorem PDisk.other {w' : World} {G : List Nat} (h : PDisk w a F d) (ht : Turn G w w') (hd : ∀ k ∈ F, k ∉ G) : PDisk w' a F d := h.keep fun k hk => ht.block k (h.lt k hk) (hd k hk)
end
/-- A disk behind a step that wrote its own blocks alone. -/
def DStep (w : World) (a : Nat) (F : List Nat) (d' : DiskD) (w' : World) : Prop := ∃ F', PDisk w' a F' d' ∧ (∀ k ∈ F', k ∈ F ∨ w.heap.size ≤ k) ∧ Turn F w w'

/-! ### the document's disk -/
def stateV (x : FileD) (pv : Value) : Value := .agg #[.string x.now, pv]
/-- What a pointer to a safe text says; G: the blocks of such texts. -/
def SafeP (w : World) (G : List Nat) : Option ByteArray → Value → Prop
  | none, pv => pv = .pointer none
  | some s, pv => ∃ b, pv = .pointer (some ⟨b, 0, none⟩) ∧ b ∈ G ∧ w.cell? ⟨b, 0, none⟩ = some (.string s)
def RMap (w : World) (G : List Nat) (m : MapF) (fs : FS) : Prop :=
  ∀ f, (fget fs f = none → m f = none) ∧ ∀ x, fget fs f = some x → ∃ pv, m f = some (stateV x pv) ∧ SafeP w G x.safe pv
structure RDisk (w : World) (a bf : Nat) (G : List Nat) (d : DiskD) : Prop where
  blk : w.heap[a]? = some (.cells #[.map (some bf), .int .i64 d.left, .int .i64 d.bytes] 50)
  ne : bf ≠ a
  lt : ∀ k ∈ G, k < w.heap.size ∧ k ≠ a ∧ k ≠ bf
  map : ∃ m, MapV Tryz.prog 9 w bf d.fs.length m ∧ RMap w G m d.fs
section
variable {w : World} {a bf : Nat} {G : List Nat} {d : DiskD}
theorem SafeP.keep {w' : World} {s : Option ByteArray} {pv : Value} (h : SafeP w G s pv) (hk : ∀ k ∈ G, w'.heap[k]? = w.heap[k]?) : SafeP w' G s pv := by
  cases s with
  | none => exact h
  | some s =>
    obtain ⟨b, e, hb, hc⟩ := h
    exact ⟨b, e, hb, (World.cell?_of_block (a := ⟨b, 0, none⟩) (hk b hb)).trans hc⟩
theorem SafeP.more {s : Option ByteArray} {pv : Value} (h : SafeP w G s pv) {G' : List Nat} (hG : ∀ k ∈ G, k ∈ G') : SafeP w G' s pv := by
  cases s with
  | none => exact h
  | some s =>
    obtain ⟨b, e, hb, hc⟩ := h
    exact ⟨b, e, hG b hb, hc⟩
theorem RMap.keep {w' : World} {m : MapF} {fs : FS} (h : RMap w G m fs) (hk : ∀ k ∈ G, w'.heap[k]? = w.heap[k]?) : RMap w' G m fs := fun f =>
  ⟨(h f).1, fun x hx => by obtain ⟨pv, h1, h2⟩ := (h f).2 x hx; exact ⟨pv, h1, h2.keep hk⟩⟩
theorem RMap.some {m : MapF} {fs : FS} (h : RMap w G m fs) (f : ByteArray) : (m f).isSome = (fget fs f).isSome := by
  cases e : fget fs f with
  | none => rw [(h f).1 e]; rfl
  | some x =>
    obtain ⟨pv, h1, _⟩ := (h f).2 x e
    rw [h1]; rfl
theorem RMap.keys {m : MapF} {fs : FS} (h : RMap w G m fs) (hn : NodupK fs) : KeysM m (fs.map (·.1)) := by
  refine ⟨hn, fun s => ?_⟩
  rw [h.some s]
  cases e : fget fs s with
  | none => simp [fget_none.1 e]
  | some x =>
    have := List.mem_map_of_mem (f := (·.1)) (fget_mem e)
    simpa using this
theorem RDisk.alt (h : RDisk w a bf G d) : a < w.heap.size := by
  rcases Nat.lt_or_ge a w.heap.size with h' | h'
  · exact h'
  · have := h.blk
    rw [Array.getElem?_eq_none h'] at this; cases this
theorem RDisk.blt (h : RDisk w a bf G d) : bf < w.heap.size := by
  obtain ⟨m, hm, _⟩ := h.map
  exact hm.lt
theorem RDisk.keep {w' : World} (h : RDisk w a bf G d) (hs : w.heap.size ≤ w'.heap.size) (h1 : w'.heap[a]? = w.heap[a]?) (h2 : w'.heap[bf]? = w.heap[bf]?) (h3 : ∀ k ∈ G, w'.heap[k]? = w.heap[k]?) : RDisk w' a bf G d := by
  obtain ⟨m, hm, hR⟩ := h.map
  exact ⟨h1.trans h.blk, h.ne, fun k hk => ⟨Nat.lt_of_lt_of_le (h.lt k hk).1 hs, (h.lt k hk).2⟩, m, hm.keep h2, hR.keep h3⟩
/-- What others do leaves it as it is. -/
theorem RDisk.other {w' : World} {F : List Nat} (h : RDisk w a bf G d) (ht : Turn F w w') (h1 : a ∉ F) (h2 : bf ∉ F) (h3 : ∀ k ∈ G, k ∉ F) : RDisk w' a bf G d :=
  h.keep ht.size (ht.block a h.alt h1) (ht.block bf h.blt h2) (fun k hk => ht.block k (h.lt k hk).1 (h3 k hk))
theorem RDisk.cells (h : RDisk w a bf G d) : w.cell? ⟨a, 0, none⟩ = some (.map (some bf)) ∧ w.cell? ⟨a, 1, none⟩ = some (.int .i64 d.left) ∧ w.cell? ⟨a, 2, none⟩ = some (.int .i64 d.bytes) := by
  refine ⟨?_, ?_, ?_⟩ <;> simp [World.cell?, h.blk]
theorem RDisk.free (h : RDisk w a bf G d) (i : Nat) : w.frozen? ⟨a, i, none⟩ = false := by simp [World.frozen?, h.blk]
end
/-- The document's disk behind a step that wrote its own blocks alone. -/
def RStep (w : World) (a bf : Nat) (G : List Nat) (d' : DiskD) (w' : World) : Prop := ∃ bf' G', RDisk w' a bf' G' d' ∧ (bf' = bf ∨ w.heap.size ≤ bf') ∧ (∀ k ∈ G', k ∈ G ∨ w.heap.size ≤ k) ∧ Turn [a, bf] w w'
end Go.Proofs.YtodmnogoacghpaaGreatDoor
