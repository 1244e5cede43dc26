/- The program's disk alone in a world. -/
import Derived.Test.YtodmnogoacghpaaGreatDoorM22
namespace Go.Proofs.YtodmnogoacghpaaGreatDoor
open Go.RowKit
set_option maxRecDepth 100000
set_option maxHeartbeats 4000000

/-- The program's disk; B: a bound below all of its blocks; X: blocks of others. -/
def One (w : World) (B : Nat) (X : List Nat) (a : Nat) (d : DiskD) : Prop :=
  ∃ F, PDisk w a F d ∧ (∀ k ∈ F, B ≤ k) ∧ ∀ k ∈ X, k < w.heap.size ∧ k ∉ F
section
variable {w w' : World} {B : Nat} {X : List Nat} {a : Nat} {d d' : DiskD}
theorem One.step {F : List Nat} (hB : B ≤ w.heap.size) (h2 : ∀ k ∈ F, B ≤ k) (h4 : ∀ k ∈ X, k < w.heap.size ∧ k ∉ F) (hs : DStep w a F d' w') : One w' B X a d' ∧ KeptX B X w w' := by
  obtain ⟨F', hP', hF', hT⟩ := hs
  refine ⟨⟨F', hP', fun k hk => ?_, fun k hk => ⟨Nat.lt_of_lt_of_le (h4 k hk).1 hT.size, fun hk' => ?_⟩⟩, hT.below h2 hB, fun k hk => hT.block k (h4 k hk).1 (h4 k hk).2⟩
  · rcases hF' k hk with h | h
    · exact h2 k h
    · omega
  · rcases hF' k hk' with h | h
    · exact (h4 k hk).2 h
    · have := (h4 k hk).1; omega
theorem One.other (h : One w B X a d) (hb : Below w.heap.size w w') : One w' B X a d := by
  obtain ⟨F, hP, h2, h4⟩ := h
  exact ⟨F, hP.keep (fun k hk => hb.block k (hP.lt k hk)), h2, fun k hk => ⟨Nat.lt_of_lt_of_le (h4 k hk).1 hb.size, (h4 k hk).2⟩⟩
theorem One.xlt (h : One w B X a d) : ∀ k ∈ X, k < w.heap.size := by
  obtain ⟨F, hP, h2, h4⟩ := h
  exact fun k hk => (h4 k hk).1
theorem One.push (h : One w B X a d) (o : Obj) : One (w.alloc o) B (w.heap.size :: X) a d := by
  obtain ⟨F, hP, h2, h4⟩ := h
  have hb : Below w.heap.size w (w.alloc o) := (Below.refl _ _).alloc (Nat.le_refl _) _
  refine ⟨F, hP.keep (fun k hk => hb.block k (hP.lt k hk)), h2, fun k hk => ?_⟩
  rcases List.mem_cons.1 hk with rfl | hk
  · exact ⟨by simp, fun hk' => absurd (hP.lt _ hk') (Nat.lt_irrefl _)⟩
  · exact ⟨Nat.lt_of_lt_of_le (h4 k hk).1 hb.size, (h4 k hk).2⟩
theorem One.less {Y : List Nat} (h : One w B X a d) (hY : ∀ k ∈ Y, k ∈ X) : One w B Y a d := by
  obtain ⟨F, hP, h2, h4⟩ := h
  exact ⟨F, hP, h2, fun k hk => h4 k (hY k hk)⟩
/-- A write into one of X's blocks. -/
theorem One.wrote (h : One w B X a d) {k : Nat} (hk : k ∈ X) (hs : w.heap.size ≤ w'.heap.size) (hb : ∀ j, j < w.heap.size → j ≠ k → w'.heap[j]? = w.heap[j]?) : One w' B X a d := by
  obtain ⟨F, hP, h2, h4⟩ := h
  exact ⟨F, hP.keep (fun j hj => hb j (hP.lt j hj) (fun e => (h4 k hk).2 (by rw [← e]; exact hj))), h2, fun j hj => ⟨Nat.lt_of_lt_of_le (h4 j hj).1 hs, (h4 j hj).2⟩⟩
theorem One.grown (h : One w B X a d) {k : Nat} (hk : k ∈ X) {row : Option Nat} (hg : w.grownBy w' row) (hr : ∀ j, row = some j → j = k) : One w' B X a d :=
  h.wrote hk hg.size fun j hj hne => hg.block j hj (fun e => hne (hr j e.symm))
theorem One.start {w : World} {a : Nat} (h : w.heap[a]? = some (.cells #[.map none, .map none, .int .i64 0, .bool false, .int .i64 0, .bool false] 26)) (hB : B ≤ a) : One w B [] a zeroD :=
  ⟨[a], ⟨_, _, 0, 0, ⟨h, (fun h => absurd h (by decide)), (fun h => absurd h (by decide))⟩, Or.inl ⟨rfl, rfl, rfl, rfl⟩⟩, fun k hk => by rw [List.mem_singleton.1 hk]; exact hB, fun k hk => by cases hk⟩
theorem KeptX.less {Y : List Nat} (h : KeptX B X w w') (hY : ∀ k ∈ Y, k ∈ X) : KeptX B Y w w' := ⟨h.1, fun k hk => h.2 k (hY k hk)⟩
end

theorem one_write (w : World) (B : Nat) (X : List Nat) (a : Nat) (d : DiskD) (f s : ByteArray) (hB : B ≤ w.heap.size) (h : One w B X a d) (hg : GoodD 1000 30000 d) (hf : f.size ≤ 200) (hs : s.size ≤ 30000) :
    Calls Tryz.prog 45 #[.pointer (some ⟨a, 0, none⟩), .string f, .string s] w fun e w' => e = .returned (errV ((writeD d f s).1)) ∧ One w' B X a ((writeD d f s).2) ∧ KeptX B X w w' := by
  obtain ⟨F, hP, h2, h4⟩ := h
  have hl : d.fs.length < 1000000 := by have := hg.len; omega
  have htot : ftot d.fs ≤ 1000000000 := by have := hg.tot; omega
  refine (write_calls w a F d f s hP hg.nodup hl htot hg.left.2 hg.bytes.2 (by omega) (by omega)).mono ?_
  rintro e w' ⟨rfl, hs⟩
  exact ⟨rfl, One.step hB h2 h4 hs⟩

theorem one_sync (w : World) (B : Nat) (X : List Nat) (a : Nat) (d : DiskD) (f : ByteArray) (hB : B ≤ w.heap.size) (h : One w B X a d) (hg : GoodD 1000 30000 d) (hf : f.size ≤ 200) :
    Calls Tryz.prog 46 #[.pointer (some ⟨a, 0, none⟩), .string f] w fun e w' => e = .returned (errV ((syncD d f).1)) ∧ One w' B X a ((syncD d f).2) ∧ KeptX B X w w' := by
  obtain ⟨F, hP, h2, h4⟩ := h
  have hl : d.fs.length < 1000000 := by have := hg.len; omega
  have htot : ftot d.fs ≤ 1000000000 := by have := hg.tot; omega
  refine (sync_calls w a F d f hP hg.nodup hl hg.left.2 (by unfold maxLen; omega)).mono ?_
  rintro e w' ⟨rfl, hs⟩
  exact ⟨rfl, One.step hB h2 h4 hs⟩

theorem one_move (w : World) (B : Nat) (X : List Nat) (a : Nat) (d : DiskD) (f t : ByteArray) (hB : B ≤ w.heap.size) (h : One w B X a d) (hg : GoodD 1000 30000 d) (hf : f.size ≤ 200) (ht : t.size ≤ 200) :
    Calls Tryz.prog 35 #[.pointer (some ⟨a, 0, none⟩), .string f, .string t] w fun e w' => e = .returned (errV ((moveD d f t).1)) ∧ One w' B X a ((moveD d f t).2) ∧ KeptX B X w w' := by
  obtain ⟨F, hP, h2, h4⟩ := h
  have hl : d.fs.length < 1000000 := by have := hg.len; omega
  have htot : ftot d.fs ≤ 1000000000 := by have := hg.tot; omega
  refine (move_calls w a F d f t hP hg.nodup hl hg.left.2 (by unfold maxLen; omega) (by omega)).mono ?_
  rintro e w' ⟨rfl, hs⟩
  exact ⟨rfl, One.step hB h2 h4 hs⟩

theorem one_cut (w : World) (B : Nat) (X : List Nat) (a : Nat) (d : DiskD) (n : Int) (hB : B ≤ w.heap.size) (h : One w B X a d) (hg : GoodD 1000 30000 d) (hnn : -9223372036854775808 ≤ n ∧ n ≤ 9223372036854775807) :
    Calls Tryz.prog 20 #[.pointer (some ⟨a, 0, none⟩), .int .i64 n] w fun e w' => e = .returned (.tuple #[]) ∧ One w' B X a (cutD d n) ∧ KeptX B X w w' := by
  obtain ⟨F, hP, h2, h4⟩ := h
  have hl : d.fs.length < 1000000 := by have := hg.len; omega
  have htot : ftot d.fs ≤ 1000000000 := by have := hg.tot; omega
  refine (cut_calls w a F d n hP hnn).mono ?_
  rintro e w' ⟨rfl, hs⟩
  exact ⟨rfl, One.step hB h2 h4 hs⟩

theorem one_start (w : World) (B : Nat) (X : List Nat) (a : Nat) (d : DiskD) (n : Int) (hB : B ≤ w.heap.size) (h : One w B X a d) (hg : GoodD 1000 30000 d) :
    Calls Tryz.prog 23 #[.pointer (some ⟨a, 0, none⟩), .int .i64 n] w fun e w' => e = .returned (.tuple #[]) ∧ One w' B X a (startD d n) ∧ KeptX B X w w' := by
  obtain ⟨F, hP, h2, h4⟩ := h
  have hl : d.fs.length < 1000000 := by have := hg.len; omega
  have htot : ftot d.fs ≤ 1000000000 := by have := hg.tot; omega
  refine (start_calls w a F d n hP hg.nodup hl (fun f x hx => ⟨by have := (hg.get hx).2.1; omega, fun s hs => by have := (hg.get hx).2.2 s hs; omega⟩)).mono ?_
  rintro e w' ⟨rfl, hs⟩
  exact ⟨rfl, One.step hB h2 h4 hs⟩

section
variable {w : World} {B : Nat} {X : List Nat} {a : Nat} {d : DiskD}
theorem one_on (h : One w B X a d) : Calls Tryz.prog 63 #[.pointer (some ⟨a, 0, none⟩)] w fun e w' => e = .returned (.bool (onB d)) ∧ w = w' := by
  obtain ⟨F, hP, h2, h4⟩ := h
  exact on_calls w a F d hP
theorem one_read {x : FileD} {f : ByteArray} (h : One w B X a d) (hx : fget d.fs f = some x) (hf : f.size ≤ maxLen) : Calls Tryz.prog 24 #[.pointer (some ⟨a, 0, none⟩), .string f] w fun e w' => e = .returned (.tuple #[.string x.now, .nilIface]) ∧ w = w' := by
  obtain ⟨F, hP, h2, h4⟩ := h
  refine (read_calls w a F d f hP hf).mono ?_
  rintro e w' ⟨rfl, rfl⟩
  rw [hx]
  exact ⟨rfl, rfl⟩
theorem one_readN {f : ByteArray} (h : One w B X a d) (hx : fget d.fs f = none) (hf : f.size ≤ maxLen) : Calls Tryz.prog 24 #[.pointer (some ⟨a, 0, none⟩), .string f] w fun e w' => e = .returned (.tuple #[.string ⟨#[]⟩, errV 7]) ∧ w = w' := by
  obtain ⟨F, hP, h2, h4⟩ := h
  refine (read_calls w a F d f hP hf).mono ?_
  rintro e w' ⟨rfl, rfl⟩
  rw [hx]
  exact ⟨rfl, rfl⟩
theorem names_some1 {fs : FS} {j : Nat} {z : ByteArray} (h : j < (sortB (fs.map (·.1))).length) (hz : (sortB (fs.map (·.1))).getD j ⟨#[]⟩ = z) : ∃ x, fget fs z = some x := by
  have hm : z ∈ fs.map (·.1) := by
    rw [← sortB_mem, ← hz, List.getD_eq_getElem?_getD, List.getElem?_eq_getElem h]
    exact List.getElem_mem h
  cases e : fget fs z with
  | some x => exact ⟨x, rfl⟩
  | none => exact absurd hm (fget_none.1 e)
end
end Go.Proofs.YtodmnogoacghpaaGreatDoor
