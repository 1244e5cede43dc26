/- Both disks in one world. -/
import Derived.Test.YtodmnogoacghpaaGreatDoorM20
import Derived.Test.YtodmnogoacghpaaGreatDoorM21
namespace Go.Proofs.YtodmnogoacghpaaGreatDoor
open Go.RowKit
set_option maxRecDepth 100000
set_option maxHeartbeats 4000000

/-- Both disks: the program's is dp, the document's dr; B: a bound below all of their blocks; X: blocks of others. -/
def Two (w : World) (B : Nat) (X : List Nat) (a ar : Nat) (dp dr : DiskD) : Prop :=
  ∃ F bf G, PDisk w a F dp ∧ RDisk w ar bf G dr ∧ (∀ k ∈ F, k ≠ ar ∧ k ≠ bf ∧ k ∉ G) ∧ (∀ k ∈ F, B ≤ k) ∧ (B ≤ ar ∧ B ≤ bf ∧ ∀ k ∈ G, B ≤ k) ∧ ∀ k ∈ X, k < w.heap.size ∧ k ∉ F ∧ k ≠ ar ∧ k ≠ bf
def KeptX (B : Nat) (X : List Nat) (w w' : World) : Prop := Below B w w' ∧ ∀ k ∈ X, w'.heap[k]? = w.heap[k]?
section
variable {w w' : World} {B : Nat} {X : List Nat} {a ar : Nat} {dp dr d' : DiskD}
theorem Two.stepP {F : List Nat} {bf : Nat} {G : List Nat} (hB : B ≤ w.heap.size) (_hP : PDisk w a F dp) (hR : RDisk w ar bf G dr) (h1 : ∀ k ∈ F, k ≠ ar ∧ k ≠ bf ∧ k ∉ G) (h2 : ∀ k ∈ F, B ≤ k) (h3 : B ≤ ar ∧ B ≤ bf ∧ ∀ k ∈ G, B ≤ k) (h4 : ∀ k ∈ X, k < w.heap.size ∧ k ∉ F ∧ k ≠ ar ∧ k ≠ bf) (hs : DStep w a F d' w') : Two w' B X a ar d' dr ∧ KeptX B X w w' := by
  obtain ⟨F', hP', hF', hT⟩ := hs
  have hx : ∀ k ∈ X, w'.heap[k]? = w.heap[k]? := fun k hk => hT.block k (h4 k hk).1 (h4 k hk).2.1
  refine ⟨⟨F', bf, G, hP', hR.other hT (fun h => (h1 _ h).1 rfl) (fun h => (h1 _ h).2.1 rfl) (fun k hk h => (h1 _ h).2.2 hk), fun k hk => ?_, fun k hk => ?_, h3, fun k hk => ⟨Nat.lt_of_lt_of_le (h4 k hk).1 hT.size, fun hk' => ?_, (h4 k hk).2.2⟩⟩, hT.below h2 hB, hx⟩
  · rcases hF' k hk with h | h
    · exact h1 k h
    · have e1 := hR.alt
      have e2 := hR.blt
      exact ⟨by omega, by omega, fun hg => by have := (hR.lt k hg).1; omega⟩
  · rcases hF' k hk with h | h
    · exact h2 k h
    · omega
  · rcases hF' k hk' with h | h
    · exact (h4 k hk).2.1 h
    · have := (h4 k hk).1; omega
theorem Two.stepR {F : List Nat} {bf : Nat} {G : List Nat} (hB : B ≤ w.heap.size) (hP : PDisk w a F dp) (hR : RDisk w ar bf G dr) (h1 : ∀ k ∈ F, k ≠ ar ∧ k ≠ bf ∧ k ∉ G) (h2 : ∀ k ∈ F, B ≤ k) (h3 : B ≤ ar ∧ B ≤ bf ∧ ∀ k ∈ G, B ≤ k) (h4 : ∀ k ∈ X, k < w.heap.size ∧ k ∉ F ∧ k ≠ ar ∧ k ≠ bf) (hs : RStep w ar bf G d' w') : Two w' B X a ar dp d' ∧ KeptX B X w w' := by
  obtain ⟨bf', G', hR', hbf, hG, hT⟩ := hs
  have hx : ∀ k ∈ X, w'.heap[k]? = w.heap[k]? := fun k hk => hT.block k (h4 k hk).1 (by simp; exact ⟨(h4 k hk).2.2.1, (h4 k hk).2.2.2⟩)
  refine ⟨⟨F, bf', G', hP.other hT (fun k hk => by simp; exact ⟨(h1 k hk).1, (h1 k hk).2.1⟩), hR', fun k hk => ⟨(h1 k hk).1, ?_, fun hg => ?_⟩, h2, ⟨h3.1, ?_, fun k hk => ?_⟩, fun k hk => ⟨Nat.lt_of_lt_of_le (h4 k hk).1 hT.size, (h4 k hk).2.1, (h4 k hk).2.2.1, ?_⟩⟩, hT.below (fun k hk => ?_) hB, hx⟩
  · have := hP.lt k hk
    rcases hbf with h | h
    · rw [h]; exact (h1 k hk).2.1
    · omega
  · have := hP.lt k hk
    rcases hG k hg with h | h
    · exact (h1 k hk).2.2 h
    · omega
  · rcases hbf with h | h
    · rw [h]; exact h3.2.1
    · omega
  · rcases hG k hk with h | h
    · exact h3.2.2 k h
    · omega
  · have := (h4 k hk).1
    rcases hbf with h | h
    · rw [h]; exact (h4 k hk).2.2.2
    · omega
  · simp only [List.mem_cons, List.not_mem_nil, or_false] at hk
    rcases hk with rfl | rfl
    · exact h3.1
    · exact h3.2.1
/-- Others' steps. -/
theorem Two.other (h : Two w B X a ar dp dr) (hb : Below w.heap.size w w') : Two w' B X a ar dp dr := by
  obtain ⟨F, bf, G, hP, hR, h1, h2, h3, h4⟩ := h
  exact ⟨F, bf, G, hP.keep (fun k hk => hb.block k (hP.lt k hk)), hR.below hb, h1, h2, h3, fun k hk => ⟨Nat.lt_of_lt_of_le (h4 k hk).1 hb.size, (h4 k hk).2⟩⟩
theorem KeptX.of_below (hb : Below w.heap.size w w') (hB : B ≤ w.heap.size) (hX : ∀ k ∈ X, k < w.heap.size) : KeptX B X w w' := ⟨hb.mono hB, fun k hk => hb.block k (hX k hk)⟩
theorem KeptX.trans {w'' : World} (h : KeptX B X w w') (k : KeptX B X w' w'') : KeptX B X w w'' := ⟨h.1.trans k.1, fun j hj => (k.2 j hj).trans (h.2 j hj)⟩
theorem Two.xlt (h : Two w B X a ar dp dr) : ∀ k ∈ X, k < w.heap.size := by
  obtain ⟨F, bf, G, hP, hR, h1, h2, h3, h4⟩ := h
  exact fun k hk => (h4 k hk).1
end

theorem two_write_p (w : World) (B : Nat) (X : List Nat) (a ar : Nat) (d dr : DiskD) (f s : ByteArray) (hB : B ≤ w.heap.size) (h : Two w B X a ar d dr) (hg : GoodD 1000 200 d) (hf : f.size ≤ 200) (hs : s.size ≤ 200) :
    Calls Tryz.prog 45 #[.pointer (some ⟨a, 0, none⟩), .string f, .string s] w fun e w' => e = .returned (errV ((writeD d f s).1)) ∧ Two w' B X a ar ((writeD d f s).2) dr ∧ KeptX B X w w' := by
  obtain ⟨F, bf, G, hP, hR, h1, h2, h3, h4⟩ := h
  have hl : d.fs.length < 1000000 := by have := hg.len; omega
  have htot : ftot d.fs ≤ 1000000000 := by have := hg.tot; omega
  refine (write_calls w a F d f s hP hg.nodup hl htot hg.left.2 hg.bytes.2 (by omega) (by omega)).mono ?_
  rintro e w' ⟨rfl, hs⟩
  exact ⟨rfl, Two.stepP hB hP hR h1 h2 h3 h4 hs⟩

theorem two_write_r (w : World) (B : Nat) (X : List Nat) (a ar : Nat) (dp d : DiskD) (f s : ByteArray) (hB : B ≤ w.heap.size) (h : Two w B X a ar dp d) (hg : GoodD 1000 200 d) (hf : f.size ≤ 200) (hs : s.size ≤ 200) :
    Calls Tryz.prog 11 #[.pointer (some ⟨ar, 0, none⟩), .string f, .string s] w fun e w' => e = .returned (.int .i64 ((writeD d f s).1)) ∧ Two w' B X a ar dp ((writeD d f s).2) ∧ KeptX B X w w' := by
  obtain ⟨F, bf, G, hP, hR, h1, h2, h3, h4⟩ := h
  have hl : d.fs.length < 1000000 := by have := hg.len; omega
  have htot : ftot d.fs ≤ 1000000000 := by have := hg.tot; omega
  refine (rwrite_calls w ar bf G d f s hR hg.nodup hl htot hg.left (by unfold maxLen; omega) (by omega)).mono ?_
  rintro e w' ⟨rfl, hs⟩
  exact ⟨rfl, Two.stepR hB hP hR h1 h2 h3 h4 hs⟩

theorem two_sync_p (w : World) (B : Nat) (X : List Nat) (a ar : Nat) (d dr : DiskD) (f : ByteArray) (hB : B ≤ w.heap.size) (h : Two w B X a ar d dr) (hg : GoodD 1000 200 d) (hf : f.size ≤ 200) :
    Calls Tryz.prog 46 #[.pointer (some ⟨a, 0, none⟩), .string f] w fun e w' => e = .returned (errV ((syncD d f).1)) ∧ Two w' B X a ar ((syncD d f).2) dr ∧ KeptX B X w w' := by
  obtain ⟨F, bf, G, hP, hR, h1, h2, h3, h4⟩ := h
  have hl : d.fs.length < 1000000 := by have := hg.len; omega
  have htot : ftot d.fs ≤ 1000000000 := by have := hg.tot; omega
  refine (sync_calls w a F d f hP hg.nodup hl hg.left.2 (by unfold maxLen; omega)).mono ?_
  rintro e w' ⟨rfl, hs⟩
  exact ⟨rfl, Two.stepP hB hP hR h1 h2 h3 h4 hs⟩

theorem two_sync_r (w : World) (B : Nat) (X : List Nat) (a ar : Nat) (dp d : DiskD) (f t : ByteArray) (hB : B ≤ w.heap.size) (h : Two w B X a ar dp d) (hg : GoodD 1000 200 d) (hf : f.size ≤ 200) (ht : t.size ≤ 200) :
    Calls Tryz.prog 10 #[.pointer (some ⟨ar, 0, none⟩), .int .i64 0, .string f, .string t] w fun e w' => e = .returned (.int .i64 ((syncD d f).1)) ∧ Two w' B X a ar dp ((syncD d f).2) ∧ KeptX B X w w' := by
  obtain ⟨F, bf, G, hP, hR, h1, h2, h3, h4⟩ := h
  have hl : d.fs.length < 1000000 := by have := hg.len; omega
  have htot : ftot d.fs ≤ 1000000000 := by have := hg.tot; omega
  refine (rsync_calls w ar bf G d f t hR hg.nodup hl hg.left (by unfold maxLen; omega) (by unfold maxLen; omega)).mono ?_
  rintro e w' ⟨rfl, hs⟩
  exact ⟨rfl, Two.stepR hB hP hR h1 h2 h3 h4 hs⟩

theorem two_move_p (w : World) (B : Nat) (X : List Nat) (a ar : Nat) (d dr : DiskD) (f t : ByteArray) (hB : B ≤ w.heap.size) (h : Two w B X a ar d dr) (hg : GoodD 1000 200 d) (hf : f.size ≤ 200) (ht : t.size ≤ 200) :
    Calls Tryz.prog 35 #[.pointer (some ⟨a, 0, none⟩), .string f, .string t] w fun e w' => e = .returned (errV ((moveD d f t).1)) ∧ Two w' B X a ar ((moveD d f t).2) dr ∧ KeptX B X w w' := by
  obtain ⟨F, bf, G, hP, hR, h1, h2, h3, h4⟩ := h
  have hl : d.fs.length < 1000000 := by have := hg.len; omega
  have htot : ftot d.fs ≤ 1000000000 := by have := hg.tot; omega
  refine (move_calls w a F d f t hP hg.nodup hl hg.left.2 (by unfold maxLen; omega) (by omega)).mono ?_
  rintro e w' ⟨rfl, hs⟩
  exact ⟨rfl, Two.stepP hB hP hR h1 h2 h3 h4 hs⟩

theorem two_move_r (w : World) (B : Nat) (X : List Nat) (a ar : Nat) (dp d : DiskD) (f t : ByteArray) (hB : B ≤ w.heap.size) (h : Two w B X a ar dp d) (hg : GoodD 1000 200 d) (hf : f.size ≤ 200) (ht : t.size ≤ 200) :
    Calls Tryz.prog 10 #[.pointer (some ⟨ar, 0, none⟩), .int .i64 1, .string f, .string t] w fun e w' => e = .returned (.int .i64 ((moveD d f t).1)) ∧ Two w' B X a ar dp ((moveD d f t).2) ∧ KeptX B X w w' := by
  obtain ⟨F, bf, G, hP, hR, h1, h2, h3, h4⟩ := h
  have hl : d.fs.length < 1000000 := by have := hg.len; omega
  have htot : ftot d.fs ≤ 1000000000 := by have := hg.tot; omega
  refine (rmove_calls w ar bf G d f t hR hg.nodup hl hg.left (by unfold maxLen; omega) (by unfold maxLen; omega)).mono ?_
  rintro e w' ⟨rfl, hs⟩
  exact ⟨rfl, Two.stepR hB hP hR h1 h2 h3 h4 hs⟩

theorem two_remove_r (w : World) (B : Nat) (X : List Nat) (a ar : Nat) (dp d : DiskD) (f t : ByteArray) (hB : B ≤ w.heap.size) (h : Two w B X a ar dp d) (hg : GoodD 1000 200 d) (hf : f.size ≤ 200) (ht : t.size ≤ 200) :
    Calls Tryz.prog 10 #[.pointer (some ⟨ar, 0, none⟩), .int .i64 2, .string f, .string t] w fun e w' => e = .returned (.int .i64 ((removeD d f).1)) ∧ Two w' B X a ar dp ((removeD d f).2) ∧ KeptX B X w w' := by
  obtain ⟨F, bf, G, hP, hR, h1, h2, h3, h4⟩ := h
  have hl : d.fs.length < 1000000 := by have := hg.len; omega
  have htot : ftot d.fs ≤ 1000000000 := by have := hg.tot; omega
  refine (rremove_calls w ar bf G d f t hR hg.nodup hl hg.left (by unfold maxLen; omega) (by unfold maxLen; omega)).mono ?_
  rintro e w' ⟨rfl, hs⟩
  exact ⟨rfl, Two.stepR hB hP hR h1 h2 h3 h4 hs⟩

theorem two_cut_p (w : World) (B : Nat) (X : List Nat) (a ar : Nat) (d dr : DiskD) (n : Int) (hB : B ≤ w.heap.size) (h : Two w B X a ar d dr) (hg : GoodD 1000 200 d) (hnn : -9223372036854775808 ≤ n ∧ n ≤ 9223372036854775807) :
    Calls Tryz.prog 20 #[.pointer (some ⟨a, 0, none⟩), .int .i64 n] w fun e w' => e = .returned (.tuple #[]) ∧ Two w' B X a ar (cutD d n) dr ∧ KeptX B X w w' := by
  obtain ⟨F, bf, G, hP, hR, h1, h2, h3, h4⟩ := h
  have hl : d.fs.length < 1000000 := by have := hg.len; omega
  have htot : ftot d.fs ≤ 1000000000 := by have := hg.tot; omega
  refine (cut_calls w a F d n hP hnn).mono ?_
  rintro e w' ⟨rfl, hs⟩
  exact ⟨rfl, Two.stepP hB hP hR h1 h2 h3 h4 hs⟩

theorem two_start_p (w : World) (B : Nat) (X : List Nat) (a ar : Nat) (d dr : DiskD) (n : Int) (hB : B ≤ w.heap.size) (h : Two w B X a ar d dr) (hg : GoodD 1000 200 d) :
    Calls Tryz.prog 23 #[.pointer (some ⟨a, 0, none⟩), .int .i64 n] w fun e w' => e = .returned (.tuple #[]) ∧ Two w' B X a ar (startD d n) dr ∧ KeptX B X w w' := by
  obtain ⟨F, bf, G, hP, hR, h1, h2, h3, h4⟩ := h
  have hl : d.fs.length < 1000000 := by have := hg.len; omega
  have htot : ftot d.fs ≤ 1000000000 := by have := hg.tot; omega
  refine (start_calls w a F d n hP hg.nodup hl (fun f x hx => ⟨by have := (hg.get hx).2.1; omega, fun s hs => by have := (hg.get hx).2.2 s hs; omega⟩)).mono ?_
  rintro e w' ⟨rfl, hs⟩
  exact ⟨rfl, Two.stepP hB hP hR h1 h2 h3 h4 hs⟩

end Go.Proofs.YtodmnogoacghpaaGreatDoor
