/- A book and the document's disk in one world. -/
import Derived.Test.YtodmnogoacghpaaGreatDoorM32
namespace Go.Proofs.YtodmnogoacghpaaGreatDoor
open Go.RowKit
set_option maxRecDepth 100000
set_option maxHeartbeats 4000000

/-- B: a bound below all of their blocks; X: blocks of others. -/
def TwoK (w : World) (B : Nat) (X : List Nat) (a bb ar : Nat) (s : BkS) (r : DiskD) : Prop :=
  ∃ F bf G, BkW w F a bb s ∧ RDisk w ar bf G r ∧ (∀ k ∈ F, k ≠ ar ∧ k ≠ bf ∧ k ∉ G) ∧ (∀ k ∈ F, B ≤ k) ∧ (B ≤ ar ∧ B ≤ bf ∧ ∀ k ∈ G, B ≤ k) ∧ (∀ k ∈ X, k < w.heap.size ∧ k ∉ F ∧ k ≠ ar ∧ k ≠ bf) ∧ MaxV w ∧ 1 < B
section
variable {w w' : World} {B : Nat} {X : List Nat} {a bb ar : Nat} {s s' : BkS} {r r' : DiskD}
theorem TwoK.stepP {F : List Nat} {bf : Nat} {G : List Nat} (hB : B ≤ w.heap.size) (hR : RDisk w ar bf G r) (h1 : ∀ k ∈ F, k ≠ ar ∧ k ≠ bf ∧ k ∉ G) (h2 : ∀ k ∈ F, B ≤ k) (h3 : B ≤ ar ∧ B ≤ bf ∧ ∀ k ∈ G, B ≤ k) (h4 : ∀ k ∈ X, k < w.heap.size ∧ k ∉ F ∧ k ≠ ar ∧ k ≠ bf) (h5 : MaxV w) (h6 : 1 < B) (hs : BkN w F a bb s' w') : TwoK w' B X a bb ar s' r ∧ KeptX B X w w' := by
  obtain ⟨F', hP', hF', hT⟩ := hs
  have hx : ∀ k ∈ X, w'.heap[k]? = w.heap[k]? := fun k hk => hT.block k (h4 k hk).1 (h4 k hk).2.1
  refine ⟨⟨F', bf, G, hP', hR.other hT (fun h => (h1 _ h).1 rfl) (fun h => (h1 _ h).2.1 rfl) (fun k hk h => (h1 _ h).2.2 hk), fun k hk => ?_, fun k hk => ?_, h3, fun k hk => ⟨Nat.lt_of_lt_of_le (h4 k hk).1 hT.size, fun hk' => ?_, (h4 k hk).2.2⟩, h5.turn hT (fun k hk => Nat.lt_of_lt_of_le h6 (h2 k hk)), h6⟩, hT.below h2 hB, hx⟩
  · rcases hF' k hk with h | h
    · exact h1 k h
    · have e1 := hR.alt
      have e2 := hR.blt
      exact ⟨by omega, by omega, fun hg => by have := (hR.lt k hg).1; omega⟩
  · rcases hF' k hk with h | h
    · exact h2 k h
    · omega
  · rcases hF' k hk' with h | h
    · exact (h4 k hk).2.1 h
    · have := (h4 k hk).1; omega
theorem TwoK.stepR {F : List Nat} {bf : Nat} {G : List Nat} (hB : B ≤ w.heap.size) (hP : BkW w F a bb s) (hR : RDisk w ar bf G r) (h1 : ∀ k ∈ F, k ≠ ar ∧ k ≠ bf ∧ k ∉ G) (h2 : ∀ k ∈ F, B ≤ k) (h3 : B ≤ ar ∧ B ≤ bf ∧ ∀ k ∈ G, B ≤ k) (h4 : ∀ k ∈ X, k < w.heap.size ∧ k ∉ F ∧ k ≠ ar ∧ k ≠ bf) (h5 : MaxV w) (h6 : 1 < B) (hs : RStep w ar bf G r' w') : TwoK w' B X a bb ar s r' ∧ KeptX B X w w' := by
  obtain ⟨bf', G', hR', hbf, hG, hT⟩ := hs
  have hP' : BkF w F a bb s.d s.m s.t s.dn := hP
  have hx : ∀ k ∈ X, w'.heap[k]? = w.heap[k]? := fun k hk => hT.block k (h4 k hk).1 (by simp; exact ⟨(h4 k hk).2.2.1, (h4 k hk).2.2.2⟩)
  have hB3 : ∀ k ∈ [ar, bf], B ≤ k := fun k hk => by
    simp only [List.mem_cons, List.not_mem_nil, or_false] at hk
    rcases hk with rfl | rfl
    · exact h3.1
    · exact h3.2.1
  refine ⟨⟨F, bf', G', hP'.other hT (fun k hk => by simp; exact ⟨(h1 k hk).1, (h1 k hk).2.1⟩), hR', fun k hk => ⟨(h1 k hk).1, ?_, fun hg => ?_⟩, h2, ⟨h3.1, ?_, fun k hk => ?_⟩, fun k hk => ⟨Nat.lt_of_lt_of_le (h4 k hk).1 hT.size, (h4 k hk).2.1, (h4 k hk).2.2.1, ?_⟩, h5.turn hT (fun k hk => Nat.lt_of_lt_of_le h6 (hB3 k hk)), h6⟩, hT.below hB3 hB, hx⟩
  · have := hP'.lt k hk
    rcases hbf with h | h
    · rw [h]; exact (h1 k hk).2.1
    · omega
  · have := hP'.lt k hk
    rcases hG k hg with h | h
    · exact (h1 k hk).2.2 h
    · omega
  · rcases hbf with h | h
    · rw [h]; exact h3.2.1
    · omega
  · rcases hG k hk with h | h
    · exact h3.2.2 k h
    · omega
  · have := (h4 k hk).1
    rcases hbf with h | h
    · rw [h]; exact (h4 k hk).2.2.2
    · omega
theorem TwoK.other (h : TwoK w B X a bb ar s r) (hb : Below w.heap.size w w') : TwoK w' B X a bb ar s r := by
  obtain ⟨F, bf, G, hP, hR, h1, h2, h3, h4, h5, h6⟩ := h
  have hP' : BkF w F a bb s.d s.m s.t s.dn := hP
  exact ⟨F, bf, G, hP'.below hb, hR.below hb, h1, h2, h3, fun k hk => ⟨Nat.lt_of_lt_of_le (h4 k hk).1 hb.size, (h4 k hk).2⟩, h5.below hb, h6⟩
theorem TwoK.push (h : TwoK w B X a bb ar s r) (o : Obj) : TwoK (w.alloc o) B (w.heap.size :: X) a bb ar s r := by
  obtain ⟨F, bf, G, hP, hR, h1, h2, h3, h4, h5, h6⟩ := h
  have hb : Below w.heap.size w (w.alloc o) := (Below.refl _ _).alloc (Nat.le_refl _) _
  have hP' : BkF w F a bb s.d s.m s.t s.dn := hP
  refine ⟨F, bf, G, hP'.below hb, hR.below hb, h1, h2, h3, fun k hk => ?_, h5.below hb, h6⟩
  rcases List.mem_cons.1 hk with rfl | hk
  · exact ⟨by simp, fun hk' => absurd (hP'.lt _ hk') (Nat.lt_irrefl _), fun e => absurd hR.alt (by omega), fun e => absurd hR.blt (by omega)⟩
  · exact ⟨Nat.lt_of_lt_of_le (h4 k hk).1 hb.size, (h4 k hk).2⟩
theorem TwoK.less (h : TwoK w B X a bb ar s r) : TwoK w B [] a bb ar s r := by
  obtain ⟨F, bf, G, hP, hR, h1, h2, h3, h4, h5⟩ := h
  exact ⟨F, bf, G, hP, hR, h1, h2, h3, fun k hk => (by cases hk), h5⟩
theorem TwoK.xlt (h : TwoK w B X a bb ar s r) : ∀ k ∈ X, k < w.heap.size := by
  obtain ⟨F, bf, G, hP, hR, h1, h2, h3, h4, h5⟩ := h
  exact fun k hk => (h4 k hk).1
end
section
variable {w : World} {B : Nat} {X : List Nat} {a bb ar k : Nat} {s : BkS} {r : DiskD}
theorem k_set (hB : B ≤ w.heap.size) (h : TwoK w B X a bb ar s r) (hI : BInv k s r) (hk : k ≤ 60) {n v : ByteArray} (hn : n.size ≤ 60) (hv : v.size ≤ 400) :
    Calls Tryz.prog 9 #[.pointer (some ⟨bb, 0, none⟩), .string n, .string v] w fun e w' => e = .returned (errV (setB s n v).1) ∧ TwoK w' B X a bb ar (setB s n v).2 r ∧ KeptX B X w w' := by
  obtain ⟨F, bf, G, hP, hR, h1, h2, h3, h4, h5, h6⟩ := h
  refine (set_calls w F a bb s n v hP (fun j hj => Nat.lt_of_lt_of_le h6 (h2 j hj)) h5 (hI.good.mono (by omega) (Nat.le_refl _)) (by omega) (by omega) (hI.tsize hk) (by have := hI.len; omega)).mono ?_
  rintro e w' ⟨rfl, hs⟩
  exact ⟨rfl, TwoK.stepP hB hR h1 h2 h3 h4 h5 h6 hs⟩
theorem k_tidy (hB : B ≤ w.heap.size) (h : TwoK w B X a bb ar s r) (hI : BInv k s r) (hk : k ≤ 60) :
    Calls Tryz.prog 12 #[.pointer (some ⟨bb, 0, none⟩)] w fun e w' => e = .returned .nilIface ∧ TwoK w' B X a bb ar (tidyB s).2 r ∧ KeptX B X w w' := by
  obtain ⟨F, bf, G, hP, hR, h1, h2, h3, h4, h5, h6⟩ := h
  refine (tidy_calls w F a bb s hP (fun j hj => Nat.lt_of_lt_of_le h6 (h2 j hj)) h5 (hI.good.mono (by omega) (Nat.le_refl _)) (hI.text hk) (by have := hI.len; omega) (fun n hn => ?_)).mono ?_
  · have hn' : n ∈ s.m.map (·.1) := sortB_mem.1 hn
    cases hx : fget s.m n with
    | none => exact absurd hn' (fget_none.1 hx)
    | some x =>
      have := rightB_size (hI.ok.each n x hx).1
      unfold maxLen
      omega
  rintro e w' ⟨rfl, hs⟩
  rw [(hI.tidy hk).1]
  exact ⟨rfl, TwoK.stepP hB hR h1 h2 h3 h4 h5 h6 hs⟩
theorem k_open (hB : B ≤ w.heap.size) (h : TwoK w B X a bb ar s r) (hI : BInv k s r) (hk : k ≤ 60) :
    Calls Tryz.prog 5 #[.pointer (some ⟨a, 0, none⟩)] w fun e w' => e = .returned (.tuple #[.pointer (some ⟨w.heap.size + 1, 0, none⟩), .nilIface]) ∧ TwoK w' B X a (w.heap.size + 1) ar (openB s.d) r ∧ KeptX B X w w' := by
  obtain ⟨F, bf, G, hP, hR, h1, h2, h3, h4, h5, h6⟩ := h
  have hP0 : BkF w F a bb s.d s.m s.t s.dn := hP
  obtain ⟨FD, bl, hPD, hA, rfl, q1, q2⟩ := hP0
  refine (open_calls w FD a s.d hPD h5 (hI.good.mono (by omega) (Nat.le_refl _))).mono ?_
  rintro e w' ⟨rfl, hb, hBk⟩
  have hx := h4
  have c1 : ∀ k ∈ FD, k ≠ ar ∧ k ≠ bf ∧ k ∉ G := fun k hk => h1 k (by simp [hk])
  have e1 := hR.alt
  have e2 := hR.blt
  refine ⟨rfl, ⟨_, bf, G, hBk, hR.below hb, fun k hk => ?_, fun k hk => ?_, h3, fun k hk => ⟨Nat.lt_of_lt_of_le (h4 k hk).1 hb.size, fun hk' => ?_, (h4 k hk).2.2⟩, h5.below hb, h6⟩, KeptX.of_below hb hB (fun k hk => (h4 k hk).1)⟩
  · rcases List.mem_cons.1 hk with rfl | hk
    · exact ⟨by omega, by omega, fun hg => by have := (hR.lt _ hg).1; omega⟩
    · rcases List.mem_cons.1 hk with rfl | hk
      · exact ⟨by omega, by omega, fun hg => by have := (hR.lt _ hg).1; omega⟩
      · exact c1 k hk
  · rcases List.mem_cons.1 hk with rfl | hk
    · omega
    · rcases List.mem_cons.1 hk with rfl | hk
      · exact hB
      · exact h2 k (by simp [hk])
  · have := (h4 k hk).1
    rcases List.mem_cons.1 hk' with rfl | hk'
    · omega
    · rcases List.mem_cons.1 hk' with rfl | hk'
      · omega
      · exact (h4 k hk).2.1 (by simp [hk'])
theorem k_write (hB : B ≤ w.heap.size) (h : TwoK w B X a bb ar s r) (hI : BInv k s r) (hk : k ≤ 60) {n v : ByteArray} (hn : n.size ≤ 60) (hv : v.size ≤ 400) :
    Calls Tryz.prog 11 #[.pointer (some ⟨ar, 0, none⟩), .string n, .string v] w fun e w' => (∃ x, e = .returned (.int .i64 x)) ∧ TwoK w' B X a bb ar s (writeD r n v).2 ∧ KeptX B X w w' := by
  obtain ⟨F, bf, G, hP, hR, h1, h2, h3, h4, h5, h6⟩ := h
  have hg := hI.rgood
  have hl : r.fs.length < 1000000 := by have := hg.len; omega
  have htot : ftot r.fs ≤ 1000000000 := by
    have := hg.tot
    have h2 : k * 400 ≤ 60 * 400 := Nat.mul_le_mul_right _ hk
    omega
  refine (rwrite_calls w ar bf G r n v hR hg.nodup hl htot hg.left (by unfold maxLen; omega) (by omega)).mono ?_
  rintro e w' ⟨rfl, hs⟩
  exact ⟨⟨_, rfl⟩, TwoK.stepR hB hP hR h1 h2 h3 h4 h5 h6 hs⟩
theorem k_remove (hB : B ≤ w.heap.size) (h : TwoK w B X a bb ar s r) (hI : BInv k s r) (hk : k ≤ 60) {n : ByteArray} (hn : n.size ≤ 60) :
    Calls Tryz.prog 10 #[.pointer (some ⟨ar, 0, none⟩), .int .i64 2, .string n, .string ⟨#[]⟩] w fun e w' => (∃ x, e = .returned (.int .i64 x)) ∧ TwoK w' B X a bb ar s (removeD r n).2 ∧ KeptX B X w w' := by
  obtain ⟨F, bf, G, hP, hR, h1, h2, h3, h4, h5, h6⟩ := h
  have hg := hI.rgood
  have hl : r.fs.length < 1000000 := by have := hg.len; omega
  refine (rremove_calls w ar bf G r n ⟨#[]⟩ hR hg.nodup hl hg.left (by unfold maxLen; omega) (by decide)).mono ?_
  rintro e w' ⟨rfl, hs⟩
  exact ⟨⟨_, rfl⟩, TwoK.stepR hB hP hR h1 h2 h3 h4 h5 h6 hs⟩
theorem k_down (h : TwoK w B X a bb ar s r) : Calls Tryz.prog 13 #[.pointer (some ⟨bb, 0, none⟩)] w fun e w' => e = .returned (.bool s.dn) ∧ w = w' := by
  obtain ⟨F, bf, G, hP, hR, h1, h2, h3, h4, h5, h6⟩ := h
  exact down_calls w F a bb s.d s.m s.t s.dn hP
theorem k_get (h : TwoK w B X a bb ar s r) {n : ByteArray} (hn : n.size ≤ 60) : Calls Tryz.prog 14 #[.pointer (some ⟨bb, 0, none⟩), .string n] w fun e w' => e = .returned (.string (nowOf s.m n)) ∧ w = w' := by
  obtain ⟨F, bf, G, hP, hR, h1, h2, h3, h4, h5, h6⟩ := h
  exact get_calls w F a bb s.d s.m s.t s.dn n hP (by unfold maxLen; omega)
theorem k_bnames (h : TwoK w B X a bb ar s r) (hI : BInv k s r) (hk : k ≤ 61) : Calls Tryz.prog 16 #[.pointer (some ⟨bb, 0, none⟩)] w fun e w' => ∃ v, e = .returned v ∧ Strs w' v (sortB (s.m.map (·.1))) ∧ Below w.heap.size w w' := by
  obtain ⟨F, bf, G, hP, hR, h1, h2, h3, h4, h5, h6⟩ := h
  refine (bnames_calls w F a bb s.d s.m s.t s.dn hP (by have := hI.len; omega)).mono ?_
  rintro e w' ⟨v, rfl, hS, -, hb⟩
  exact ⟨v, rfl, hS, hb⟩
theorem k_names (h : TwoK w B X a bb ar s r) (hI : BInv k s r) (hk : k ≤ 61) : Calls Tryz.prog 17 #[.pointer (some ⟨ar, 0, none⟩)] w fun e w' => ∃ v, e = .returned v ∧ Strs w' v (sortB (s.m.map (·.1))) ∧ Below w.heap.size w w' := by
  obtain ⟨F, bf, G, hP, hR, h1, h2, h3, h4, h5, h6⟩ := h
  rw [hI.names]
  exact names_calls w ar bf G r hR hI.rgood.nodup (by have := hI.rgood.len; omega)
theorem k_look (h : TwoK w B X a bb ar s r) (hI : BInv k s r) {f : ByteArray} (hf : f.size ≤ 60) : ∃ bf P, ∀ W, Below w.heap.size w W → W.cell? ⟨ar, 0, none⟩ = some (.map (some bf)) ∧ (Instr.lookup 48 (.map (some bf)) (.string f) false).run Tryz.prog W = .ok (.agg #[.string (nowOf s.m f), .pointer P]) W := by
  obtain ⟨F, bf, G, hP, hR, h1, h2, h3, h4, h5, h6⟩ := h
  obtain ⟨m, hm, hRm⟩ := hR.map
  have hsm := hI.same f
  have key : ∃ P, gotV m (.agg #[.string ⟨#[]⟩, .pointer none]) f = .agg #[.string (nowOf s.m f), .pointer P] := by
    unfold nowOf
    rw [hsm]
    unfold nowG
    cases hx : fget r.fs f with
    | none =>
      refine ⟨none, ?_⟩
      unfold gotV
      rw [(hRm f).1 hx]
      rfl
    | some x =>
      obtain ⟨pv, e1, e2⟩ := (hRm f).2 x hx
      obtain ⟨P, rfl⟩ := e2.ptr
      refine ⟨P, ?_⟩
      unfold gotV
      rw [e1]
      rfl
  obtain ⟨P, hg⟩ := key
  refine ⟨bf, P, fun W hb => ?_⟩
  have hR' := hR.below hb
  have hM' := hm.keep (hb.block bf hm.lt)
  have l1 := hM'.look Tryz.underlying9 Tryz.underlying48 (zeroState W) (show f.size ≤ maxLen by unfold maxLen; omega)
  rw [hg] at l1
  exact ⟨hR'.cells.1, l1⟩
end
end Go.Proofs.YtodmnogoacghpaaGreatDoor
