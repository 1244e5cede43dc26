/- The document's Change. -/
import Derived.Test.YtodmnogoacghpaaGreatDoorM15
import Derived.Maps.Range
namespace Go.Proofs.YtodmnogoacghpaaGreatDoor
open Go.RowKit Go.Maps
set_option maxRecDepth 100000
set_option maxHeartbeats 4000000
theorem Turn.more {F G : List Nat} {w w' : World} (h : Turn F w w') (hG : ∀ k ∈ F, k ∈ G) : Turn G w w' := ⟨h.os, h.tape, h.output, h.size, fun k hk hF => h.block k hk (fun hm => hF (hG k hm))⟩

def OpS (w : World) (a bf : Nat) (G : List Nat) (r : Int × DiskD) (e : Ending) (w' : World) : Prop := e = .returned (.int .i64 r.1) ∧ RStep w a bf G r.2 w'
theorem SafeP.ptr {w : World} {G : List Nat} {s : Option ByteArray} {pv : Value} (h : SafeP w G s pv) : ∃ P, pv = .pointer P := by
  cases s with
  | none => exact ⟨_, h⟩
  | some s => obtain ⟨b, e, _⟩ := h; exact ⟨_, e⟩
section
variable {w : World} {a bf : Nat} {G : List Nat} {d : DiskD}
theorem RDisk.below {w' : World} (h : RDisk w a bf G d) (hb : Below w.heap.size w w') : RDisk w' a bf G d := h.keep hb.size (hb.block a h.alt) (hb.block bf h.blt) (fun k hk => hb.block k (h.lt k hk).1)
theorem RDisk.alloc (h : RDisk w a bf G d) (o : Obj) : RDisk (w.alloc o) a bf G d := h.below ((Below.refl _ _).alloc (Nat.le_refl _) _)
theorem rstep_same {w' : World} (h : RDisk w a bf G d) (hb : Below w.heap.size w w') : RStep w a bf G d w' := ⟨bf, G, h.below hb, Or.inl rfl, fun _ hk => Or.inl hk, Turn.of_below hb⟩
theorem RMap.more {m : MapF} {fs : FS} (h : RMap w G m fs) {G' : List Nat} (hG : ∀ k ∈ G, k ∈ G') : RMap w G' m fs := fun f =>
  ⟨(h f).1, fun x hx => by obtain ⟨pv, h1, h2⟩ := (h f).2 x hx; exact ⟨pv, h1, h2.more hG⟩⟩
theorem RMap.keepAlloc {m : MapF} {fs : FS} (h : RMap w G m fs) (hG : ∀ k ∈ G, k < w.heap.size) (o : Obj) : RMap (w.alloc o) G m fs := h.keep fun k hk => Below.heap_alloc _ _ _ (hG k hk)
theorem RMap.put {m : MapF} {fs : FS} (h : RMap w G m fs) {f : ByteArray} {x : FileD} {pv : Value} (hs : SafeP w G x.safe pv) : RMap w G (putM m f (Option.some (stateV x pv))) (fput fs f x) := fun z => by
  rw [fget_put]
  unfold putM
  by_cases e : z = f
  · rw [if_pos e, if_pos e]
    exact ⟨fun h => by (cases h), fun y hy => by injection hy with hy; subst hy; exact ⟨pv, rfl, hs⟩⟩
  · rw [if_neg e, if_neg e]
    exact h z
theorem RMap.del {m : MapF} {fs : FS} (h : RMap w G m fs) (f : ByteArray) : RMap w G (putM m f none) (fdel fs f) := fun z => by
  rw [fget_del]
  unfold putM
  by_cases e : z = f
  · rw [if_pos e, if_pos e]
    exact ⟨fun _ => rfl, fun y hy => by (cases hy)⟩
  · rw [if_neg e, if_neg e]
    exact h z
theorem ref_end {w2 w3 w4 : World} {d1 : DiskD} {G' : List Nat} {fs : FS} {m : MapF} {n : Nat} (H2 : RDisk w2 a bf G d1) (hT : Turn [a] w w2) (_hlt : bf < w.heap.size) (hb : Below w2.heap.size w2 w3) (hg : w3.grownBy w4 (some bf)) (hn : NodupK fs) (hM : MapV Tryz.prog 9 w4 bf n m) (hR : RMap w3 G' m fs) (hG : ∀ k ∈ G', k ∈ G ∨ (w2.heap.size ≤ k ∧ k < w3.heap.size)) : RStep w a bf G { d1 with fs := fs } w4 := by
  have hG3 : ∀ k ∈ G', k < w3.heap.size ∧ k ≠ a ∧ k ≠ bf := by
    intro k hk
    rcases hG k hk with h | h
    · have := H2.lt k h
      exact ⟨Nat.lt_of_lt_of_le this.1 hb.size, this.2⟩
    · have h1 := H2.alt
      have h2 := H2.blt
      exact ⟨h.2, by omega, by omega⟩
  have hne : ∀ k, k ≠ bf → (some k : Option Nat) ≠ some bf := fun k h e => h (by injection e)
  have hR4 : RMap w4 G' m fs := hR.keep fun k hk => hg.block k (hG3 k hk).1 (hne k (hG3 k hk).2.2)
  refine ⟨bf, G', ⟨?_, H2.ne, fun k hk => ⟨Nat.lt_of_lt_of_le (hG3 k hk).1 hg.size, (hG3 k hk).2⟩, m, hM.fit Tryz.underlying9 (hR4.keys hn) (by rw [List.length_map]; exact Nat.le_refl _), hR4⟩, Or.inl rfl, fun k hk => ?_, ?_⟩
  · rw [hg.block a (Nat.lt_of_lt_of_le H2.alt hb.size) (hne a (fun e => H2.ne e.symm)), hb.block a H2.alt, H2.blk]
  · rcases hG k hk with h | h
    · exact Or.inl h
    · exact Or.inr (Nat.le_trans hT.size h.1)
  · have h1 : Turn [a, bf] w w3 := (hT.trans (G := []) (Turn.of_below hb) (fun _ hx => by cases hx)).more (by simp)
    exact h1.grown hg (fun k e => by injection e with e; subst e; exact Or.inl (by simp))
end

theorem rsync_calls (w : World) (a bf : Nat) (G : List Nat) (d : DiskD) (f t : ByteArray) (h : RDisk w a bf G d) (hn : NodupK d.fs) (hl : d.fs.length < 1000000) (hleft : -1 ≤ d.left ∧ d.left ≤ 9223372036854775807) (hf : f.size ≤ maxLen) (ht : t.size ≤ maxLen) :
    Calls Tryz.prog 10 #[.pointer (some ⟨a, 0, none⟩), .int .i64 0, .string f, .string t] w (OpS w a bf G (syncD d f)) := by
  have hU : True := (fun _ => trivial) hl
  clear hU
  obtain ⟨m, hM, hRM⟩ := h.map
  obtain ⟨c0, -, -⟩ := h.cells
  have hlt := h.alt
  have HP := Lib.hid h
  have HM := Lib.hid hM
  have HRM := Lib.hid hRM
  have Hf := Lib.hid hf
  have Ht := Lib.hid ht
  have Hn := Lib.hid hn
  have Hblt := Lib.hid hM.lt
  have HNT := Lib.hid trivial
  have POW : Hid (∀ c, Calls Tryz.prog 32 #[.pointer (some ⟨a, 0, none⟩)] (w.alloc (.cells c 47)) (PowerR (w.alloc (.cells c 47)) a bf G d)) := fun c => power_calls _ a bf G d (HP.out.alloc _) hleft
  clear h hM hRM hf ht hn
  cases hx : fget d.fs f with
  | none =>
    have HR : Hid (syncD d f = (7, d)) := by show _ = _; unfold syncD; rw [hx]
    have hm := (HRM.out f).1 hx
    have hg : gotV m (.agg #[.string ⟨#[]⟩, .pointer none]) f = .agg #[.string ⟨#[]⟩, .pointer none] := by unfold gotV; rw [hm]; rfl
    have hs : (m f).isSome = false := by rw [hm]; rfl
    have HG := Lib.hid (And.intro hg hs)
    have HX : Hid (∀ c, RStep w a bf G d (w.alloc (.cells c 47))) := fun c => rstep_same HP.out ((Below.refl _ _).alloc (Nat.le_refl _) _)
    clear hx hm hg hs POW
    go_enter Tryz.func10, Tryz.ntmps10
    go_wp2_with (at_lookup; refine wpList_lookV_ok _ rfl _ _ 48 rfl 9 47 Tryz.underlying9 Tryz.underlying48 (.agg #[.string ⟨#[]⟩, .pointer none]) (zeroState _) bf d.fs.length _ rfl HM.out f rfl Hf.out (.agg #[.string ⟨#[]⟩, .pointer none]) false HG.out.1 HG.out.2 ?_)
    go_ret
    rw [HR.out]
    exact ⟨rfl, HX.out _⟩
  | some x =>
    obtain ⟨pv, hm, hsp⟩ := (HRM.out f).2 x hx
    obtain ⟨P, rfl⟩ := hsp.ptr
    have hg : gotV m (.agg #[.string ⟨#[]⟩, .pointer none]) f = .agg #[.string x.now, .pointer P] := by unfold gotV; rw [hm]; rfl
    have hs : (m f).isSome = true := by rw [hm]; rfl
    have HG := Lib.hid (And.intro hg hs)
    have HSP := Lib.hid hsp
    have HRX : Hid (syncD d f = if d.left = 0 then (14, d) else (0, { usedD d with fs := fput d.fs f ⟨x.now, some x.now⟩ })) := by show _ = _; unfold syncD; rw [hx]
    have HX : Hid (∀ c, RStep w a bf G d (w.alloc (.cells c 47))) := fun c => rstep_same HP.out ((Below.refl _ _).alloc (Nat.le_refl _) _)
    clear hx hm hg hs hsp
    go_enter Tryz.func10, Tryz.ntmps10
    go_wp2_with (at_lookup; refine wpList_lookV_ok _ rfl _ _ 48 rfl 9 47 Tryz.underlying9 Tryz.underlying48 (.agg #[.string ⟨#[]⟩, .pointer none]) (zeroState _) bf d.fs.length _ rfl HM.out f rfl Hf.out (.agg #[.string x.now, .pointer P]) true HG.out.1 HG.out.2 ?_)
    refine (POW.out _).mono ?_
    rintro e1 w2 (⟨h0, rfl, rfl⟩ | ⟨h0, rfl, hD, hT2, hk2, hz2⟩)
    · have HR : Hid (syncD d f = (14, d)) := by show _ = _; rw [HRX.out, if_pos h0]
      clear h0 HRX POW
      go_wp2_with fail
      go_ret
      rw [HR.out]
      exact ⟨rfl, HX.out _⟩
    · have HR : Hid (syncD d f = (0, { usedD d with fs := fput d.fs f ⟨x.now, some x.now⟩ })) := by show _ = _; rw [HRX.out, if_neg h0]
      have HD := Lib.hid hD
      have HT2 : Hid (Turn [a] w w2) := (Turn.refl [a] w).alloc _ |>.trans hT2 (fun x hx => Or.inl hx)
      have hz3 : w.heap.size < w2.heap.size := by rw [hz2]; simp
      have HM2 : Hid (MapV Tryz.prog 9 w2 bf d.fs.length m) := HM.out.keep ((hk2 bf HP.out.ne).trans (Below.heap_alloc _ _ _ Hblt.out))
      have hkG : ∀ k ∈ G, w2.heap[k]? = w.heap[k]? := fun k hk => (hk2 k (HP.out.lt k hk).2.1).trans (Below.heap_alloc _ _ _ (HP.out.lt k hk).1)
      have HRM2 : Hid (RMap w2 G m d.fs) := HRM.out.keep hkG
      have HSP2 : Hid (SafeP w2 G x.safe (.pointer P)) := HSP.out.keep hkG
      have HGL2 : Hid (∀ k ∈ G, k < w2.heap.size) := fun k hk => (HD.out.lt k hk).1
      have HXC : Hid (∀ w' : World, (∀ k, k < w2.heap.size → k ≠ bf → w'.heap[k]? = w2.heap[k]?) → w'.cell? ⟨w.heap.size, 0, none⟩ = some (.string x.now) ∧ w'.cell? ⟨w.heap.size, 1, none⟩ = some (.pointer P)) := by
        intro w' hk'
        have h1 : w'.heap[w.heap.size]? = some (.cells #[.string x.now, .pointer P] 47) := (hk' _ hz3 (Nat.ne_of_gt Hblt.out)).trans ((hk2 _ (Nat.ne_of_gt hlt)).trans (Go.MapKept.heap_alloc _ _).1)
        constructor <;> simp [World.cell?, h1]
      obtain ⟨x0, x1⟩ := HXC.out w2 (fun _ _ _ => rfl)
      have c0 := hD.cells.1
      have hlt2 := hD.alt
      have HM2A : Hid (MapV Tryz.prog 9 (w2.alloc (.cells #[.string x.now] 9)) bf d.fs.length m) := HM2.out.keep (Below.heap_alloc _ _ _ HM2.out.lt)
      clear h0 HRX POW hD hT2 hk2 hz2 hkG
      go_wp2_with fail
      have cW0 : (w2.alloc (.cells #[.string x.now] 9)).cell? ⟨a, 0, none⟩ = some (.map (some bf)) := (World.cell?_of_block (a := ⟨a, 0, none⟩) (Below.heap_alloc _ _ _ hlt2)).trans c0
      have cW1 : (w2.alloc (.cells #[.string x.now] 9)).cell? ⟨w2.heap.size, 0, none⟩ = some (.string x.now) := by
        have h1 := (Go.MapKept.heap_alloc w2 (.cells #[.string x.now] 9)).1
        have h2 : ∀ W : World, W.heap[w2.heap.size]? = some (.cells #[.string x.now] 9) → W.cell? ⟨w2.heap.size, 0, none⟩ = some (.string x.now) := fun W h => by simp [World.cell?, h]
        exact h2 _ h1
      have hlW : a < (w2.alloc (.cells #[.string x.now] 9)).heap.size := by simp; omega
      have HBW : Hid (Below w2.heap.size w2 (w2.alloc (.cells #[.string x.now] 9))) := (Below.refl _ _).alloc (Nat.le_refl _) _
      have HRW := Lib.hid (HRM2.out.keepAlloc HGL2.out (.cells #[.string x.now] 9))
      have HZW : Hid ((w2.alloc (.cells #[.string x.now] 9)).heap.size = w2.heap.size + 1) := by show _ = _; simp
      generalize (w2.alloc (.cells #[.string x.now] 9)) = W at cW0 cW1 hlW HBW HRW HM2A HZW ⊢
      refine wp_region_still_tail 7 (by kernel_rfl) (by kernel_rfl) ?_
      simp only [List.take_succ_cons, List.take_zero, List.drop_succ_cons, List.drop_zero]
      repeat still_step
      refine wpStill_nil ?_
      go_wp2_with (at_mapUpdate; refine wpList_storeV _ rfl _ _ _ 48 rfl 9 47 Tryz.underlying9 Tryz.underlying48 bf d.fs.length _ rfl HM2A.out (by unfold maxLen; omega) f rfl Hf.out (.agg #[.string x.now, .pointer (some ⟨w2.heap.size, 0, none⟩)]) rfl ?_)
      intro w4 hM4 hg4
      replace hg4 : W.grownBy w4 (some bf) := ⟨hg4.os, hg4.tape, hg4.output, hg4.size, hg4.block⟩
      have HX : Hid (RStep w a bf G { usedD d with fs := fput d.fs f ⟨x.now, some x.now⟩ } w4) := by
        refine ref_end HD.out HT2.out Hblt.out HBW.out hg4 (G' := w2.heap.size :: G) (Hn.out.put _ _) hM4 (HRW.out.more (fun k hk => List.mem_cons_of_mem _ hk) |>.put ⟨w2.heap.size, rfl, List.mem_cons_self, ?_⟩) (fun k hk => ?_)
        · exact cW1
        · rcases List.mem_cons.1 hk with rfl | hk
          · exact Or.inr ⟨Nat.le_refl _, by rw [HZW.out]; omega⟩
          · exact Or.inl hk
      clear hM4 hg4
      go_wp2_with fail
      go_ret
      rw [HR.out]
      exact ⟨rfl, HX.out⟩

theorem rremove_calls (w : World) (a bf : Nat) (G : List Nat) (d : DiskD) (f t : ByteArray) (h : RDisk w a bf G d) (hn : NodupK d.fs) (hl : d.fs.length < 1000000) (hleft : -1 ≤ d.left ∧ d.left ≤ 9223372036854775807) (hf : f.size ≤ maxLen) (ht : t.size ≤ maxLen) :
    Calls Tryz.prog 10 #[.pointer (some ⟨a, 0, none⟩), .int .i64 2, .string f, .string t] w (OpS w a bf G (removeD d f)) := by
  have hU : True := (fun _ => trivial) hl
  clear hU
  obtain ⟨m, hM, hRM⟩ := h.map
  obtain ⟨c0, -, -⟩ := h.cells
  have hlt := h.alt
  have HP := Lib.hid h
  have HM := Lib.hid hM
  have HRM := Lib.hid hRM
  have Hf := Lib.hid hf
  have Ht := Lib.hid ht
  have Hn := Lib.hid hn
  have Hblt := Lib.hid hM.lt
  have HNT := Lib.hid trivial
  have POW : Hid (∀ c, Calls Tryz.prog 32 #[.pointer (some ⟨a, 0, none⟩)] (w.alloc (.cells c 47)) (PowerR (w.alloc (.cells c 47)) a bf G d)) := fun c => power_calls _ a bf G d (HP.out.alloc _) hleft
  clear h hM hRM hf ht hn
  cases hx : fget d.fs f with
  | none =>
    have HR : Hid (removeD d f = (7, d)) := by show _ = _; unfold removeD; rw [hx]
    have hm := (HRM.out f).1 hx
    have hg : gotV m (.agg #[.string ⟨#[]⟩, .pointer none]) f = .agg #[.string ⟨#[]⟩, .pointer none] := by unfold gotV; rw [hm]; rfl
    have hs : (m f).isSome = false := by rw [hm]; rfl
    have HG := Lib.hid (And.intro hg hs)
    have HX : Hid (∀ c, RStep w a bf G d (w.alloc (.cells c 47))) := fun c => rstep_same HP.out ((Below.refl _ _).alloc (Nat.le_refl _) _)
    clear hx hm hg hs POW
    go_enter Tryz.func10, Tryz.ntmps10
    go_wp2_with (at_lookup; refine wpList_lookV_ok _ rfl _ _ 48 rfl 9 47 Tryz.underlying9 Tryz.underlying48 (.agg #[.string ⟨#[]⟩, .pointer none]) (zeroState _) bf d.fs.length _ rfl HM.out f rfl Hf.out (.agg #[.string ⟨#[]⟩, .pointer none]) false HG.out.1 HG.out.2 ?_)
    go_ret
    rw [HR.out]
    exact ⟨rfl, HX.out _⟩
  | some x =>
    obtain ⟨pv, hm, hsp⟩ := (HRM.out f).2 x hx
    obtain ⟨P, rfl⟩ := hsp.ptr
    have hg : gotV m (.agg #[.string ⟨#[]⟩, .pointer none]) f = .agg #[.string x.now, .pointer P] := by unfold gotV; rw [hm]; rfl
    have hs : (m f).isSome = true := by rw [hm]; rfl
    have HG := Lib.hid (And.intro hg hs)
    have HSP := Lib.hid hsp
    have HRX : Hid (removeD d f = if d.left = 0 then (14, d) else (0, { usedD d with fs := fdel d.fs f })) := by show _ = _; unfold removeD; rw [hx]
    have HX : Hid (∀ c, RStep w a bf G d (w.alloc (.cells c 47))) := fun c => rstep_same HP.out ((Below.refl _ _).alloc (Nat.le_refl _) _)
    clear hx hm hg hs hsp
    go_enter Tryz.func10, Tryz.ntmps10
    go_wp2_with (at_lookup; refine wpList_lookV_ok _ rfl _ _ 48 rfl 9 47 Tryz.underlying9 Tryz.underlying48 (.agg #[.string ⟨#[]⟩, .pointer none]) (zeroState _) bf d.fs.length _ rfl HM.out f rfl Hf.out (.agg #[.string x.now, .pointer P]) true HG.out.1 HG.out.2 ?_)
    refine (POW.out _).mono ?_
    rintro e1 w2 (⟨h0, rfl, rfl⟩ | ⟨h0, rfl, hD, hT2, hk2, hz2⟩)
    · have HR : Hid (removeD d f = (14, d)) := by show _ = _; rw [HRX.out, if_pos h0]
      clear h0 HRX POW
      go_wp2_with fail
      go_ret
      rw [HR.out]
      exact ⟨rfl, HX.out _⟩
    · have HR : Hid (removeD d f = (0, { usedD d with fs := fdel d.fs f })) := by show _ = _; rw [HRX.out, if_neg h0]
      have HD := Lib.hid hD
      have HT2 : Hid (Turn [a] w w2) := (Turn.refl [a] w).alloc _ |>.trans hT2 (fun x hx => Or.inl hx)
      have hz3 : w.heap.size < w2.heap.size := by rw [hz2]; simp
      have HM2 : Hid (MapV Tryz.prog 9 w2 bf d.fs.length m) := HM.out.keep ((hk2 bf HP.out.ne).trans (Below.heap_alloc _ _ _ Hblt.out))
      have hkG : ∀ k ∈ G, w2.heap[k]? = w.heap[k]? := fun k hk => (hk2 k (HP.out.lt k hk).2.1).trans (Below.heap_alloc _ _ _ (HP.out.lt k hk).1)
      have HRM2 : Hid (RMap w2 G m d.fs) := HRM.out.keep hkG
      have HSP2 : Hid (SafeP w2 G x.safe (.pointer P)) := HSP.out.keep hkG
      have HGL2 : Hid (∀ k ∈ G, k < w2.heap.size) := fun k hk => (HD.out.lt k hk).1
      have HXC : Hid (∀ w' : World, (∀ k, k < w2.heap.size → k ≠ bf → w'.heap[k]? = w2.heap[k]?) → w'.cell? ⟨w.heap.size, 0, none⟩ = some (.string x.now) ∧ w'.cell? ⟨w.heap.size, 1, none⟩ = some (.pointer P)) := by
        intro w' hk'
        have h1 : w'.heap[w.heap.size]? = some (.cells #[.string x.now, .pointer P] 47) := (hk' _ hz3 (Nat.ne_of_gt Hblt.out)).trans ((hk2 _ (Nat.ne_of_gt hlt)).trans (Go.MapKept.heap_alloc _ _).1)
        constructor <;> simp [World.cell?, h1]
      obtain ⟨x0, x1⟩ := HXC.out w2 (fun _ _ _ => rfl)
      have c0 := hD.cells.1
      have hlt2 := hD.alt
      have HM2A : Hid (MapV Tryz.prog 9 (w2.alloc (.cells #[.string x.now] 9)) bf d.fs.length m) := HM2.out.keep (Below.heap_alloc _ _ _ HM2.out.lt)
      clear h0 HRX POW hD hT2 hk2 hz2 hkG
      go_wp2_with (at_delete; (refine wpList_delV _ rfl _ _ 48 9 rfl 47 Tryz.underlying9 Tryz.underlying48 bf d.fs.length _ rfl HM2.out f rfl Hf.out ?_))
      intro w4 hM4 hg4
      have HX : Hid (RStep w a bf G { usedD d with fs := fdel d.fs f } w4) :=
        ref_end HD.out HT2.out Hblt.out (Below.refl _ _) hg4 (G' := G) (Hn.out.del _) hM4 (HRM2.out.del f) (fun k hk => Or.inl hk)
      clear hM4 hg4
      go_wp2_with fail
      go_ret
      rw [HR.out]
      exact ⟨rfl, HX.out⟩

theorem rmoveGood_calls (w : World) (a bf : Nat) (G : List Nat) (d : DiskD) (f t : ByteArray) (h : RDisk w a bf G d) (hn : NodupK d.fs) (hl : d.fs.length < 1000000) (hleft : -1 ≤ d.left ∧ d.left ≤ 9223372036854775807) (hf : f.size ≤ maxLen) (ht : t.size ≤ maxLen) (hnt : nameB t = true) :
    Calls Tryz.prog 10 #[.pointer (some ⟨a, 0, none⟩), .int .i64 1, .string f, .string t] w (OpS w a bf G (moveD d f t)) := by
  have hU : True := (fun _ => trivial) hl
  clear hU
  obtain ⟨m, hM, hRM⟩ := h.map
  obtain ⟨c0, -, -⟩ := h.cells
  have hlt := h.alt
  have HP := Lib.hid h
  have HM := Lib.hid hM
  have HRM := Lib.hid hRM
  have Hf := Lib.hid hf
  have Ht := Lib.hid ht
  have Hn := Lib.hid hn
  have Hblt := Lib.hid hM.lt
  have HNT := Lib.hid hnt
  have POW : Hid (∀ c, Calls Tryz.prog 32 #[.pointer (some ⟨a, 0, none⟩)] (w.alloc (.cells c 47)) (PowerR (w.alloc (.cells c 47)) a bf G d)) := fun c => power_calls _ a bf G d (HP.out.alloc _) hleft
  clear h hM hRM hf ht hn hnt
  cases hx : fget d.fs f with
  | none =>
    have HR : Hid (moveD d f t = (7, d)) := by show _ = _; unfold moveD; rw [if_neg (by rw [HNT.out]; decide)]; rw [hx]
    have hm := (HRM.out f).1 hx
    have hg : gotV m (.agg #[.string ⟨#[]⟩, .pointer none]) f = .agg #[.string ⟨#[]⟩, .pointer none] := by unfold gotV; rw [hm]; rfl
    have hs : (m f).isSome = false := by rw [hm]; rfl
    have HG := Lib.hid (And.intro hg hs)
    have HX : Hid (∀ c, RStep w a bf G d (w.alloc (.cells c 47))) := fun c => rstep_same HP.out ((Below.refl _ _).alloc (Nat.le_refl _) _)
    clear hx hm hg hs POW
    go_enter Tryz.func10, Tryz.ntmps10
    go_wp2_with (at_lookup; refine wpList_lookV_ok _ rfl _ _ 48 rfl 9 47 Tryz.underlying9 Tryz.underlying48 (.agg #[.string ⟨#[]⟩, .pointer none]) (zeroState _) bf d.fs.length _ rfl HM.out f rfl Hf.out (.agg #[.string ⟨#[]⟩, .pointer none]) false HG.out.1 HG.out.2 ?_)
    refine (inName_calls t _).mono ?_
    rintro e0 w0 ⟨rfl, rfl⟩
    rw [HNT.out]
    go_wp2_with fail
    go_ret
    rw [HR.out]
    exact ⟨rfl, HX.out _⟩
  | some x =>
    obtain ⟨pv, hm, hsp⟩ := (HRM.out f).2 x hx
    obtain ⟨P, rfl⟩ := hsp.ptr
    have hg : gotV m (.agg #[.string ⟨#[]⟩, .pointer none]) f = .agg #[.string x.now, .pointer P] := by unfold gotV; rw [hm]; rfl
    have hs : (m f).isSome = true := by rw [hm]; rfl
    have HG := Lib.hid (And.intro hg hs)
    have HSP := Lib.hid hsp
    have HRX : Hid (moveD d f t = if d.left = 0 then (14, d) else (0, { usedD d with fs := fput (fdel d.fs f) t x })) := by show _ = _; unfold moveD; rw [if_neg (by rw [HNT.out]; decide)]; rw [hx]
    have HX : Hid (∀ c, RStep w a bf G d (w.alloc (.cells c 47))) := fun c => rstep_same HP.out ((Below.refl _ _).alloc (Nat.le_refl _) _)
    clear hx hm hg hs hsp
    go_enter Tryz.func10, Tryz.ntmps10
    go_wp2_with (at_lookup; refine wpList_lookV_ok _ rfl _ _ 48 rfl 9 47 Tryz.underlying9 Tryz.underlying48 (.agg #[.string ⟨#[]⟩, .pointer none]) (zeroState _) bf d.fs.length _ rfl HM.out f rfl Hf.out (.agg #[.string x.now, .pointer P]) true HG.out.1 HG.out.2 ?_)
    refine (inName_calls t _).mono ?_
    rintro e0 w0 ⟨rfl, rfl⟩
    rw [HNT.out]
    go_wp2_with fail
    refine (POW.out _).mono ?_
    rintro e1 w2 (⟨h0, rfl, rfl⟩ | ⟨h0, rfl, hD, hT2, hk2, hz2⟩)
    · have HR : Hid (moveD d f t = (14, d)) := by show _ = _; rw [HRX.out, if_pos h0]
      clear h0 HRX POW
      go_wp2_with fail
      go_ret
      rw [HR.out]
      exact ⟨rfl, HX.out _⟩
    · have HR : Hid (moveD d f t = (0, { usedD d with fs := fput (fdel d.fs f) t x })) := by show _ = _; rw [HRX.out, if_neg h0]
      have HD := Lib.hid hD
      have HT2 : Hid (Turn [a] w w2) := (Turn.refl [a] w).alloc _ |>.trans hT2 (fun x hx => Or.inl hx)
      have hz3 : w.heap.size < w2.heap.size := by rw [hz2]; simp
      have HM2 : Hid (MapV Tryz.prog 9 w2 bf d.fs.length m) := HM.out.keep ((hk2 bf HP.out.ne).trans (Below.heap_alloc _ _ _ Hblt.out))
      have hkG : ∀ k ∈ G, w2.heap[k]? = w.heap[k]? := fun k hk => (hk2 k (HP.out.lt k hk).2.1).trans (Below.heap_alloc _ _ _ (HP.out.lt k hk).1)
      have HRM2 : Hid (RMap w2 G m d.fs) := HRM.out.keep hkG
      have HSP2 : Hid (SafeP w2 G x.safe (.pointer P)) := HSP.out.keep hkG
      have HGL2 : Hid (∀ k ∈ G, k < w2.heap.size) := fun k hk => (HD.out.lt k hk).1
      have HXC : Hid (∀ w' : World, (∀ k, k < w2.heap.size → k ≠ bf → w'.heap[k]? = w2.heap[k]?) → w'.cell? ⟨w.heap.size, 0, none⟩ = some (.string x.now) ∧ w'.cell? ⟨w.heap.size, 1, none⟩ = some (.pointer P)) := by
        intro w' hk'
        have h1 : w'.heap[w.heap.size]? = some (.cells #[.string x.now, .pointer P] 47) := (hk' _ hz3 (Nat.ne_of_gt Hblt.out)).trans ((hk2 _ (Nat.ne_of_gt hlt)).trans (Go.MapKept.heap_alloc _ _).1)
        constructor <;> simp [World.cell?, h1]
      obtain ⟨x0, x1⟩ := HXC.out w2 (fun _ _ _ => rfl)
      have c0 := hD.cells.1
      have hlt2 := hD.alt
      have HM2A : Hid (MapV Tryz.prog 9 (w2.alloc (.cells #[.string x.now] 9)) bf d.fs.length m) := HM2.out.keep (Below.heap_alloc _ _ _ HM2.out.lt)
      clear h0 HRX POW hD hT2 hk2 hz2 hkG
      go_wp2_with (at_delete; (refine wpList_delV _ rfl _ _ 48 9 rfl 47 Tryz.underlying9 Tryz.underlying48 bf d.fs.length _ rfl HM2.out f rfl Hf.out ?_))
      intro w3 hM3 hg3
      have HM3 := Lib.hid hM3
      have Hg3 := Lib.hid hg3
      obtain ⟨e0, e1⟩ := HXC.out w3 (fun k h1 h2 => hg3.block k h1 (fun e => by injection e with e; exact h2 e))
      have c3 : w3.cell? ⟨a, 0, none⟩ = some (.map (some bf)) := (World.cell?_of_block (a := ⟨a, 0, none⟩) (hg3.block a HD.out.alt (fun e => by injection e with e; exact HD.out.ne e.symm))).trans HD.out.cells.1
      have hl3 : a < w3.heap.size := Nat.lt_of_lt_of_le HD.out.alt hg3.size
      clear hM3 hg3 c0 x0 x1
      go_wp2_with fail
      refine wp_region_still_tail 6 (by kernel_rfl) (by kernel_rfl) ?_
      simp only [List.take_succ_cons, List.take_zero, List.drop_succ_cons, List.drop_zero]
      repeat still_step
      refine wpStill_nil ?_
      go_wp2_with (at_mapUpdate; refine wpList_storeV _ rfl _ _ _ 48 rfl 9 47 Tryz.underlying9 Tryz.underlying48 bf d.fs.length _ rfl HM3.out (by unfold maxLen; omega) t rfl Ht.out (.agg #[.string x.now, .pointer P]) rfl ?_)
      intro w4 hM4 hg4
      replace hg4 : w3.grownBy w4 (some bf) := ⟨hg4.os, hg4.tape, hg4.output, hg4.size, hg4.block⟩
      have HX : Hid (RStep w a bf G { usedD d with fs := fput (fdel d.fs f) t x } w4) :=
        ref_end HD.out HT2.out Hblt.out (Below.refl _ _) (Hg3.out.andThen hg4 (fun j e => Or.inr (by rw [e]))) (G' := G) ((Hn.out.del _).put _ _) hM4 ((HRM2.out.del f).put HSP2.out) (fun k hk => Or.inl hk)
      clear hM4 hg4
      go_wp2_with fail
      go_ret
      rw [HR.out]
      exact ⟨rfl, HX.out⟩
end Go.Proofs.YtodmnogoacghpaaGreatDoor
