/- The document's Start: what the loop carries (pure). · The document's Start. · The document's Names. -/
import Derived.Test.YtodmnogoacghpaaGreatDoorM18
import Derived.Maps.AppendAt
import Derived.Sort.OwnSorted
import Derived.Test.YtodmnogoacghpaaGreatDoorM02
namespace Go.Proofs.YtodmnogoacghpaaGreatDoor
open Go.RowKit Go.Maps
set_option maxRecDepth 100000
set_option maxHeartbeats 4000000
theorem app_nil {a b : ByteArray} (h : b.size = 0) : a ++ b = a := by
  have e : b = ByteArray.empty := ByteArray.size_eq_zero_iff.1 h
  rw [e, ByteArray.append_empty]
/-- What a start has made of the files that the loop has met. -/
def partV (keeps : Int) (fs : FS) (left : ByteArray → Bool) (z : ByteArray) : Option ByteArray := if left z then none else (fget fs z).bind (startF keeps)
def RPart (w : World) (G : List Nat) (keeps : Int) (fs : FS) (left : ByteArray → Bool) (m : MapF) : Prop :=
  ∀ z, (partV keeps fs left z = none → m z = none) ∧ ∀ t, partV keeps fs left z = some t → ∃ pv, m z = some (stateV ⟨t, some t⟩ pv) ∧ SafeP w G (some t) pv
theorem RPart.keep {w w' : World} {G : List Nat} {keeps : Int} {fs : FS} {left : ByteArray → Bool} {m : MapF} (h : RPart w G keeps fs left m) (hk : ∀ k ∈ G, w'.heap[k]? = w.heap[k]?) : RPart w' G keeps fs left m := fun z =>
  ⟨(h z).1, fun t ht => by obtain ⟨pv, h1, h2⟩ := (h z).2 t ht; exact ⟨pv, h1, h2.keep hk⟩⟩
theorem RPart.start {w : World} {keeps : Int} {fs : FS} {left : ByteArray → Bool} (hl : ∀ z, left z = (fget fs z).isSome) : RPart w [] keeps fs left (fun _ => none) := fun z => by
  have : partV keeps fs left z = none := by
    unfold partV
    rw [hl z]
    cases fget fs z <;> simp
  exact ⟨fun _ => rfl, fun t ht => by rw [this] at ht; cases ht⟩
theorem RPart.done {w : World} {G : List Nat} {keeps : Int} {fs : FS} {left : ByteArray → Bool} {m : MapF} (h : RPart w G keeps fs left m) (hn : NodupK fs) (hl : ∀ z, left z = false) : RMap w G m (startFs keeps fs) := fun z => by
  have e : partV keeps fs left z = (fget fs z).bind (startF keeps) := by unfold partV; rw [hl z]; rfl
  rw [startFs_get keeps hn]
  obtain ⟨h1, h2⟩ := h z
  rw [e] at h1 h2
  cases hx : fget fs z with
  | none =>
    rw [hx] at h1
    exact ⟨fun _ => h1 rfl, fun y hy => (by cases hy)⟩
  | some x =>
    rw [hx] at h1 h2
    cases hs : startF keeps x with
    | none => exact ⟨fun _ => h1 hs, fun y hy => (by simp [hs] at hy)⟩
    | some t =>
      refine ⟨fun hy => (by simp [hs] at hy), fun y hy => ?_⟩
      simp [hs] at hy
      subst hy
      exact h2 t hs
theorem RPart.skip {w : World} {G : List Nat} {keeps : Int} {fs : FS} {left : ByteArray → Bool} {m : MapF} (h : RPart w G keeps fs left m) {s : ByteArray} {x : FileD} (hl : left s = true) (hx : fget fs s = some x) (hs : startF keeps x = none) : RPart w G keeps fs (tookL left s) m := fun z => by
  have e : partV keeps fs (tookL left s) z = partV keeps fs left z := by
    unfold partV tookL
    by_cases e : z = s
    · subst e; simp [hl, hx, hs]
    · simp [e]
  rw [e]
  exact h z
theorem RPart.put {w : World} {G G' : List Nat} {keeps : Int} {fs : FS} {left : ByteArray → Bool} {m : MapF} (h : RPart w G keeps fs left m) (hG : ∀ k ∈ G, k ∈ G') {s t : ByteArray} {x : FileD} (hx : fget fs s = some x) (hs : startF keeps x = some t) {pv : Value} (hp : SafeP w G' (some t) pv) : RPart w G' keeps fs (tookL left s) (putM m s (some (stateV ⟨t, some t⟩ pv))) := fun z => by
  by_cases e : z = s
  · subst e
    have e1 : partV keeps fs (tookL left z) z = some t := by unfold partV tookL; simp [hx, hs]
    rw [e1, putM_same]
    exact ⟨fun h => (by cases h), fun t' ht => by injection ht with ht; subst ht; exact ⟨pv, rfl, hp⟩⟩
  · have e1 : partV keeps fs (tookL left s) z = partV keeps fs left z := by unfold partV tookL; simp [e]
    rw [e1, putM_ne _ _ e]
    exact ⟨(h z).1, fun t' ht => by obtain ⟨pv, h1, h2⟩ := (h z).2 t' ht; exact ⟨pv, h1, h2.more hG⟩⟩
end Go.Proofs.YtodmnogoacghpaaGreatDoor
namespace Go.Proofs.YtodmnogoacghpaaGreatDoor
open Go.RowKit Go.Maps
set_option maxRecDepth 100000
set_option maxHeartbeats 4000000

theorem start_ref_end {w w2 : World} {a bf : Nat} {G G2 : List Nat} {d : DiskD} {keeps : Int} {n : Nat} {mm : MapF} (H : RDisk w a bf G d) (hn : NodupK d.fs) (hb : Below w.heap.size w w2) (hM : MapV Tryz.prog 9 w2 w.heap.size n mm) (hR : RMap w2 G2 mm (startFs keeps d.fs)) (hG : ∀ j ∈ G2, w.heap.size + 1 < j ∧ j < w2.heap.size) : RStep w a bf G (startD d keeps) ((w2.setCell ⟨a, 0, none⟩ (.map (some w.heap.size))).setCell ⟨a, 1, none⟩ (.int .i64 (-1))) := by
  have hlt := H.alt
  have hk : ∀ k, k ≠ a → ((w2.setCell ⟨a, 0, none⟩ (.map (some w.heap.size))).setCell ⟨a, 1, none⟩ (.int .i64 (-1))).heap[k]? = w2.heap[k]? := fun k hk => (heapSet_ne _ a 1 _ hk).trans (heapSet_ne _ a 0 _ hk)
  have g0 := heapSet_same w2 a 0 (.map (some w.heap.size)) ((hb.block a hlt).trans H.blk)
  have g1 := heapSet_same _ a 1 (.int .i64 (-1)) g0
  have hz : ((w2.setCell ⟨a, 0, none⟩ (.map (some w.heap.size))).setCell ⟨a, 1, none⟩ (.int .i64 (-1))).heap.size = w2.heap.size := by simp [World.setCell]
  have hR2 := hR.keep (w' := ((w2.setCell ⟨a, 0, none⟩ (.map (some w.heap.size))).setCell ⟨a, 1, none⟩ (.int .i64 (-1)))) (fun k hk' => hk k (by have := hG k hk'; omega))
  refine ⟨w.heap.size, G2, ⟨g1, by omega, fun k hk' => by rw [hz]; have := hG k hk'; exact ⟨this.2, by omega, by omega⟩, mm, (hM.keep (hk _ (by omega))).fit Tryz.underlying9 (hR2.keys (startFs_nodup keeps hn)) (by rw [List.length_map]; exact Nat.le_refl _), hR2⟩, Or.inr (Nat.le_refl _), fun k hk' => Or.inr (by have := hG k hk'; omega), ((Turn.of_below hb).setCell (Or.inl (by simp)) _).setCell (Or.inl (by simp)) _⟩
theorem gen_world {P : Program} {c : Code} {Q : Exit → Act → World → Prop} {a : Act} {W : World} (h : ∀ W', W' = W → c.wp P Q a W') : c.wp P Q a W := h _ rfl
theorem grown_of_below {w1 W : World} (hb : Below w1.heap.size w1 W) : w1.grownBy W none := ⟨hb.os, hb.tape, hb.output, hb.size, fun k hk _ => hb.block k hk⟩

end Go.Proofs.YtodmnogoacghpaaGreatDoor
namespace Go.Proofs.YtodmnogoacghpaaGreatDoor
open Go.RowKit Go.Maps Go.Sort Go.Shelf
set_option maxRecDepth 100000
set_option maxHeartbeats 4000000

theorem info_str2 : ∃ i, Tryz.prog.info? 9 = some i ∧ i.zero = some (.string ⟨#[]⟩) ∧ i.size = 1 ∧ i.bytes = 16 := by
  refine ⟨_, rfl, ?_, ?_, ?_⟩ <;> kernel_rfl
theorem sortStr_calls (w : World) (base : Nat) (v : Value) (acc : List ByteArray) (hO : w.ownsRow base 9 1 v acc.length (acc.map Value.string)) (hl : acc.length ≤ 1000000) (hsz : ∀ z ∈ acc, z.size ≤ maxLen) (hbase : base ≤ w.heap.size) :
    Calls Tryz.prog 38 #[v] w fun e w' => e = .returned (.tuple #[]) ∧ Strs w' v (sortB acc) ∧ Below base w w' := by
  obtain ⟨ss, hss⟩ : ∃ ss, acc.map (fun s => s.data.toList) = ss := ⟨_, rfl⟩
  have e1 : acc.map Value.string = ss.map encStr := by
    rw [← hss, List.map_map]
    refine List.map_congr_left fun s _ => ?_
    simp [encStr]
  have e2 : ss.length = acc.length := by rw [← hss, List.length_map]
  have e3 : sortB acc = (ss.mergeSort fun x y => decide (x ≤ y)).map toBA := by unfold sortB; rw [hss]
  rw [e1, ← e2] at hO
  rcases hO.2 with ⟨rfl, h0⟩ | ⟨g, cap, cur, rfl, hb0, hb, h1, h2, h3, h4⟩
  · refine (Tryz.sort_Strings_none none 0 w).mono ?_
    rintro e w' ⟨rfl, rfl⟩
    have : ss = [] := List.length_eq_zero_iff.1 h0
    refine ⟨rfl, ?_, Below.refl _ _⟩
    rw [e3, this, show (([] : List (List UInt8)).mergeSort fun x y => decide (x ≤ y)).map toBA = [] by simp]
    exact ⟨Sl.nil _ _ _, fun s hs => by cases hs⟩
  · refine (Tryz.sort_Strings g 0 cap ss w (holds_of_block hb (by simpa using h4)) (Array.getElem?_eq_some_iff.1 hb).1 (by omega)).mono ?_
    rintro e w' ⟨rfl, n, os, rfl⟩
    refine ⟨rfl, ?_, (Below.refl _ _).grown (grownBy_sorted _) hbase (fun k e => by injection e with e; omega)⟩
    rw [e3]
    have hrow := ownsRow_sorted (n := n) (os := os) (ts := ss.mergeSort fun x y => decide (x ≤ y)) (by simp) hb0 hb h1 h2 h3
    rw [show ss.length = (ss.mergeSort fun x y => decide (x ≤ y)).length by simp] at hrow
    have hst := strs_sorted hrow (fun x hx => by
      have hx' := (List.mergeSort_perm _ _).mem_iff.1 hx
      rw [← hss] at hx'
      obtain ⟨y, hy, rfl⟩ := List.mem_map.1 hx'
      exact hsz y hy)
    simpa using hst
theorem names_calls (w : World) (a bf : Nat) (G : List Nat) (d : DiskD) (h : RDisk w a bf G d) (hn : NodupK d.fs) (hl : d.fs.length ≤ 1000000) :
    Calls Tryz.prog 17 #[.pointer (some ⟨a, 0, none⟩)] w fun e w' => ∃ v, e = .returned v ∧ Strs w' v (sortB (d.fs.map (·.1))) ∧ Below w.heap.size w w' := by
  obtain ⟨m, hM, hRM⟩ := h.map
  have c0 := h.cells.1
  have hlt := h.alt
  have HP := Lib.hid h
  have HM := Lib.hid hM
  have HRM := Lib.hid hRM
  have Hn := Lib.hid hn
  have hbl := hM.lt
  have HMK : Hid (∀ s v, m s = some v → ∃ c : ByteArray × Option Addr, v = .agg #[.string c.1, .pointer c.2]) := by
    intro z v hv
    cases hx : fget d.fs z with
    | none => rw [(hRM z).1 hx] at hv; cases hv
    | some x =>
      obtain ⟨pv, h1, h2⟩ := (hRM z).2 x hx
      obtain ⟨P, rfl⟩ := h2.ptr
      rw [h1] at hv
      injection hv with hv
      exact ⟨(x.now, P), hv.symm⟩
  have HALL : Hid (sumT (fun _ => 1) d.fs (fun s => (m s).isSome) = d.fs.length) := by
    show _ = _
    rw [sumT_all (fun p hp => by show (m p.1).isSome = true; rw [hRM.some]; exact fget_isSome hp)]
    exact sum_ones d.fs
  obtain ⟨i0, hi0, hz0, hz1, hz2⟩ := info_str2
  have Hi0 := Lib.hid (And.intro hi0 (And.intro hz0 (And.intro hz1 hz2)))
  clear h hM hRM hn hi0 hz0 hz1 hz2
  go_enter Tryz.func17, Tryz.ntmps17
  go_wp2_with (at_range; refine wpList_rangeV _ rfl _ 48 rfl 9 47 Tryz.underlying9 Tryz.underlying48 bf d.fs.length _ rfl HM.out ?_; intro w0 cnt0 hrg0 hg0 hs0)
  have Hrg0 := Lib.hid hrg0
  have HB0 : Hid (Below w.heap.size w w0) := (Below.refl w.heap.size w).grown hg0 (Nat.le_refl _) (fun k e => by cases e)
  have Hs0 := Lib.hid hs0
  clear hrg0 hg0 hs0
  go_frame
  go_loopg [3] cnt0 (fun k v3 wr => ∃ (left : ByteArray → Bool) (acc : List ByteArray) (outv : Value), outv = v3 ∧ RangeV Tryz.prog 9 wr bf w.heap.size d.fs.length m left k ∧ wr.ownsRow (w.heap.size + 1) 9 1 outv acc.length (acc.map Value.string) ∧ acc.Nodup ∧ (∀ z, z ∈ acc ↔ ((m z).isSome = true ∧ left z = false)) ∧ (∀ z ∈ acc, z.size ≤ maxLen) ∧ acc.length + sumT (fun _ => 1) d.fs left = d.fs.length ∧ Below w.heap.size w wr)
  case atStart => exact ⟨_, [], _, rfl, Hrg0.out, World.ownsRow_nil _ _ _ _, List.nodup_nil, fun z => ⟨fun h => (by cases h), fun h => (by have h1 := h.1; have h2 := h.2; rw [h1] at h2; cases h2)⟩, fun z hz => (by cases hz), by rw [HALL.out]; simp, HB0.out⟩
  case round =>
    obtain ⟨left, acc, outv, rfl, hrg, hO, hnd, hmem, hsz, hsum, hB⟩ := hrel
    have Hrg := Lib.hid hrg
    have HO := Lib.hid hO
    have Hnd := Lib.hid hnd
    have Hmem := Lib.hid hmem
    have Hsz := Lib.hid hsz
    have Hsum := Lib.hid hsum
    have HBR := Lib.hid hB
    have hnl : acc.length ≤ d.fs.length := by omega
    clear hrg hO hnd hmem hsz hsum hB
    go_wp2_with (at_next; refine wpList_nextV _ (fun c : ByteArray × Option Addr => .agg #[.string c.1, .pointer c.2]) rfl _ rfl 9 Tryz.underlying9 bf w.heap.size d.fs.length m HMK.out left gk rfl Hrg.out ?_ ?_)
    · intro hl0
      have HK : Hid (KeysM m acc) := ⟨Hnd.out, fun y => by rw [Hmem.out y]; simp [hl0]⟩
      have HPM : Hid (sortB acc = sortB (d.fs.map (·.1))) := sortB_perm (HK.out.perm (HRM.out.keys Hn.out))
      have hz := Hrg.out.lt
      have SO := Lib.hid (sortStr_calls wr (w.heap.size + 1) outv acc HO.out (by omega) Hsz.out hz)
      clear hz
      go_wp2_with fail
      refine SO.out.mono ?_
      rintro e9 w9 ⟨rfl, hst9, hb9⟩
      have HS9 := Lib.hid hst9
      have HB9 := Lib.hid (HBR.out.trans (hb9.mono (Nat.le_succ _)))
      clear hst9 hb9
      go_wp2_with fail
      go_ret
      exact ⟨_, rfl, by rw [← HPM.out]; exact HS9.out, HB9.out⟩
    · intro z c1 cp w1 cnt1 hs hls hfs hrg1 hlt1 hg1 hz1 hen
      obtain ⟨x, hx⟩ : ∃ x, fget d.fs z = some x := by
        cases hx : fget d.fs z with
        | none => rw [(HRM.out z).1 hx] at hfs; cases hfs
        | some x => exact ⟨x, rfl⟩
      have hst := sumT_step (g := fun _ : ByteArray × FileD => 1) Hn.out hx hls
      have hsm := Hsum.out
      rw [hst] at hsm
      have HS1 : Hid (acc.length + 1 + sumT (fun _ => 1) d.fs (tookL left z) = d.fs.length) := by show _ = _; omega
      have hna : acc.length + 1 ≤ d.fs.length := by omega
      have HB1 := Lib.hid (HBR.out.grown hg1 HBR.out.size (fun k e => by injection e with e; omega))
      have Hrg1 := Lib.hid hrg1
      have hws : w.heap.size + 1 ≤ w1.heap.size := by rw [hz1]; exact Hrg.out.lt
      have HO1 := Lib.hid (HO.out.kept hg1 (Or.inr (fun e => by have := (HO.out.lt _ e).1; omega)))
      have hzl : z ∉ acc := fun h => by have := ((Hmem.out z).1 h).2; rw [hls] at this; cases this
      have HND : Hid ((acc ++ [z]).Nodup) := by
        show List.Nodup _
        rw [List.nodup_append]
        exact ⟨Hnd.out, by simp, fun a ha b hb => by rw [List.mem_singleton.1 hb]; rintro rfl; exact hzl ha⟩
      have HME : Hid (∀ y, y ∈ acc ++ [z] ↔ ((m y).isSome = true ∧ tookL left z y = false)) := by
        intro y
        rw [List.mem_append, List.mem_singleton, Hmem.out y]
        unfold tookL
        by_cases e : y = z
        · subst e; simp [hfs]
        · simp [e]
      have HSZ : Hid (∀ y ∈ acc ++ [z], y.size ≤ maxLen) := by
        intro y hy
        rcases List.mem_append.1 hy with h | h
        · exact Hsz.out y h
        · rw [List.mem_singleton.1 h]; exact hs
      clear hst hsm hx hfs hrg1 hg1 hls hs hzl hz1
      go_wp2_with (at_builtin; go_loud (refine wpList_append_own_at _ rfl _ _ 52 rfl (w.heap.size + 1) 9 i0 _ 1 16 Tryz.underlying52 Hi0.out.1 Hi0.out.2.1 Hi0.out.2.2.1 Hi0.out.2.2.2 rfl (by decide) outv acc.length (acc.map Value.string) rfl (HO1.out.alloc _) ⟨w1.heap.size, 0, none⟩ 1 1 [.string z] rfl rfl (cell_one_new w1 (.string z) 9) (by simp [Value.oneCell']) (by unfold maxLen; omega) (by omega) (by simp; omega) ?_))
      intro ov9 w9 hown9 hg9 _ hat9
      have HX := Lib.hid hown9
      have HR9 := Lib.hid ((Hrg1.out.kept (World.grownBy_alloc w1 _ none) (by simp) (by simp)).kept hg9 (fun e => by have := (HO1.out.lt _ e.symm).1; omega) (fun e => by have := (HO1.out.lt _ e.symm).1; omega))
      have HB9 := Lib.hid ((HB1.out.alloc HB1.out.size _).grown hg9 (by have := HB1.out.size; simp; omega) (fun k e => by have := (HO1.out.lt k e).1; omega))
      clear hown9 hg9 hat9
      go_wp2_with fail
      go_roundg cnt1
      case rel => exact ⟨tookL left z, acc ++ [z], _, rfl, HR9.out, by simpa using HX.out, HND.out, HME.out, HSZ.out, by rw [List.length_append]; exact HS1.out, HB9.out⟩
      case measure => exact hlt1
end Go.Proofs.YtodmnogoacghpaaGreatDoor
