/- order.Line: all in line. -/
import Derived.Test.YtnfnebfioibndaaGreatDoorM23
import Derived.Test.YtnfnebfioibndaaGreatDoorM17
import Derived.Test.YtnfnebfioibndaaGreatDoorM25
import Derived.Lib.SlBuf
namespace Go.Proofs.YtnfnebfioibndaaGreatDoor
open Go.RowKit
set_option maxRecDepth 100000
set_option maxHeartbeats 4000000

theorem rows2_form {w : World} {v : Value} {xss : List (List Nat)} (h : Rows2 w v xss) : ∃ (a : Option Addr) (cap : Nat) (V : Nat → Value), v = .slice a xss.length cap ∧ xss.length ≤ cap ∧ cap ≤ 9223372036854775807 ∧ (xss.length = 0 ∨ ∃ b o, a = some ⟨b, o, none⟩ ∧ b < w.heap.size ∧ ∀ i, i < xss.length → w.cell? ⟨b, o + i, none⟩ = some (V i)) ∧ ∀ i, i < xss.length → Row w (V i) (ringAt xss i) := by
  obtain ⟨V, ⟨a, cap, rfl, h1, h2, h3⟩, hr⟩ := h
  unfold maxLen at h2
  refine ⟨a, cap, V, rfl, h1, by omega, h3.imp id fun ⟨b, o, e, hb, hc⟩ => ⟨b, o, e, hb, fun i hi => ?_⟩, hr⟩
  have := hc i 0 hi (by decide)
  simpa using this
theorem firstBad_of_fine {n : Int} {l : List EdgeD} {i : Int} (h : ∀ e ∈ l, badE n e = false) : firstBad n l i = (0, -1) := by
  induction l generalizing i with
  | nil => rfl
  | cons e l ih =>
    rw [firstBad, h e (List.mem_cons_self ..)]
    exact ih (fun x hx => h x (List.mem_cons_of_mem _ hx))
theorem right_append {n : Int} {l m : List EdgeD} (h1 : rightR n l = (0, -1)) (h2 : rightR n m = (0, -1)) : rightR n (l ++ m) = (0, -1) := by
  unfold rightR at *
  split at h1
  · simp at h1
  · rename_i hn
    rw [if_neg hn] at h2 ⊢
    refine firstBad_of_fine fun e he => ?_
    rcases List.mem_append.1 he with he | he
    · exact firstBad_fine h1 e he
    · exact firstBad_fine h2 e he
def lineR (n : Int) (weak strong : List EdgeD) : Int × Int := if rightR n weak = (0, -1) then rightR n strong else rightR n weak
def LineE (w : World) (n : Int) (weak strong : List EdgeD) (e : Ending) (w' : World) : Prop :=
  ∃ (lv ev : Value) (xs : List Nat), e = .returned (.tuple #[lv, ev]) ∧ ErrN w' ev (lineR n weak strong) ∧ Row w' lv xs ∧ (lineR n weak strong ≠ (0, -1) → xs = []) ∧ (lineR n weak strong = (0, -1) → ∀ m : Nat, n = m → ∃ rings, InOrder (EdL (weak ++ strong)) m rings ∧ AllTold m rings ∧ xs = linesOf strong rings) ∧ Below w.heap.size w w'

/-- What is left of a ring: a row of its own, behind a variable. -/
structure LeftW (Bl g q c : Nat) (L : List Nat) (wr : World) : Prop where
  box : wr.heap[Bl]? = some (.cells #[.slice (some ⟨g, 0, none⟩) q c] 31)
  len : L.length = q
  qc : q ≤ c ∧ c ≤ 9223372036854775807
  hg : g < wr.heap.size
  cells : ∀ i, i < q → wr.cell? ⟨g, i, none⟩ = some (.int .i64 ((L.getD i 0 : Nat) : Int))
  free : ∀ i, wr.frozen? ⟨g, i, none⟩ = false
  ne : Bl ≠ g
section
variable {Bl g q c : Nat} {L : List Nat} {wr : World}
theorem LeftW.lt (h : LeftW Bl g q c L wr) : Bl < wr.heap.size := lt_of_block h.box
theorem LeftW.keep {w' : World} (h : LeftW Bl g q c L wr) (hs : wr.heap.size ≤ w'.heap.size) (h1 : w'.heap[Bl]? = wr.heap[Bl]?) (h2 : w'.heap[g]? = wr.heap[g]?) : LeftW Bl g q c L w' :=
  ⟨h1.trans h.box, h.len, h.qc, Nat.lt_of_lt_of_le h.hg hs, fun i hi => (World.cell?_of_block (a := ⟨g, i, none⟩) h2).trans (h.cells i hi), fun i => (World.frozen?_of_block (a := ⟨g, i, none⟩) h2).trans (h.free i), h.ne⟩
theorem LeftW.below {w' : World} (h : LeftW Bl g q c L wr) (hb : Below wr.heap.size wr w') : LeftW Bl g q c L w' := h.keep hb.size (hb.block _ h.lt) (hb.block _ h.hg)
theorem LeftW.cell (h : LeftW Bl g q c L wr) : wr.cell? ⟨Bl, 0, none⟩ = some (.slice (some ⟨g, 0, none⟩) q c) := by simp [World.cell?, h.box]
theorem LeftW.row (h : LeftW Bl g q c L wr) : Row wr (.slice (some ⟨g, 0, none⟩) q c) L :=
  ⟨_, c, by rw [h.len], by rw [h.len]; exact h.qc.1, by unfold maxLen; have := h.qc.2; omega, Or.inr ⟨g, 0, rfl, h.hg, fun i j hi hj => by
    obtain rfl : j = 0 := by omega
    rw [Nat.zero_add, Nat.mul_one, Nat.add_zero]
    exact h.cells i (by rw [← h.len]; exact hi)⟩⟩
theorem setCells_block (w : World) (g o : Nat) (vs : List Value) {k : Nat} (hk : k ≠ g) : (w.setCells g o vs).heap[k]? = w.heap[k]? := by
  induction vs generalizing o w with
  | nil => rfl
  | cons v vs ih =>
    show ((w.setCell ⟨g, o, none⟩ v).setCells g (o + 1) vs).heap[k]? = _
    rw [ih, heap_setCell_ne w g o v hk]
theorem setCells_size (w : World) (g o : Nat) (vs : List Value) : (w.setCells g o vs).heap.size = w.heap.size := by
  induction vs generalizing o w with
  | nil => rfl
  | cons v vs ih =>
    show ((w.setCell ⟨g, o, none⟩ v).setCells g (o + 1) vs).heap.size = _
    rw [ih]
    simp [World.setCell]
theorem eraseIdx_cells (L : List Nat) (k : Nat) : (castI L).take k ++ (castI L).drop (k + 1) = castI (L.eraseIdx k) := by
  unfold castI
  rw [← List.map_take, ← List.map_drop, ← List.map_append, List.eraseIdx_eq_take_drop_succ]
theorem LeftW.del (h : LeftW Bl g q c L wr) {k d : Nat} (hk : k < q) {w5 : World} (h5 : w5 = (wr.drewN d).setCells g 0 ((((castI L).take q).take k ++ ((castI L).take q).drop (k + 1) ++ List.replicate (k + 1 - k) 0).map (Value.int .i64))) :
    LeftW Bl g (q - 1) c (L.eraseIdx k) (w5.setCell ⟨Bl, 0, none⟩ (.slice (some ⟨g, 0, none⟩) (q - 1) c)) := by
  have hq : (castI L).take q = castI L := List.take_of_length_le (by rw [castI_len, h.len]; exact Nat.le_refl _)
  rw [hq, eraseIdx_cells] at h5
  have hle : (L.eraseIdx k).length = q - 1 := by rw [List.length_eraseIdx, if_pos (by rw [h.len]; exact hk), h.len]
  have hlen : ((castI (L.eraseIdx k) ++ List.replicate (k + 1 - k) 0).map (Value.int .i64)).length = q := by
    rw [List.length_map, List.length_append, castI_len, hle, List.length_replicate]
    omega
  have hsz : w5.heap.size = wr.heap.size := by rw [h5, setCells_size]; rfl
  have hbl : w5.heap[Bl]? = wr.heap[Bl]? := by rw [h5, setCells_block _ _ _ _ h.ne]; rfl
  have hg : ∀ i, (w5.setCell ⟨Bl, 0, none⟩ (.slice (some ⟨g, 0, none⟩) (q - 1) c)).cell? ⟨g, i, none⟩ = w5.cell? ⟨g, i, none⟩ := fun i => World.cell?_setCell_far _ _ _ _ h.ne
  refine ⟨?_, hle, ⟨by have := h.qc.1; omega, h.qc.2⟩, ?_, fun i hi => ?_, fun i => ?_, h.ne⟩
  · rw [heap_setCell_same w5 Bl 0 _ (hbl.trans h.box)]
    rfl
  · have := h.hg; simp only [World.setCell, Array.size_modify]; omega
  · rw [hg i, h5]
    have hin := World.cell?_setCells_in g ((castI (L.eraseIdx k) ++ List.replicate (k + 1 - k) 0).map (Value.int .i64)) 0 (wr.drewN d) (fun j hj => by
      rw [hlen] at hj
      have : (wr.drewN d).cell? ⟨g, 0 + j, none⟩ = some (.int .i64 ((L.getD j 0 : Nat) : Int)) := by rw [Nat.zero_add]; exact h.cells j hj
      rw [this]
      rfl) i (by rw [hlen]; omega)
    rw [Nat.zero_add] at hin
    rw [hin]
    have h1 : i < (castI (L.eraseIdx k)).length := by rw [castI_len, hle]; exact hi
    have h2 : i < (L.eraseIdx k).length := by rw [hle]; exact hi
    have e1 : ((castI (L.eraseIdx k) ++ List.replicate (k + 1 - k) 0).map (Value.int .i64))[i]'(by rw [hlen]; omega) = .int .i64 (((L.eraseIdx k).getD i 0 : Nat) : Int) := by
      rw [List.getElem_map, List.getElem_append_left h1]
      simp [castI, List.getD, List.getElem?_eq_getElem h2]
    rw [e1]
  · rw [World.frozen?_setCell, h5, World.frozen?_setCells]
    exact h.free i
end

theorem ring_len {E : Nat → Nat → Prop} {n : Nat} {outs : List (List Nat)} (h : InOrder E n outs) {i : Nat} (hi : i < outs.length) : (ringAt outs i).length ≤ n ∧ (ringAt outs i) ≠ [] := by
  have hN := h i (ringAt outs i) (by rw [ringAt_get hi]; exact List.getElem?_eq_getElem hi)
  have hnd : (ringAt outs i).Nodup := hN.ring.sorted.imp (fun h e => by rw [e] at h; omega)
  have := nodup_len hnd (l' := List.range n) (fun a ha => List.mem_range.2 (hN.free a ha).lt)
  rw [List.length_range] at this
  exact ⟨this, hN.ring.ne⟩
theorem lines_step (strong : List EdgeD) (rings : List (List Nat)) {i : Nat} (hi : i < rings.length) : linesOf strong (rings.take (i + 1)) = linesOf strong (rings.take i) ++ lineOf strong (ringAt rings i) := by
  rw [take_snoc' [] hi, linesOf_snoc]
  rfl
theorem pick_idx (strong : List EdgeD) (L : List Nat) : max (idxI (L.findIdx? fun v => !badV strong L v)) 0 = ((pickK strong L : Nat) : Int) := by
  unfold pickK
  cases L.findIdx? fun v => !badV strong L v with
  | none => rfl
  | some k => show max ((k : Nat) : Int) 0 = ((k : Nat) : Int); omega

theorem line_bad1 (v1 v2 : Value) (weak strong : List EdgeD) (n : Int) (w : World) (h1 : Edges w v1 weak) (h2 : Edges w v2 strong) (hr : rightR n weak ≠ (0, -1)) :
    Calls Tryz.prog 49 #[.int .i64 n, v1, v2] w (LineE w n weak strong) := by
  have hb0 : Below w.heap.size w (w.alloc (.cells #[v2] 95)) := (Below.refl _ _).alloc (Nat.le_refl _) _
  have CR := Lib.hid (right_calls v1 weak n (w.alloc (.cells #[v2] 95)) (h1.below hb0 (Nat.le_refl _)))
  have Hr := Lib.hid hr
  have HB0 := Lib.hid hb0
  obtain ⟨sa, sm, sc, hv2⟩ : ∃ a m c, v2 = .slice a m c := by
    obtain ⟨a, c, e, _⟩ := h2
    exact ⟨_, _, _, e⟩
  subst hv2
  clear hr h1 h2 hb0
  go_enter Tryz.func49, Tryz.ntmps49
  go_wp2_with fail
  refine CR.out.mono ?_
  rintro e w1 ⟨ev, rfl, hN, hb⟩
  obtain ⟨t, x, rfl⟩ := hN.bad Hr.out
  have HN := Lib.hid hN
  have Hb := Lib.hid (HB0.out.trans (hb.mono (by simp)))
  clear hN hb CR
  go_wp2_with fail
  go_ret2
  have hL : lineR n weak strong = rightR n weak := if_neg Hr.out
  refine ⟨_, _, [], rfl, by rw [hL]; exact HN.out, Sl.nil _ _ _, fun _ => rfl, fun h => absurd (hL.symm.trans h) Hr.out, Hb.out⟩

theorem line_bad2 (v1 v2 : Value) (weak strong : List EdgeD) (n : Int) (w : World) (h1 : Edges w v1 weak) (h2 : Edges w v2 strong) (hr1 : rightR n weak = (0, -1)) (hr : rightR n strong ≠ (0, -1)) :
    Calls Tryz.prog 49 #[.int .i64 n, v1, v2] w (LineE w n weak strong) := by
  have hb0 : Below w.heap.size w (w.alloc (.cells #[v2] 95)) := (Below.refl _ _).alloc (Nat.le_refl _) _
  have CR := Lib.hid (right_calls v1 weak n (w.alloc (.cells #[v2] 95)) (h1.below hb0 (Nat.le_refl _)))
  have Hr1 := Lib.hid hr1
  have Hr := Lib.hid hr
  have HB0 := Lib.hid hb0
  have HE2 := Lib.hid h2
  obtain ⟨sa, sm, sc, hv2⟩ : ∃ a m c, v2 = .slice a m c := by
    obtain ⟨a, c, e, _⟩ := h2
    exact ⟨_, _, _, e⟩
  subst hv2
  clear hr h1 h2 hb0 hr1
  go_enter Tryz.func49, Tryz.ntmps49
  go_wp2_with fail
  refine CR.out.mono ?_
  rintro e w1 ⟨ev, rfl, hN, hb⟩
  obtain rfl := hN.fine Hr1.out
  have hb1 := HB0.out.trans (hb.mono (by simp))
  have cs : w1.cell? ⟨w.heap.size, 0, none⟩ = some (.slice sa sm sc) := (hb.cell (p := ⟨w.heap.size, 0, none⟩) (by simp)).trans (by simp [go_sem])
  have CR2 := Lib.hid (right_calls (.slice sa sm sc) strong n w1 (HE2.out.below hb1 (Nat.le_refl _)))
  have Hb1 := Lib.hid hb1
  clear hN hb CR hb1
  go_wp2_with fail
  refine CR2.out.mono ?_
  rintro e w2 ⟨ev, rfl, hN, hb⟩
  obtain ⟨t, x, rfl⟩ := hN.bad Hr.out
  have HN := Lib.hid hN
  have Hb := Lib.hid (Hb1.out.trans (hb.mono Hb1.out.size))
  clear hN hb CR2 cs
  go_wp2_with fail
  go_ret2
  have hL : lineR n weak strong = rightR n strong := if_pos Hr1.out
  refine ⟨_, _, [], rfl, by rw [hL]; exact HN.out, Sl.nil _ _ _, fun _ => rfl, fun h => absurd (hL.symm.trans h) Hr.out, Hb.out⟩

theorem line_good (v1 v2 : Value) (weak strong : List EdgeD) (n : Nat) (w : World) (h1 : Edges w v1 weak) (h2 : Edges w v2 strong) (hr1 : rightR ((n : Nat) : Int) weak = (0, -1)) (hr2 : rightR ((n : Nat) : Int) strong = (0, -1)) (hl1 : weak.length ≤ 50000) (hl2 : strong.length ≤ 50000) :
    Calls Tryz.prog 49 #[.int .i64 ((n : Nat) : Int), v1, v2] w (LineE w n weak strong) := by
  have hb0 : Below w.heap.size w (w.alloc (.cells #[v2] 95)) := (Below.refl _ _).alloc (Nat.le_refl _) _
  have CR := Lib.hid (right_calls v1 weak n (w.alloc (.cells #[v2] 95)) (h1.below hb0 (Nat.le_refl _)))
  obtain ⟨n', hn', hn40, -⟩ := right_fine hr1
  obtain rfl : n = n' := by omega
  have Hr1 := Lib.hid hr1
  have Hr2 := Lib.hid hr2
  have HR := Lib.hid (right_append hr1 hr2)
  have HB0 := Lib.hid hb0
  have HE1 := Lib.hid h1
  have HE2 := Lib.hid h2
  obtain ⟨sa, sm, sc, hv2⟩ : ∃ a m c, v2 = .slice a m c := by
    obtain ⟨a, c, e, _⟩ := h2
    exact ⟨_, _, _, e⟩
  subst hv2
  obtain ⟨wa, wm, wc', hv1⟩ : ∃ a m c, v1 = .slice a m c := by
    obtain ⟨a, c, e, _⟩ := h1
    exact ⟨_, _, _, e⟩
  subst hv1
  obtain ⟨i0, hi0, hz0, hz1, hz2⟩ := info_parts info_int2
  have Hi0 := Lib.hid (And.intro hi0 (And.intro hz0 (And.intro hz1 hz2)))
  clear h1 h2 hb0 hr1 hr2 hn' hi0 hz0 hz1 hz2
  go_enter Tryz.func49, Tryz.ntmps49
  go_wp2_with fail
  refine CR.out.mono ?_
  rintro e w1 ⟨ev, rfl, hN, hb⟩
  obtain rfl := hN.fine Hr1.out
  have hb1 := HB0.out.trans (hb.mono (by simp))
  have cs : w1.cell? ⟨w.heap.size, 0, none⟩ = some (.slice sa sm sc) := (hb.cell (p := ⟨w.heap.size, 0, none⟩) (by simp)).trans (by simp [go_sem])
  have CR2 := Lib.hid (right_calls (.slice sa sm sc) strong n w1 (HE2.out.below hb1 (Nat.le_refl _)))
  have Hb1 := Lib.hid hb1
  have hl1s : w.heap.size < w1.heap.size := Nat.lt_of_lt_of_le (by simp) hb.size
  clear hN hb CR hb1
  go_wp2_with fail
  refine CR2.out.mono ?_
  rintro e w2 ⟨ev, rfl, hN, hb⟩
  obtain rfl := hN.fine Hr2.out
  have cs2 : w2.cell? ⟨w.heap.size, 0, none⟩ = some (.slice sa sm sc) := (hb.cell (p := ⟨w.heap.size, 0, none⟩) hl1s).trans cs
  have hl2s : w.heap.size < w2.heap.size := Nat.lt_of_lt_of_le hl1s hb.size
  have hb2 := Hb1.out.trans (hb.mono Hb1.out.size)
  have hb3 : Below w.heap.size w (w2.alloc (.cells #[.slice wa wm wc', .slice sa sm sc] 95)) := hb2.alloc hb2.size _
  have CC := Lib.hid (concat_calls w2.heap.size (.slice wa wm wc') (.slice sa sm sc) weak strong (w2.alloc (.cells #[.slice wa wm wc', .slice sa sm sc] 95)) (by simp [go_sem]) (by simp [go_sem]) (HE1.out.below hb3 (Nat.le_refl _)) (HE2.out.below hb3 (Nat.le_refl _)) hl1 hl2)
  have Hb3 := Lib.hid hb3
  have Hcs := Lib.hid cs2
  clear hN hb CR2 hb2 hb3 cs
  go_wp2_with fail
  refine CC.out.mono ?_
  rintro e w4 ⟨cv, rfl, hEc, hb4⟩
  have cs4 : w4.cell? ⟨w.heap.size, 0, none⟩ = some (.slice sa sm sc) := (hb4.cell (p := ⟨w.heap.size, 0, none⟩) (by simp; omega)).trans ((World.cell?_alloc_lt _ _ _ hl2s).trans Hcs.out)
  have hb04 := Hb3.out.trans (hb4.mono Hb3.out.size)
  have hl4s : w.heap.size < w4.heap.size := Nat.lt_of_lt_of_le (by simp; omega) hb4.size
  have CO := Lib.hid (rings_good cv (weak ++ strong) n w4 hEc HR.out (by simp; omega))
  have Hcs4 := Lib.hid cs4
  have Hb4 := Lib.hid hb04
  clear hEc hb4 cs4 hb04 CC cs2 Hcs
  go_wp2_with fail
  refine CO.out.mono ?_
  rintro e w5 ⟨rv, ev, rings, rfl, hEv, hRr, -, hgood, hl40, hb5⟩
  obtain rfl := hEv.fine HR.out
  obtain ⟨hOrd, hAll⟩ := hgood HR.out n rfl
  obtain ⟨ra, rcap, RV, rfl, hq1, hq2, hcell, hrow⟩ := rows2_form hRr
  obtain ⟨m, hm⟩ : ∃ m, rings.length = m := ⟨_, rfl⟩
  rw [hm] at hq1 hcell hrow hl40 ⊢
  have cs5 : w5.cell? ⟨w.heap.size, 0, none⟩ = some (.slice sa sm sc) := (hb5.cell (p := ⟨w.heap.size, 0, none⟩) hl4s).trans Hcs4.out
  have hl5s : w.heap.size < w5.heap.size := Nat.lt_of_lt_of_le hl4s hb5.size
  have Hcs5 := Lib.hid cs5
  have Hb5 := Lib.hid (Hb4.out.trans (hb5.mono Hb4.out.size))
  have Hcell := Lib.hid hcell
  have Hrow := Lib.hid hrow
  have Hm := Lib.hid hm
  have HOrd := Lib.hid hOrd
  have HAll := Lib.hid hAll
  clear hEv hRr hgood hb5 cs5 hcell hrow hm hOrd hAll CO
  go_wp2_with fail
  go_loopg [12, 43] m (fun k v12 v43 wr => ∃ (i : Nat) (outv : Value), outv = v12 ∧ v43 = .int .i64 i ∧ i ≤ m ∧ k = m - i ∧ wr.ownsRow w5.heap.size 3 1 outv (linesOf strong (rings.take i)).length (natRow (linesOf strong (rings.take i))) ∧ (linesOf strong (rings.take i)).length ≤ i * 40 ∧ Below w5.heap.size w5 wr)
  case atStart => exact ⟨0, _, rfl, rfl, Nat.zero_le _, rfl, World.ownsRow_nil _ _ _ _, Nat.le_refl _, Below.refl _ _⟩
  case round =>
    obtain ⟨i, outv, rfl, rfl, hi, hk, hown, hlen, hB⟩ := hrel
    have Hk := Lib.hid hk
    have Hown := Lib.hid hown
    have HB := Lib.hid hB
    have Hlen := Lib.hid hlen
    clear hk hown hB hlen
    by_cases hlt : i < m
    · obtain ⟨b, o, rfl, hb, hc⟩ := Hcell.out.resolve_left (by omega)
      obtain ⟨hrl, hrne⟩ := ring_len HOrd.out (i := i) (by rw [Hm.out]; exact hlt)
      obtain ⟨rb, ro, rm, rcp, hV, hrm, hrm0, hrmc, hrcm, hrb, hrc⟩ := Row.form ((Hrow.out i hlt).below HB.out (Nat.le_refl _)) hrne
      have c0 : wr.cell? ⟨b, o + i, none⟩ = some (RV i) := (HB.out.cell (p := ⟨b, o + i, none⟩) hb).trans (hc i hlt)
      rw [hV] at c0
      obtain ⟨r, hr⟩ : ∃ r, ringAt rings i = r := ⟨_, rfl⟩
      rw [hr] at hrl hrne hrm hrc
      have CL := Lib.hid (Tryz.slices_Clone_int rb ro rm rcp (castI r) wr (by rw [castI_len]; omega) (by omega) (fun j hj => by
        rw [castI_len, ← hrm] at hj
        rw [hrc j hj, castI_getD r (by rw [← hrm]; exact hj)]))
      have hst := lines_step strong rings (i := i) (by rw [Hm.out]; exact hlt)
      rw [hr] at hst
      have Hst := Lib.hid hst
      have Hrm := Lib.hid hrm
      have hlB := HB.out.size
      clear hc hV hrc hst hr hrm hrne
      go_wp2_with fail
      refine CL.out.mono ?_
      rintro e w6 ⟨sv, rfl, hownS, -, hb6⟩
      have htk : (castI r).take rm = castI r := List.take_of_length_le (by rw [castI_len, Hrm.out]; exact Nat.le_refl _)
      rw [htk] at hownS
      obtain ⟨g, c, cur, rfl, hg1, hg2, hg3, hg4, hg5, hg6⟩ : ∃ g c cur, sv = .slice (some ⟨g, 0, none⟩) rm c ∧ wr.heap.size ≤ g ∧ w6.heap[g]? = some (.cells cur 3 (0, 0)) ∧ rm ≤ c ∧ c ≤ 9223372036854775807 ∧ cur.size = c * 1 ∧ cur.toList.take (rm * 1) = (castI r).map (Value.int .i64) := by
        rcases hownS.2 with ⟨_, h'⟩ | ⟨g, c, cur, e, h1, h2, h3, h4, h5, h6⟩
        · omega
        · exact ⟨g, c, cur, e, h1, h2, h3, by unfold maxLen at h4; omega, h5, h6⟩
      have hgl := lt_of_block hg2
      have hLW : LeftW w6.heap.size g rm c r (w6.alloc (.cells #[.slice (some ⟨g, 0, none⟩) rm c] 31)) := by
        have hgb : (w6.alloc (.cells #[.slice (some ⟨g, 0, none⟩) rm c] 31)).heap[g]? = some (.cells cur 3 (0, 0)) := (Below.heap_alloc w6 _ g hgl).trans hg2
        refine ⟨heap_alloc_new w6 _, Hrm.out.symm, ⟨hg3, hg4⟩, by simp; omega, fun j hj => ?_, fun j => ?_, by omega⟩
        · rw [World.cell?_of_block (w := w6) (a := ⟨g, j, none⟩) (Below.heap_alloc w6 _ g hgl)]
          have h1 : cur.toList[j]? = some (.int .i64 ((r.getD j 0 : Nat) : Int)) := by
            have h2 : (cur.toList.take (rm * 1))[j]? = cur.toList[j]? := List.getElem?_take_of_lt (by omega)
            rw [← h2, hg6]
            have hjr : j < r.length := by rw [← Hrm.out]; exact hj
            simp [castI, List.getD, List.getElem?_eq_getElem hjr]
          simp only [World.cell?, hg2]
          simpa using h1
        · simp [World.frozen?, hgb]
      have hBa : Below w5.heap.size w5 (w6.alloc (.cells #[.slice (some ⟨g, 0, none⟩) rm c] 31)) := (HB.out.trans (hb6.mono hlB)).alloc (Nat.le_trans hlB hb6.size) _
      have hOa : (w6.alloc (.cells #[.slice (some ⟨g, 0, none⟩) rm c] 31)).ownsRow w5.heap.size 3 1 outv (linesOf strong (rings.take i)).length (natRow (linesOf strong (rings.take i))) := ownsRow_kept Hown.out (fun k e => by
        have hkl := (Hown.out.lt k e).2
        exact (Below.heap_alloc w6 _ k (Nat.lt_of_lt_of_le hkl hb6.size)).trans (hb6.block k hkl))
      have hap : ∀ k, outv.ownBlock = some k → k ≠ w6.heap.size ∧ k ≠ g := fun k e => by
        have hkl := (Hown.out.lt k e).2
        have := hb6.size
        exact ⟨by omega, by omega⟩
      obtain ⟨Bl, hBl⟩ : ∃ Bl, w6.heap.size = Bl := ⟨_, rfl⟩
      have hbl5 : w5.heap.size ≤ Bl ∧ w5.heap.size ≤ g := ⟨by have := hb6.size; omega, by omega⟩
      obtain ⟨w7, hw7⟩ : ∃ w7 : World, w7 = w6.alloc (.cells #[.slice (some ⟨g, 0, none⟩) rm c] 31) := ⟨_, rfl⟩
      rw [hBl] at hLW hap
      have HBl := Lib.hid hBl
      rw [← hw7] at hLW hBa hOa
      have HLW := Lib.hid hLW
      have HBa := Lib.hid hBa
      have HOa := Lib.hid hOa
      have Hap := Lib.hid hap
      have Hbl5 := Lib.hid hbl5
      have Hw7 := Lib.hid hw7
      have Hrl := Lib.hid hrl
      have HrL : Hid (r.length = rm) := Hrm.out.symm
      clear hownS hg1 hg2 hg3 hg4 hg5 hg6 hgl hLW hBa hOa hap hbl5 hb6 htk c0 CL hrl hw7 hBl
      go_wp2_with fail
      rw [HBl.out, ← Hw7.out]
      go_loopg [12] rm (fun k v12 wr => ∃ (outv : Value) (L acc : List Nat), outv = v12 ∧ k = L.length ∧ L.length ≤ 40 ∧ acc.length + L.length ≤ i * 40 + 40 ∧ acc ++ lineOf strong L = linesOf strong (rings.take (i + 1)) ∧ LeftW Bl g L.length c L wr ∧ wr.ownsRow w5.heap.size 3 1 outv acc.length (natRow acc) ∧ (∀ k, outv.ownBlock = some k → k ≠ Bl ∧ k ≠ g) ∧ Below w5.heap.size w5 wr)
      case atStart => exact ⟨_, r, linesOf strong (rings.take i), rfl, HrL.out.symm, by rw [HrL.out]; have := Hrl.out; have := HrL.out; omega, by have := Hrl.out; have := Hlen.out; omega, Hst.out.symm, by rw [HrL.out]; exact HLW.out, HOa.out, Hap.out, HBa.out⟩
      case round =>
        obtain ⟨outv, L, acc, rfl, hk, hL40, hacc, hlines, hLW, hO, hap, hB⟩ := hrel
        obtain ⟨q, hq⟩ : ∃ q, L.length = q := ⟨_, rfl⟩
        rw [hq] at hk hL40 hacc hLW
        have Hk2 := Lib.hid hk
        have Hacc := Lib.hid hacc
        have Hlines := Lib.hid hlines
        have HLW := Lib.hid hLW
        have HO := Lib.hid hO
        have Hap := Lib.hid hap
        have HB := Lib.hid hB
        have Hq := Lib.hid hq
        have cB := hLW.cell
        clear hk hacc hlines hLW hO hap hB hq
        by_cases hq0 : 0 < q
        · have hne : L ≠ [] := by intro e; have := Hq.out; rw [e] at this; simp at this; omega
          have hKq : pickK strong L < q := by rw [← Hq.out]; exact pickK_lt strong hne
          have hKm := pick_idx strong L
          have hst := lineOf_step strong hne
          have CI : Hid (Calls Tryz.prog 74 #[.slice (some ⟨g, 0, none⟩) q c, .func (.func 75) #[] #[.pointer (some ⟨w.heap.size, 0, none⟩), .pointer (some ⟨Bl, 0, none⟩)]] wr (FoundI L (fun v => !badV strong L v) wr)) := by
            refine indexInt_calls _ L _ _ _ wr HLW.out.row enters_goes ?_
            intro t _ w' hb
            have hbw := HB.out.trans (hb.mono HB.out.size)
            exact goes_calls t strong L (.slice sa sm sc) (.slice (some ⟨g, 0, none⟩) q c) w.heap.size Bl w' ((hbw.cell (p := ⟨w.heap.size, 0, none⟩) hl5s).trans Hcs5.out) (HE2.out.below (Hb5.out.trans (hbw.mono Hb5.out.size)) (Nat.le_refl _)) (HLW.out.below hb).cell (HLW.out.below hb).row (by have := Hq.out; omega)
          obtain ⟨K, hK⟩ : ∃ K, pickK strong L = K := ⟨_, rfl⟩
          obtain ⟨z, hz⟩ : ∃ z, idxI (L.findIdx? fun v => !badV strong L v) = z := ⟨_, rfl⟩
          rw [hK] at hKq hKm hst
          rw [hz] at hKm
          have Hst := Lib.hid hst
          have HKm := Lib.hid hKm
          have Hz := Lib.hid hz
          clear hst hK hne hKm hz
          go_wp2_with fail
          refine CI.out.mono ?_
          rintro e w8 ⟨rfl, hb8⟩
          rw [Hz.out]
          have hL8 := HLW.out.below hb8
          have hO8 := ownsRow_kept HO.out (fun k e => hb8.block k (HO.out.lt k e).2)
          have hB8 := HB.out.trans (hb8.mono HB.out.size)
          have cB8 := hL8.cell
          have cK8 := hL8.cells K hKq
          obtain ⟨x, hx⟩ : ∃ x, L.getD K 0 = x := ⟨_, rfl⟩
          rw [hx] at cK8
          have Hx := Lib.hid hx
          have HL8 := Lib.hid hL8
          have HO8 := Lib.hid hO8
          have HB8 := Lib.hid hB8
          clear hb8 hL8 hO8 hB8 CI cB hx HLW HO HB
          go_upto_region 18 with fail
          rw [HKm.out]
          go_wp2_with (at_builtin; refine wpList_append_own_at _ rfl _ _ 31 rfl w5.heap.size 3 i0 _ 1 8 Tryz.underlying31 Hi0.out.1 Hi0.out.2.1 Hi0.out.2.2.1 Hi0.out.2.2.2 rfl (by decide) outv acc.length (natRow acc) rfl (HO8.out.alloc _) ⟨w8.heap.size, 0, none⟩ 1 1 [.int .i64 ((x : Nat) : Int)] rfl rfl (World.news_of_block (cs := #[.int .i64 ((x : Nat) : Int)]) (t := 3) (fr := (0, 0)) (heap_alloc_new w8 _)) (by simp [Value.oneCell']) (by have := Hacc.out; unfold maxLen; omega) (by have := Hacc.out; omega) (by have := HB8.out.size; simp; omega) ?_)
          intro ov9 w9 hown9 hg9 _ hat9
          have hka : ∀ k, k < w8.heap.size → outv.ownBlock ≠ some k → w9.heap[k]? = w8.heap[k]? := fun k hk hne => (hg9.block k (by simp; omega) (fun e => hne e.symm)).trans (Below.heap_alloc w8 _ k hk)
          have hL9 := HL8.out.keep (w' := w9) (by have := hg9.size; simp at this; omega) (hka _ HL8.out.lt (fun e => (Hap.out _ e).1 rfl)) (hka _ HL8.out.hg (fun e => (Hap.out _ e).2 rfl))
          have hap9 : ∀ k, ov9.ownBlock = some k → k ≠ Bl ∧ k ≠ g := by
            intro k e
            rcases hat9 with e' | e'
            · exact Hap.out k (by rw [← e']; exact e)
            · rw [e] at e'
              injection e' with e'
              have h1 := HL8.out.lt
              have h2 := HL8.out.hg
              have h3 : (w8.alloc (.cells #[.int .i64 ((x : Nat) : Int)] 3)).heap.size = w8.heap.size + 1 := by simp
              exact ⟨by omega, by omega⟩
          have hB9 : Below w5.heap.size w5 w9 := (HB8.out.alloc HB8.out.size _).grown hg9 (by have := HB8.out.size; simp; omega) (fun k e => (HO8.out.lt k e).1)
          have CD := Tryz.slices_Delete_int_cells g 0 q c K (K + 1) (castI L) w9 (by rw [castI_len, Hq.out]; exact Nat.le_refl _) hL9.qc.1 hL9.qc.2 (by omega) (by omega) (fun j hj => by
            rw [castI_len, Hq.out] at hj
            rw [Nat.zero_add, hL9.cells j hj, castI_getD L (by rw [Hq.out]; exact hj)]) (fun j hj => by rw [Nat.zero_add]; exact hL9.free j)
          have eK : (((K + 1 : Nat)) : Int) = ((K : Nat) : Int) + 1 := by omega
          rw [eK] at CD
          have HCD := Lib.hid CD
          have cB9 := hL9.cell
          have HL9 := Lib.hid hL9
          have Hap9 := Lib.hid hap9
          have HB9 := Lib.hid hB9
          have HO9 : Hid (w9.ownsRow w5.heap.size 3 1 ov9 (acc ++ [x]).length (natRow (acc ++ [x]))) := by
            show World.ownsRow _ _ _ _ _ _ _
            have e1 : (acc ++ [x]).length = acc.length + 1 := by simp
            have e2 : natRow (acc ++ [x]) = natRow acc ++ [.int .i64 ((x : Nat) : Int)] := by simp [natRow]
            rw [e1, e2]
            exact hown9
          clear hown9 hg9 hat9 hka hL9 hap9 hB9 CD eK cB8 cK8
          go_wp2_with fail
          refine HCD.out.mono ?_
          rintro e w10 ⟨rfl, d, hw10⟩
          have hBl9 := HL9.out.lt
          have hk10 : ∀ k, k ≠ g → w10.heap[k]? = w9.heap[k]? := fun k hk => by rw [hw10, setCells_block _ _ _ _ hk]; rfl
          have hs10 : w10.heap.size = w9.heap.size := by rw [hw10, setCells_size]; rfl
          have cB10 : w10.cell? ⟨Bl, 0, none⟩ = some (.slice (some ⟨g, 0, none⟩) q c) := (World.cell?_of_block (a := ⟨Bl, 0, none⟩) (hk10 Bl HL9.out.ne)).trans cB9
          have zB10 : w10.frozen? ⟨Bl, 0, none⟩ = false := by
            rw [World.frozen?_of_block (a := ⟨Bl, 0, none⟩) (hk10 Bl HL9.out.ne)]
            simp [World.frozen?, HL9.out.box]
          have hBl10 : Bl < w10.heap.size := by omega
          have hLn := HL9.out.del (k := K) (d := d) hKq hw10
          have hq1 : q - (K + 1 - K) = q - 1 := by omega
          have hle : (L.eraseIdx K).length = q - 1 := by rw [List.length_eraseIdx, if_pos (by rw [Hq.out]; exact hKq), Hq.out]
          have hB10 : Below w5.heap.size w5 w10 := by
            rw [hw10]
            exact Lib.below_setCells g Hbl5.out.2 _ 0 (drewN_below HB9.out d)
          have hBn := hB10.setCell (p := ⟨Bl, 0, none⟩) Hbl5.out.1 (.slice (some ⟨g, 0, none⟩) (q - 1) c)
          have hOn : (w10.setCell ⟨Bl, 0, none⟩ (.slice (some ⟨g, 0, none⟩) (q - 1) c)).ownsRow w5.heap.size 3 1 ov9 (acc ++ [x]).length (natRow (acc ++ [x])) := ownsRow_kept HO9.out (fun k e => (heap_setCell_ne w10 Bl 0 _ (Hap9.out k e).1).trans (hk10 k (Hap9.out k e).2))
          have HLn := Lib.hid hLn
          have HBn := Lib.hid hBn
          have HOn := Lib.hid hOn
          have Hle := Lib.hid hle
          have Hnl : Hid ((acc ++ [x]) ++ lineOf strong (L.eraseIdx K) = linesOf strong (rings.take (i + 1))) := by
            show _ = _
            rw [← Hlines.out, Hst.out, Hx.out]
            simp
          clear hw10 hk10 hs10 hLn hB10 hBn hOn hle hBl9 cB9 HCD
          rw [hq1]
          clear hq1
          go_wp2_with fail
          go_roundg (q - 1)
          case rel => exact ⟨_, L.eraseIdx K, acc ++ [x], rfl, Hle.out.symm, by have := Hle.out; omega, by have := Hle.out; have := Hacc.out; simp; omega, Hnl.out, by rw [Hle.out]; exact HLn.out, HOn.out, Hap9.out, HBn.out⟩
          case measure => have := Hk2.out; omega
        · have hL0 : L = [] := List.length_eq_zero_iff.1 (by have := Hq.out; omega)
          have hfin := Hlines.out
          rw [hL0, lineOf_nil, List.append_nil] at hfin
          have HO2 : Hid (wr.ownsRow w5.heap.size 3 1 outv (linesOf strong (rings.take (i + 1))).length (natRow (linesOf strong (rings.take (i + 1))))) := by
            show World.ownsRow _ _ _ _ _ _ _
            rw [← hfin]; exact HO.out
          have HL2 : Hid ((linesOf strong (rings.take (i + 1))).length ≤ (i + 1) * 40) := by show _ ≤ _; rw [← hfin]; have := Hacc.out; omega
          clear hL0 hfin
          go_wp2_with fail
          go_roundg (m - (i + 1))
          case rel => exact ⟨i + 1, _, rfl, by go_num, by omega, rfl, HO2.out, HL2.out, HB.out⟩
          case measure => have := Hk.out; omega
    · obtain rfl : m = i := by omega
      have hfull : rings.take m = rings := List.take_of_length_le (by rw [Hm.out]; exact Nat.le_refl _)
      have hR := row_owned Hown.out
      rw [hfull] at hR
      have HRow := Lib.hid hR
      clear hfull hR
      go_wp2_with fail
      go_ret2
      have hL : lineR ((n : Nat) : Int) weak strong = (0, -1) := (if_pos Hr1.out).trans Hr2.out
      refine ⟨_, _, _, rfl, by rw [hL]; exact .nil, HRow.out, fun h => absurd hL h, fun _ m' hm' => ?_, Hb5.out.trans (HB.out.mono Hb5.out.size)⟩
      obtain rfl : n = m' := by omega
      exact ⟨rings, HOrd.out, HAll.out, rfl⟩

theorem line_calls (v1 v2 : Value) (weak strong : List EdgeD) (n : Int) (w : World) (h1 : Edges w v1 weak) (h2 : Edges w v2 strong) (hl1 : weak.length ≤ 50000) (hl2 : strong.length ≤ 50000) :
    Calls Tryz.prog 49 #[.int .i64 n, v1, v2] w (LineE w n weak strong) := by
  by_cases hr1 : rightR n weak = (0, -1)
  · by_cases hr2 : rightR n strong = (0, -1)
    · obtain ⟨k, rfl, _, _⟩ := right_fine hr1
      exact line_good v1 v2 weak strong k w h1 h2 hr1 hr2 hl1 hl2
    · exact line_bad2 v1 v2 weak strong n w h1 h2 hr1 hr2
  · exact line_bad1 v1 v2 weak strong n w h1 h2 hr1
end Go.Proofs.YtnfnebfioibndaaGreatDoor
