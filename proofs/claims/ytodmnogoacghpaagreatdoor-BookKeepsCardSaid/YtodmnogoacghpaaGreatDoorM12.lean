/- The disk's small functions: name, On, Cut, Room, does. -/
import Derived.Test.YtodmnogoacghpaaGreatDoorM09
import Derived.OneCell
import Derived.Test.YtodmnogoacghpaaGreatDoorM11
import Derived.Lib.Strings
namespace Go.Proofs.YtodmnogoacghpaaGreatDoor
open Go.RowKit
set_option maxRecDepth 100000
set_option maxHeartbeats 2000000

theorem heapSet_ne (w : World) (b o : Nat) (v : Value) {k : Nat} (h : k ≠ b) : (w.setCell ⟨b, o, none⟩ v).heap[k]? = w.heap[k]? := Below.heap_setCell w ⟨b, o, none⟩ v k h
theorem heapSet_same (w : World) (b o : Nat) (v : Value) {c : Array Value} {t : TypeId} {fr : Nat × Nat} (h : w.heap[b]? = some (.cells c t fr)) : (w.setCell ⟨b, o, none⟩ v).heap[b]? = some (.cells (c.setIfInBounds o v) t fr) := by
  simp [World.setCell, Array.getElem?_modify, h]

def onB (d : DiskD) : Bool := !(d.left == 0)
theorem name_calls (f : ByteArray) (w : World) (hf : f.size ≤ 9223372036854775807) : Calls Tryz.prog 48 #[.string f] w fun e w' => e = .returned (.bool (nameB f)) ∧ w = w' := by
  by_cases h0 : f = ⟨#[]⟩
  · subst h0
    go_enter Tryz.func48, Tryz.ntmps48
    go_wp2_with fail
    go_ret
    exact ⟨rfl, rfl⟩
  · have hz : 1 ≤ f.size := by
      rcases Nat.eq_zero_or_pos f.size with h | h
      · exfalso
        apply h0
        cases f with
        | mk d =>
          have : d = #[] := by simpa [ByteArray.size] using h
          rw [this]
      · exact h
    have hl : f.toList ≠ [] := by
      rw [Lib.toList_data]
      intro e
      have h1 : f.data.size = 0 := by rw [← Array.length_toList, e]; rfl
      have h2 : f.size = f.data.size := rfl
      omega
    have h1 : f.toList.isEmpty = false := by cases e : f.toList with
      | nil => exact absurd e hl
      | cons => rfl
    have HN : Hid (nameB f = decide (f.size ≤ 80)) := by show _ = _; unfold nameB; rw [decide_eq_true hz]; rfl
    clear hz
    go_enter Tryz.func48, Tryz.ntmps48
    go_wp2_with fail
    go_ret
    have e80 : decide ((f.size : Int) ≤ 80) = decide (f.size ≤ 80) := by rw [decide_eq_decide]; omega
    exact ⟨by rw [HN.out, ← e80]; rfl, rfl⟩

theorem on_calls (w : World) (a : Nat) (F : List Nat) (d : DiskD) (h : PDisk w a F d) : Calls Tryz.prog 63 #[.pointer (some ⟨a, 0, none⟩)] w fun e w' => e = .returned (.bool (onB d)) ∧ w = w' := by
  obtain ⟨nv, sv, l, m, hc, hm⟩ := h
  obtain ⟨c0, c1, c2, c3, c4, c5⟩ := hc.cell
  have hlt := hc.lt
  have hl := hc.left
  obtain ⟨L, hL⟩ : ∃ L, d.left = L := ⟨_, rfl⟩
  have HJ : Hid (onB d = !(L == 0)) := by show _ = _; unfold onB; rw [hL]
  rw [hL] at c3 hl
  clear hc hm hL c0 c1 c4 c5
  by_cases h0 : 0 ≤ L
  · obtain rfl := hl h0
    rw [decide_eq_true h0] at c3
    by_cases h1 : 0 < l
    · have e1 : decide (l > 0) = true := decide_eq_true h1
      have e2 : decide (0 < l) = true := decide_eq_true h1
      have HF : Hid (onB d = true) := by show _ = _; rw [HJ.out]; simp; omega
      clear h0 h1 hl
      go_enter Tryz.func63, Tryz.ntmps63
      go_wp2_with fail
      go_ret
      exact ⟨by rw [HF.out]; rfl, rfl⟩
    · have e1 : decide (l > 0) = false := decide_eq_false h1
      have e2 : decide (0 < l) = false := decide_eq_false h1
      have HF : Hid (onB d = false) := by show _ = _; rw [HJ.out]; simp; omega
      clear h0 h1 hl
      go_enter Tryz.func63, Tryz.ntmps63
      go_wp2_with fail
      go_ret
      exact ⟨by rw [HF.out]; rfl, rfl⟩
  · rw [decide_eq_false h0] at c3
    have HF : Hid (onB d = true) := by show _ = _; rw [HJ.out]; simp; omega
    clear h0 hl
    go_enter Tryz.func63, Tryz.ntmps63
    go_wp2_with fail
    go_ret
    exact ⟨by rw [HF.out]; rfl, rfl⟩

theorem cut_calls (w : World) (a : Nat) (F : List Nat) (d : DiskD) (n : Int) (h : PDisk w a F d) (hn : -9223372036854775808 ≤ n ∧ n ≤ 9223372036854775807) : Calls Tryz.prog 20 #[.pointer (some ⟨a, 0, none⟩), .int .i64 n] w fun e w' => e = .returned (.tuple #[]) ∧ DStep w a F (cutD d n) w' := by
  have hmem := h.mem
  obtain ⟨nv, sv, l, m, hc, hm⟩ := h
  obtain ⟨c0, c1, c2, c3, c4, c5⟩ := hc.cell
  have hlt := hc.lt
  have z2 := hc.free 2
  have z3 := hc.free 3
  have HC := Lib.hid hc
  have HM := Lib.hid hm
  have Hmem := Lib.hid hmem
  have HFIN : Hid (∀ x, (0 ≤ n → x = n) → DStep w a F (cutD d n) ((w.setCell ⟨a, 3, none⟩ (.bool (decide (0 ≤ n)))).setCell ⟨a, 2, none⟩ (.int .i64 x))) := by
    intro x hx
    have h1 := heapSet_same w a 3 (.bool (decide (0 ≤ n))) HC.out.blk
    have h2 := heapSet_same _ a 2 (.int .i64 x) h1
    have hT : Turn F w ((w.setCell ⟨a, 3, none⟩ (.bool (decide (0 ≤ n)))).setCell ⟨a, 2, none⟩ (.int .i64 x)) := ((Turn.refl F w).setCell (Or.inl Hmem.out) _).setCell (Or.inl Hmem.out) _
    have hk : ∀ k, k ≠ a → ((w.setCell ⟨a, 3, none⟩ (.bool (decide (0 ≤ n)))).setCell ⟨a, 2, none⟩ (.int .i64 x)).heap[k]? = w.heap[k]? := fun k hk => (heapSet_ne _ a 2 _ hk).trans (heapSet_ne _ a 3 _ hk)
    refine ⟨F, ⟨nv, sv, x, m, ⟨?_, ?_, HC.out.bytes⟩, ?_⟩, fun k hk => Or.inl hk, hT⟩
    · rw [h2]
      have e : decide (0 ≤ (cutD d n).left) = decide (0 ≤ n) := by unfold cutD; dsimp only; by_cases h : 0 ≤ n <;> simp [h] <;> omega
      rw [e]
      rfl
    · intro h
      unfold cutD at h ⊢
      dsimp only at h ⊢
      rw [hx (by omega)]
      omega
    · rcases HM.out with h | ⟨bn, bs, e1, e2, e3, hM⟩
      · exact Or.inl h
      · exact Or.inr ⟨bn, bs, e1, e2, e3, hM.keep (hk bn hM.ne.2.1) (hk bs hM.ne.2.2)⟩
  clear hc hm hmem c0 c1 c4 c5
  by_cases h0 : 0 ≤ n
  · have e0 : decide (n ≥ 0) = true := decide_eq_true h0
    have e1 : decide (0 ≤ n) = true := decide_eq_true h0
    have em : max n 0 = n := by omega
    have HF := Lib.hid (HFIN.out n (fun _ => rfl))
    rw [e1] at HF
    clear HFIN
    go_enter Tryz.func20, Tryz.ntmps20
    go_wp2_with fail
    go_returns
    exact ⟨rfl, HF.out⟩
  · have e0 : decide (n ≥ 0) = false := decide_eq_false h0
    have e1 : decide (0 ≤ n) = false := decide_eq_false h0
    have em : max n 0 = 0 := by omega
    have HF := Lib.hid (HFIN.out 0 (fun h => absurd h h0))
    rw [e1] at HF
    clear HFIN
    go_enter Tryz.func20, Tryz.ntmps20
    go_wp2_with fail
    go_returns
    exact ⟨rfl, HF.out⟩

/-- A disk that has maps, behind a step. -/
def DX (w : World) (a : Nat) (F : List Nat) (d : DiskD) (w' : World) : Prop :=
  ∃ bn bs l m, PC w' a (.map (some bn)) (.map (some bs)) l m d ∧ PMs w' a bn bs d.fs ∧ (∀ k ∈ [a, bn, bs], k ∈ F ∨ w.heap.size ≤ k) ∧ Turn F w w'
theorem DX.step {w w' : World} {a : Nat} {F : List Nat} {d : DiskD} (h : DX w a F d w') : DStep w a F d w' := by
  obtain ⟨bn, bs, l, m, h1, h2, h3, h4⟩ := h
  exact ⟨[a, bn, bs], ⟨_, _, l, m, h1, Or.inr ⟨bn, bs, rfl, rfl, rfl, h2⟩⟩, h3, h4⟩
def DoesR (w : World) (a : Nat) (F : List Nat) (d : DiskD) (e : Ending) (w' : World) : Prop :=
  (d.left = 0 ∧ e = .returned (.iface 33 (.int .i64 14)) ∧ w = w') ∨ (d.left ≠ 0 ∧ e = .returned .nilIface ∧ DX w a F (usedD d) w')

theorem does_calls (w : World) (a : Nat) (F : List Nat) (d : DiskD) (h : PDisk w a F d) (hd : d.left ≤ 9223372036854775807) : Calls Tryz.prog 49 #[.pointer (some ⟨a, 0, none⟩)] w (DoesR w a F d) := by
  have ON := Lib.hid (on_calls w a F d h)
  have hmem := h.mem
  obtain ⟨nv, sv, l, m, hc, hm⟩ := h
  obtain ⟨c0, c1, c2, c3, c4, c5⟩ := hc.cell
  have hlt := hc.lt
  have z0 := hc.free 0
  have z1 := hc.free 1
  have z2 := hc.free 2
  by_cases h0 : d.left = 0
  · have hO : onB d = false := by unfold onB; rw [h0]; rfl
    rw [hO] at ON
    have H0 := Lib.hid h0
    clear h0 hO c0 c1 c2 c3 c4 c5 hm hc z0 z1 z2
    go_enter Tryz.func49, Tryz.ntmps49
    go_wp2_with fail
    refine ON.out.mono ?_
    rintro e1 w1 ⟨rfl, rfl⟩
    go_wp2_with fail
    go_ret
    exact Or.inl ⟨H0.out, rfl, rfl⟩
  have hO : onB d = true := by unfold onB; simp [h0]
  rw [hO] at ON
  have HC := Lib.hid hc
  have HM := Lib.hid hm
  have Hmem := Lib.hid hmem
  have H0 := Lib.hid h0
  have hu : ∀ k, k ≠ a → ∀ x, (w.setCell ⟨a, 2, none⟩ (.int .i64 x)).heap[k]? = w.heap[k]? := fun k hk x => heapSet_ne w a 2 _ hk
  have Hu := Lib.hid hu
  -- the world behind the count
  have HPC : Hid (∀ wc, (wc = w ∧ d.left < 0 ∨ wc = w.setCell ⟨a, 2, none⟩ (.int .i64 (l - 1)) ∧ 0 < d.left) → ∃ l', PC wc a nv sv l' m (usedD d) ∧ Turn F w wc ∧ ∀ k, k ≠ a → wc.heap[k]? = w.heap[k]?) := by
    rintro wc (⟨rfl, hneg⟩ | ⟨rfl, hpos⟩)
    · have e : usedD d = d := by unfold usedD; rw [if_neg (by omega)]
      rw [e]
      exact ⟨l, HC.out, Turn.refl F _, fun k _ => rfl⟩
    · have hl := HC.out.left (by omega)
      have h1 := heapSet_same w a 2 (.int .i64 (l - 1)) HC.out.blk
      refine ⟨l - 1, ⟨?_, ?_, HC.out.bytes⟩, (Turn.refl F w).setCell (Or.inl Hmem.out) _, fun k hk => Hu.out k hk _⟩
      · rw [h1]
        have e1 : decide (0 ≤ d.left) = true := decide_eq_true (by omega)
        have e2 : decide (0 ≤ (usedD d).left) = true := decide_eq_true (by unfold usedD; dsimp only; rw [if_pos hpos]; omega)
        rw [e1, e2]
        rfl
      · intro _
        unfold usedD
        dsimp only
        rw [if_pos hpos, hl]
  -- .. and behind the maps
  have HEND : Hid (∀ wc l', PC wc a nv sv l' m (usedD d) → Turn F w wc → (∀ k, k ≠ a → wc.heap[k]? = w.heap[k]?) → ∀ bn bs, nv = .map (some bn) → sv = .map (some bs) → DX w a F (usedD d) wc) := by
    intro wc l' h1 h2 h3 bn bs e1 e2
    rcases HM.out with ⟨e, _⟩ | ⟨bn', bs', e3, e4, rfl, hM⟩
    · rw [e1] at e; cases e
    · rw [e1] at e3
      rw [e2] at e4
      injection e3 with e3
      injection e3 with e3
      injection e4 with e4
      injection e4 with e4
      subst e1 e2 e3 e4
      exact ⟨bn, bs, l', m, h1, hM.keep (h3 bn hM.ne.2.1) (h3 bs hM.ne.2.2), fun k hk => Or.inl hk, h2⟩
  have HENDN : Hid (∀ wc l' sz, wc.heap.size = sz → PC wc a nv sv l' m (usedD d) → Turn F w wc → nv = .map none → DX w a F (usedD d) ((((wc.setCell ⟨a, 0, none⟩ (.map (some sz))).setCell ⟨a, 1, none⟩ (.map (some (sz + 1)))).alloc (.map #[] 0)).alloc (.map #[] 0))) := by
    intro wc l' sz hsz h1 h2 e1
    rcases HM.out with ⟨_, _, hfs, rfl⟩ | ⟨bn', bs', e3, _⟩
    · have hl := h1.lt
      obtain ⟨W2, hW2⟩ : ∃ W2 : World, W2 = (wc.setCell ⟨a, 0, none⟩ (.map (some sz))).setCell ⟨a, 1, none⟩ (.map (some (sz + 1))) := ⟨_, rfl⟩
      have g1 := heapSet_same wc a 0 (.map (some sz)) h1.blk
      have g2 := heapSet_same _ a 1 (.map (some (sz + 1))) g1
      have hz2 : W2.heap.size = sz := by rw [hW2, ← hsz]; simp [World.setCell]
      have hT : Turn [a] w ((W2.alloc (.map #[] 0)).alloc (.map #[] 0)) := by
        rw [hW2]
        exact (((h2.setCell (Or.inl (by simp)) _).setCell (Or.inl (by simp)) _).alloc _).alloc _
      rw [← hW2] at g2 ⊢
      have hfs' : (usedD d).fs = [] := hfs
      refine ⟨sz, sz + 1, l', m, ⟨?_, h1.left, h1.bytes⟩, ?_, ?_, hT⟩
      · rw [Below.heap_alloc _ _ a (by simp; omega), Below.heap_alloc _ _ a (by omega), g2]; rfl
      · rw [hfs']
        refine ⟨⟨by omega, by omega, by omega⟩, ?_, ?_⟩
        · have := MapV.made W2 Tryz.prog 9
          rw [hz2] at this
          refine (this.keep ?_).congr fun _ => rfl
          rw [Below.heap_alloc _ _ _ (by simp; omega)]
        · have := MapV.made (W2.alloc (.map #[] 0)) Tryz.prog 9
          simp only [World.size_alloc, hz2] at this
          exact this.congr fun _ => rfl
      · intro k hk
        simp only [List.mem_cons, List.not_mem_nil, or_false] at hk
        have := h2.size
        rcases hk with rfl | rfl | rfl
        · exact Or.inl (by simp)
        · exact Or.inr (by omega)
        · exact Or.inr (by omega)
    · rw [e1] at e3; cases e3
  have HMF : Hid ((nv = .map none ∧ sv = .map none) ∨ ∃ bn bs, nv = .map (some bn) ∧ sv = .map (some bs)) := by
    rcases HM.out with ⟨e1, e2, _⟩ | ⟨bn, bs, e1, e2, _⟩
    · exact Or.inl ⟨e1, e2⟩
    · exact Or.inr ⟨bn, bs, e1, e2⟩
  have hmm := @run_makeMap Tryz.prog
  clear hO hc hm hmem h0 hu
  have hq := fun (w : World) (p : Option Nat) => run_eql_map_nil_sl (P := Tryz.prog) w 24 _ _ p Tryz.underlying24
  clear HM c4 c5
  rcases HMF.out with ⟨rfl, rfl⟩ | ⟨bn, bs, rfl, rfl⟩
  · clear HMF
    rcases Int.lt_or_gt_of_ne H0.out with hs | hs
    · have hP := HPC.out w (Or.inl ⟨rfl, hs⟩)
      rw [decide_eq_false (show ¬ 0 ≤ d.left by omega)] at c3
      obtain ⟨l', hP1, hP2, hP3⟩ := hP
      have HF := Lib.hid (HENDN.out _ l' w.heap.size (by simp) hP1 hP2 rfl)
      clear hP1 hP2 hP3 HPC HEND HENDN hs
      go_enter Tryz.func49, Tryz.ntmps49
      go_wp2_with fail
      refine ON.out.mono ?_
      rintro e1 w1 ⟨rfl, rfl⟩
      go_wp2_with fail
      clear hmm hq
      go_ret
      exact Or.inr ⟨H0.out, rfl, HF.out⟩
    · have hP := HPC.out _ (Or.inr ⟨rfl, hs⟩)
      have hll := HC.out.left (by omega)
      have hl1 : 0 < l := by omega
      have hl2 : l ≤ 9223372036854775807 := by omega
      rw [decide_eq_true (show 0 ≤ d.left by omega)] at c3
      obtain ⟨l', hP1, hP2, hP3⟩ := hP
      have HF := Lib.hid (HENDN.out _ l' w.heap.size (by simp [World.setCell]) hP1 hP2 rfl)
      clear hP1 hP2 hP3 HPC HEND HENDN hs hll
      go_enter Tryz.func49, Tryz.ntmps49
      go_wp2_with fail
      refine ON.out.mono ?_
      rintro e1 w1 ⟨rfl, rfl⟩
      go_wp2_with fail
      clear hmm hq
      go_ret
      exact Or.inr ⟨H0.out, rfl, HF.out⟩
  · clear HMF
    rcases Int.lt_or_gt_of_ne H0.out with hs | hs
    · have hP := HPC.out w (Or.inl ⟨rfl, hs⟩)
      rw [decide_eq_false (show ¬ 0 ≤ d.left by omega)] at c3
      obtain ⟨l', hP1, hP2, hP3⟩ := hP
      have HF := Lib.hid (HEND.out _ l' hP1 hP2 hP3 bn bs rfl rfl)
      clear hP1 hP2 hP3 HPC HEND HENDN hs
      go_enter Tryz.func49, Tryz.ntmps49
      go_wp2_with fail
      refine ON.out.mono ?_
      rintro e1 w1 ⟨rfl, rfl⟩
      go_wp2_with fail
      clear hmm hq
      go_ret
      exact Or.inr ⟨H0.out, rfl, HF.out⟩
    · have hP := HPC.out _ (Or.inr ⟨rfl, hs⟩)
      have hll := HC.out.left (by omega)
      have hl1 : 0 < l := by omega
      have hl2 : l ≤ 9223372036854775807 := by omega
      rw [decide_eq_true (show 0 ≤ d.left by omega)] at c3
      obtain ⟨l', hP1, hP2, hP3⟩ := hP
      have HF := Lib.hid (HEND.out _ l' hP1 hP2 hP3 bn bs rfl rfl)
      clear hP1 hP2 hP3 HPC HEND HENDN hs hll
      go_enter Tryz.func49, Tryz.ntmps49
      go_wp2_with fail
      refine ON.out.mono ?_
      rintro e1 w1 ⟨rfl, rfl⟩
      go_wp2_with fail
      clear hmm hq
      go_ret
      exact Or.inr ⟨H0.out, rfl, HF.out⟩
end Go.Proofs.YtodmnogoacghpaaGreatDoor
