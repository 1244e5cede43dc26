/- The document's disk: in, power, NewDisk. -/
import Derived.Test.YtodmnogoacghpaaGreatDoorM14
import Derived.StillTailTactics
namespace Go.Proofs.YtodmnogoacghpaaGreatDoor
open Go.RowKit Go.Maps
set_option maxRecDepth 100000
set_option maxHeartbeats 4000000

theorem zeroState (w : World) : (zeroValue 47).run Tryz.prog w = .ok (.agg #[.string ⟨#[]⟩, .pointer none]) w := by kernel_rfl
theorem in_calls (x lo hi : Int) (w : World) : Calls Tryz.prog 31 #[.int .i64 x, .int .i64 lo, .int .i64 hi] w fun e w' => e = .returned (.bool (decide (lo ≤ x) && decide (x ≤ hi))) ∧ w = w' := by
  obtain ⟨p, hp⟩ : ∃ p, decide (lo ≤ x) = p := ⟨_, rfl⟩
  obtain ⟨q, hq⟩ : ∃ q, decide (x ≤ hi) = q := ⟨_, rfl⟩
  rw [hp, hq]
  cases p <;> cases q
  all_goals
    go_enter Tryz.func31, Tryz.ntmps31
    go_wp2_with fail
    go_ret
    exact ⟨rfl, rfl⟩
theorem inName_calls (f : ByteArray) (w : World) : Calls Tryz.prog 31 #[.int .i64 ((f.size : Nat) : Int), .int .i64 1, .int .i64 80] w fun e w' => e = .returned (.bool (nameB f)) ∧ w = w' := by
  refine (in_calls _ 1 80 w).mono ?_
  rintro e w' ⟨rfl, rfl⟩
  refine ⟨?_, rfl⟩
  have e1 : decide ((1 : Int) ≤ ((f.size : Nat) : Int)) = decide (1 ≤ f.size) := by rw [decide_eq_decide]; omega
  have e2 : decide (((f.size : Nat) : Int) ≤ 80) = decide (f.size ≤ 80) := by rw [decide_eq_decide]; omega
  rw [e1, e2]
  rfl

/-- The document's disk, behind a count. -/
def PowerR (w : World) (a bf : Nat) (G : List Nat) (d : DiskD) (e : Ending) (w' : World) : Prop :=
  (d.left = 0 ∧ e = .returned (.int .i64 14) ∧ w = w') ∨ (d.left ≠ 0 ∧ e = .returned (.int .i64 0) ∧ RDisk w' a bf G (usedD d) ∧ Turn [a] w w' ∧ (∀ k, k ≠ a → w'.heap[k]? = w.heap[k]?) ∧ w'.heap.size = w.heap.size)
theorem power_calls (w : World) (a bf : Nat) (G : List Nat) (d : DiskD) (h : RDisk w a bf G d) (hd : -1 ≤ d.left ∧ d.left ≤ 9223372036854775807) : Calls Tryz.prog 32 #[.pointer (some ⟨a, 0, none⟩)] w (PowerR w a bf G d) := by
  obtain ⟨c0, c1, c2⟩ := h.cells
  have hlt := h.alt
  have z1 := h.free 1
  have H := Lib.hid h
  have HU : Hid (0 < d.left → RDisk (w.setCell ⟨a, 1, none⟩ (.int .i64 (d.left - 1))) a bf G (usedD d) ∧ Turn [a] w (w.setCell ⟨a, 1, none⟩ (.int .i64 (d.left - 1))) ∧ (∀ k, k ≠ a → (w.setCell ⟨a, 1, none⟩ (.int .i64 (d.left - 1))).heap[k]? = w.heap[k]?) ∧ (w.setCell ⟨a, 1, none⟩ (.int .i64 (d.left - 1))).heap.size = w.heap.size) := by
    intro hp
    have hk : ∀ k, k ≠ a → (w.setCell ⟨a, 1, none⟩ (.int .i64 (d.left - 1))).heap[k]? = w.heap[k]? := fun k hk => heapSet_ne w a 1 _ hk
    have hz : (w.setCell ⟨a, 1, none⟩ (.int .i64 (d.left - 1))).heap.size = w.heap.size := by simp [World.setCell]
    refine ⟨⟨?_, h.ne, fun k hk => by rw [hz]; exact h.lt k hk, ?_⟩, (Turn.refl [a] w).setCell (Or.inl (by simp)) _, hk, hz⟩
    · rw [heapSet_same w a 1 _ h.blk]
      unfold usedD
      dsimp only
      rw [if_pos hp]
      rfl
    · obtain ⟨m, hm, hR⟩ := h.map
      exact ⟨m, hm.keep (hk bf h.ne), hR.keep fun k hk' => hk k (h.lt k hk').2.1⟩
  clear c0 c2 h
  rcases Int.lt_trichotomy d.left 0 with hs | hs | hs
  · have h0 : ¬ (d.left = 0) := by omega
    have hg : ¬ (d.left > 0) := by omega
    have HE : Hid (usedD d = d) := by show _ = _; unfold usedD; rw [if_neg (by omega)]
    have H0 := Lib.hid h0
    clear hs
    go_enter Tryz.func32, Tryz.ntmps32
    go_wp2_with fail
    go_ret
    exact Or.inr ⟨H0.out, rfl, by rw [HE.out]; exact H.out, Turn.refl _ _, fun _ _ => rfl, rfl⟩
  · rw [hs] at c1
    have H0 := Lib.hid hs
    clear hs hd
    go_enter Tryz.func32, Tryz.ntmps32
    go_wp2_with fail
    go_ret
    exact Or.inl ⟨H0.out, rfl, rfl⟩
  · have h0 : ¬ (d.left = 0) := by omega
    have hg : d.left > 0 := by omega
    have h1 : IntKind.i64.wrap (d.left - 1) = d.left - 1 := by rw [IntKind.wrap_i64]; omega
    have H0 := Lib.hid h0
    have HX := Lib.hid (HU.out hs)
    clear hs HU
    go_enter Tryz.func32, Tryz.ntmps32
    go_wp2_with fail
    go_ret
    exact Or.inr ⟨H0.out, rfl, HX.out⟩

theorem newDisk_calls (w : World) : Calls Tryz.prog 7 #[] w fun e w' => e = .returned (.pointer (some ⟨w.heap.size + 1, 0, none⟩)) ∧ RDisk w' (w.heap.size + 1) w.heap.size [] zeroD ∧ Below w.heap.size w w' := by
  have hmm := @run_makeMap Tryz.prog
  have HF : Hid (∀ c, c = #[.map (some w.heap.size), .int .i64 (-1), .int .i64 (-1)] → RDisk ((w.alloc (.map #[] 0)).alloc (.cells c 50)) (w.heap.size + 1) w.heap.size [] zeroD ∧ Below w.heap.size w ((w.alloc (.map #[] 0)).alloc (.cells c 50))) := by
    rintro c rfl
    have hz : (w.alloc (.map #[] 0)).heap.size = w.heap.size + 1 := by simp
    refine ⟨⟨?_, by omega, fun k hk => (by cases hk), fun _ => none, ?_, fun f => ⟨fun _ => rfl, fun x hx => (by cases hx)⟩⟩, ((Below.refl _ _).alloc (Nat.le_refl _) _).alloc (by simp) _⟩
    · rw [← hz]; exact (Go.MapKept.heap_alloc _ _).1
    · exact (MapV.made w Tryz.prog 9).keep (Below.heap_alloc _ _ _ (by simp))
  go_enter Tryz.func7, Tryz.ntmps7
  go_wp2_with fail
  clear hmm
  go_ret
  exact ⟨rfl, HF.out _ rfl⟩
end Go.Proofs.YtodmnogoacghpaaGreatDoor
