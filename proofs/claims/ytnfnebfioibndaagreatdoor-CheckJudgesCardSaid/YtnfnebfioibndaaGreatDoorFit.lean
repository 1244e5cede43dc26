/- What the law's bounds say of packages; the document's Bare; the variable Fine; a result that lies in a variable. -/
import Derived.Test.YtnfnebfioibndaaGreatDoorJudge
namespace Go.Proofs.YtnfnebfioibndaaGreatDoor
open Go.RowKit
set_option maxRecDepth 100000

theorem held_next {P : World → Prop} {w1 : World} (H : ∀ w', Below w1.heap.size w1 w' → P w') {w' w'' : World} (h : Below w1.heap.size w1 w') (hb : Below w'.heap.size w' w'') : Below w1.heap.size w1 w'' ∧ P w'' :=
  ⟨h.trans (hb.mono h.size), H _ (h.trans (hb.mono h.size))⟩
theorem small_of_flat {ts : List TermD} (h : flatB ts = true) : ∀ t ∈ ts, SmallT t := by
  intro t ht
  unfold flatB at h
  rw [Bool.and_eq_true, List.all_eq_true] at h
  have := h.2 t ht
  unfold termB shortB at this
  simp only [Bool.and_eq_true, decide_eq_true_eq] at this
  exact ⟨by omega, by omega⟩
theorem small_of_terms {ls : List (List TermD)} (h : termsB ls = true) : ∀ l ∈ ls, ∀ t ∈ l, SmallT t := by
  intro l hl
  unfold termsB at h
  rw [Bool.and_eq_true, List.all_eq_true] at h
  exact small_of_flat (h.2 l hl)
structure SmallP (p : PackD) : Prop where
  sm : p.up.size ≤ 1000 ∧ p.rv.size ≤ 1000
  provides : ∀ q ∈ p.provides, SmallT q
  against : ∀ q ∈ p.against, SmallT q
  breaks : ∀ q ∈ p.breaks, SmallT q
  depends : ∀ l ∈ p.depends, ∀ t ∈ l, SmallT t
  ahead : ∀ l ∈ p.ahead, ∀ t ∈ l, SmallT t
theorem smallP_of_says {p : PackD} (h : saysB p = true) : SmallP p := by
  unfold saysB shortB at h
  simp only [Bool.and_eq_true, decide_eq_true_eq] at h
  obtain ⟨_, ⟨h1, h2⟩, hd, ha, hg, hb, _, h3, _⟩ := h
  exact ⟨⟨by omega, by omega⟩, small_of_flat h3, small_of_flat hg, small_of_flat hb, small_of_terms hd, small_of_terms ha⟩
structure FitK (ks : List KnownD) : Prop where
  len : ks.length ≤ 20
  pos : ∀ k ∈ ks, 0 ≤ k.state
  small : ∀ k ∈ ks, SmallP k.pack

theorem refBare_calls (e : Int) (w : World) : Calls Tryz.prog 31 #[.int .i64 e] w fun ev w' => ev = .returned (.agg #[.int .i64 e, .int .i64 (-1)]) ∧ Below w.heap.size w w' := by
  go_enter Tryz.func31, Tryz.ntmps31
  go_wp2
  go_returns
  exact ⟨rfl, by go_grown⟩

/-- The variable Fine. -/
structure FineR (w : World) : Prop where
  lt : 0 < w.heap.size
  c0 : w.cell? ⟨0, 0, none⟩ = some (.int .i64 0)
  c1 : w.cell? ⟨0, 1, none⟩ = some (.int .i64 (-1))
theorem FineR.below {w w' : World} (h : FineR w) {B : Nat} (hb : Below B w w') (hB : w.heap.size ≤ B) : FineR w' :=
  ⟨Nat.lt_of_lt_of_le h.lt hb.size, (hb.cell (p := ⟨0, 0, none⟩) (Nat.lt_of_lt_of_le h.lt hB)).trans h.c0, (hb.cell (p := ⟨0, 1, none⟩) (Nat.lt_of_lt_of_le h.lt hB)).trans h.c1⟩

/-- A result of two numbers, in a variable that nothing was written into. -/
structure ResC (w : World) (b : Nat) : Prop where
  lt : b < w.heap.size
  c : w.heap[b]? = some (.cells #[.int .i64 0, .int .i64 0] 42)
theorem ResC.below {w w' : World} {b : Nat} (h : ResC w b) {B : Nat} (hb : Below B w w') (hB : b < B) : ResC w' b := ⟨Nat.lt_of_lt_of_le h.lt hb.size, (hb.block b hB).trans h.c⟩
theorem ResC.new (w : World) : ResC (w.alloc (.cells #[.int .i64 0, .int .i64 0] 42)) w.heap.size := ⟨by simp, heap_alloc_new w _⟩
theorem ResC.c0 {w : World} {b : Nat} (h : ResC w b) : w.cell? ⟨b, 0, none⟩ = some (.int .i64 0) := by simp [World.cell?, h.c]
theorem ResC.c1 {w : World} {b : Nat} (h : ResC w b) : w.cell? ⟨b, 1, none⟩ = some (.int .i64 0) := by simp [World.cell?, h.c]
theorem ResC.z0 {w : World} {b : Nat} (h : ResC w b) : w.frozen? ⟨b, 0, none⟩ = false := by simp [World.frozen?, h.c]
theorem ResC.z1 {w : World} {b : Nat} (h : ResC w b) : w.frozen? ⟨b, 1, none⟩ = false := by simp [World.frozen?, h.c]
theorem ResC.d0 {w : World} {b : Nat} (h : ResC w b) (x : Value) : (w.setCell ⟨b, 0, none⟩ x).cell? ⟨b, 0, none⟩ = some x := World.cell?_setCell_same' _ _ _ (by rw [h.c0]; rfl)
theorem ResC.d1 {w : World} {b : Nat} (h : ResC w b) (x y : Value) : ((w.setCell ⟨b, 0, none⟩ x).setCell ⟨b, 1, none⟩ y).cell? ⟨b, 1, none⟩ = some y := World.cell?_setCell_same' _ _ _ (by rw [show (w.setCell ⟨b, 0, none⟩ x).cell? ⟨b, 1, none⟩ = w.cell? ⟨b, 1, none⟩ from World.cell?_setCell_other _ _ _ _ (by simp), h.c1]; rfl)

theorem PackCOk.below {w w' : World} {o : PackC} (h : PackCOk w o) {B : Nat} (hb : Below B w w') (hB : w.heap.size ≤ B) : PackCOk w' o := ⟨h.len, h.ok.below hb hB⟩
theorem working_packs {w w' : World} {ks : List KnownD} {but : List Int} {ov : Value} {os : List PackC} (hown : w'.ownsRow w.heap.size 30 13 ov os.length (packsRows os)) (hps : os.map PackC.pack = picksW ks but ks.length) (hok : ∀ o ∈ os, PackCOk w o) (hb : Below w.heap.size w w') : Packs w' ov (picksW ks but ks.length) := by
  rw [← hps]
  exact packs_owned hown (fun o ho => (hok o ho).below hb (Nat.le_refl _))
theorem info_int : (Tryz.prog.info? 3).map (fun i => (i.zero, i.size, i.bytes)) = some (some (.int .i64 0), 1, 8) := by kernel_rfl
theorem ints_owned {w : World} {base : Nat} {e : TypeId} {v : Value} {ns : List Int} (h : w.ownsRow base e 1 v ns.length (ns.map (Value.int .i64))) : Ints w v ns := by
  refine ⟨?_, trivial⟩
  rcases id h.2 with ⟨rfl, h0⟩ | ⟨g, cap, cur, rfl, _, hg, h1, h2, _⟩
  · rw [h0]
    exact Sl.nil _ _ _
  · refine ⟨_, cap, rfl, h1, h2, Or.inr ⟨g, 0, rfl, ?_, fun i j hi hj => ?_⟩⟩
    · rcases Nat.lt_or_ge g w.heap.size with hlt | hge
      · exact hlt
      · rw [Array.getElem?_eq_none hge] at hg; cases hg
    · obtain rfl : j = 0 := by omega
      have := h.cellAt i (by omega)
      rw [Nat.zero_add, Nat.mul_one, Nat.add_zero, this]
      simp [List.getD, List.getElem?_eq_getElem hi]
theorem picks_mem {ks : List KnownD} {but : List Int} {n : Nat} (hn : n ≤ ks.length) {q : PackD} (hq : q ∈ picksW ks but n) : ∃ k ∈ ks, k.pack = q := by
  unfold picksW at hq
  obtain ⟨i, hi, rfl⟩ := List.mem_map.1 hq
  have := List.mem_range.1 (List.mem_filter.1 hi).1
  exact ⟨_, mem_getD _ (by omega), rfl⟩
theorem rangeAt_drop7 {w : World} {b : Nat} {x0 x1 x2 x3 x4 x5 x6 : Value} {vs : List Value} (h : w.rangeAt b 0 (x0 :: x1 :: x2 :: x3 :: x4 :: x5 :: x6 :: vs)) : w.rangeAt b 7 vs :=
  rangeAt_tail (rangeAt_tail (rangeAt_tail (rangeAt_tail (rangeAt_tail (rangeAt_tail (rangeAt_tail h))))))
theorem rangeAt_at7 {w : World} {b o : Nat} {x0 x1 x2 x3 x4 x5 x6 : Value} {vs : List Value} (h : w.rangeAt b o (x0 :: x1 :: x2 :: x3 :: x4 :: x5 :: x6 :: vs)) : w.rangeAt b (o + 7) vs := by
  intro k v hv
  have := h (k + 7) v (by simpa using hv)
  rwa [show o + (k + 7) = o + 7 + k by omega] at this
end Go.Proofs.YtnfnebfioibndaaGreatDoor
