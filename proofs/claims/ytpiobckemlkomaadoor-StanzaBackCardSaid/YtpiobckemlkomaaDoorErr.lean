/- api.Tell, plain.Place, stevedorelaw.is and bare: an error value is this one, and where. -/
import Derived.Test.YtpiobckemlkomaaDoorAsAt
import Derived.Lib.Hide
namespace Go.Proofs.YtpiobckemlkomaaDoor
open Go.RowKit Go.Extern.Stop Go.Stop Go.Extern

/-- errors.errorType is what errors.As reads. -/
def ErrVar (w : World) : Prop := w.cell? ⟨3, 0, none⟩ = some (.iface 138 (.agg #[.pointer (some ⟨6, 29, none⟩)])) ∧ 3 < w.heap.size

theorem ErrVar.below {w w' : World} (h : ErrVar w) (hb : Below w.heap.size w w') : ErrVar w' :=
  ⟨(hb.cell (p := ⟨3, 0, none⟩) h.2).trans h.1, Nat.lt_of_lt_of_le h.2 hb.size⟩

/-- An error value of the program: its number, and its place (-1: none). -/
inductive ErrV (w : World) : Value → Int → Int → Prop
  | nil : ErrV w .nilIface 0 (-1)
  | no (e : Int) : ErrV w (.iface 23 (.int .i64 e)) e (-1)
  | at (b o : Nat) (e p : Int) (h0 : w.cell? ⟨b, o, none⟩ = some (.int .i64 e)) (h1 : w.cell? ⟨b, o + 1, none⟩ = some (.int .i64 p)) (hb : b < w.heap.size) : ErrV w (.iface 55 (.pointer (some ⟨b, o, none⟩))) e p

theorem ErrV.below {w w' : World} {v : Value} {e p : Int} (h : ErrV w v e p) (hb : Below w.heap.size w w') : ErrV w' v e p := by
  cases h with
  | nil => exact .nil
  | no e => exact .no e
  | «at» b o e p h0 h1 hlt => exact .at b o e p ((hb.cell (p := ⟨b, o, none⟩) hlt).trans h0) ((hb.cell (p := ⟨b, o + 1, none⟩) hlt).trans h1) (Nat.lt_of_lt_of_le hlt hb.size)

theorem asWorld_below (w : World) (t : Addr) (e : Int) {B : Nat} (h : B ≤ t.block) (hB : B ≤ w.heap.size) : Below B w (asWorld w t e) := by
  unfold asWorld
  exact ((((((Below.refl B w).alloc hB _).alloc (by first | (simp; omega) | simp) _).alloc (by first | (simp; omega) | simp) _).alloc (by first | (simp; omega) | simp) _).setCell h _)

theorem asWorld_cell (w : World) (e : Int) : (asWorld (w.alloc (.cells #[.int .i64 0] 23)) ⟨w.heap.size, 0, none⟩ e).cell? ⟨w.heap.size, 0, none⟩ = some (.int .i64 e) := by
  unfold asWorld
  refine World.cell?_setCell_same' _ _ _ ?_
  rw [World.cell?_alloc_lt _ _ _ (by first | (simp; omega) | simp), World.cell?_alloc_lt _ _ _ (by first | (simp; omega) | simp), World.cell?_alloc_lt _ _ _ (by first | (simp; omega) | simp), World.cell?_alloc_lt _ _ _ (by simp)]
  simp [go_sem]

set_option maxHeartbeats 1000000 in
theorem tell_calls (v : Value) (e p : Int) (w : World) (hv : ErrVar w) (h : ErrV w v e p) :
    Calls Tryd.prog 61 #[v] w fun ev w' => ev = .returned (.int .i64 e) ∧ Below w.heap.size w w' := by
  have hg := hv.1
  have hgl := hv.2
  cases h with
  | nil =>
    go_enter Tryd.func61, Tryd.ntmps61
    go_wp2
    go_ret
    exact ⟨rfl, Below.refl _ _⟩
  | no e =>
    have hc := asWorld_cell w e
    have hbb := asWorld_below (w.alloc (.cells #[.int .i64 0] 23)) ⟨w.heap.size, 0, none⟩ e (B := w.heap.size) (Nat.le_refl _) (by simp)
    go_enter Tryd.func61, Tryd.ntmps61
    go_wp2_with fail
    refine (as_hit e _ (.int .i64 0) _ ?h1 ?h2 ?h3).mono ?_
    case h1 => rw [World.cell?_alloc_lt _ _ _ hgl]; exact hg
    case h2 => simp [go_sem]
    case h3 => simp [go_sem]
    rintro ev w' ⟨rfl, rfl⟩
    go_wp2
    go_ret
    exact ⟨rfl, (((Below.refl _ _).alloc (Nat.le_refl _) _).trans hbb)⟩
  | «at» b o e p h0 h1 hlt =>
    have hc := asWorld_cell w e
    have hbb := asWorld_below (w.alloc (.cells #[.int .i64 0] 23)) ⟨w.heap.size, 0, none⟩ e (B := w.heap.size) (Nat.le_refl _) (by simp)
    go_enter Tryd.func61, Tryd.ntmps61
    go_wp2_with fail
    refine (as_at _ e _ (.int .i64 0) _ ?h1 ?ha ?h2 ?h3).mono ?_
    case h1 => rw [World.cell?_alloc_lt _ _ _ hgl]; exact hg
    case ha => rw [World.cell?_alloc_lt _ _ _ hlt]; exact h0
    case h2 => simp [go_sem]
    case h3 => simp [go_sem]
    rintro ev w' ⟨rfl, rfl⟩
    go_wp2
    go_ret
    exact ⟨rfl, (((Below.refl _ _).alloc (Nat.le_refl _) _).trans hbb)⟩

theorem isAt_At (v : Value) (w : World) : (Instr.typeAssert (.iface 55 v) 29 55 true).run Tryd.prog w = .ok (.tuple #[v, .bool true]) w := by kernel_rfl
theorem isAt_E (v : Value) (w : World) : (Instr.typeAssert (.iface 23 v) 29 55 true).run Tryd.prog w = .ok (.tuple #[.pointer none, .bool false]) w := by kernel_rfl

set_option maxRecDepth 100000 in
set_option maxHeartbeats 1000000 in
theorem place_calls (v : Value) (e p : Int) (w : World) (hv : ErrVar w) (h : ErrV w v e p) :
    Calls Tryd.prog 37 #[v] w fun ev w' => ev = .returned (.tuple #[.int .i64 e, .int .i64 p]) ∧ Below w.heap.size w w' := by
  have ht := tell_calls v e p w hv h
  cases h with
  | nil =>
    go_enter Tryd.func37, Tryd.ntmps37
    go_wp2_with fail
    refine ht.mono ?_
    rintro ev w' ⟨rfl, hb⟩
    clear ht
    go_wp2_with fail
    refine wp_loop_rounds 1 ?_
    rw [rounds_succ]
    go_wp2
    go_ret2
    exact ⟨rfl, hb⟩
  | no e =>
    have nE := noUnwrap_E
    have nA := isAt_E
    go_enter Tryd.func37, Tryd.ntmps37
    go_wp2_with fail
    refine ht.mono ?_
    rintro ev w' ⟨rfl, hb⟩
    clear ht
    go_wp2_with fail
    refine wp_loop_rounds 1 ?_
    rw [rounds_succ]
    go_wp2
    go_ret2
    exact ⟨rfl, hb⟩
  | «at» b o e p h0 h1 hlt =>
    go_enter Tryd.func37, Tryd.ntmps37
    go_wp2_with fail
    refine ht.mono ?_
    rintro ev w' ⟨rfl, hb⟩
    clear ht
    have nA := isAt_At
    have c0 := (hb.cell (p := ⟨b, o, none⟩) hlt).trans h0
    have c1 := (hb.cell (p := ⟨b, o + 1, none⟩) hlt).trans h1
    go_wp2_with fail
    refine wp_loop_rounds 1 ?_
    rw [rounds_succ]
    go_wp2
    go_quiet (fail)
    go_wp2
    go_ret2
    exact ⟨rfl, below_drewN hb _⟩

set_option maxHeartbeats 1000000 in
theorem is_calls (v : Value) (e p e' p' : Int) (w : World) (hv : ErrVar w) (h : ErrV w v e p) :
    Calls Tryd.prog 8 #[v, .agg #[.int .i64 e', .int .i64 p']] w fun ev w' => ev = .returned (.bool (e == e' && p == p')) ∧ Below w.heap.size w w' := by
  have hlt := hv.2
  have hb0 : Below w.heap.size w (w.alloc (.cells #[.int .i64 e', .int .i64 p'] 25)) := (Below.refl _ _).alloc (Nat.le_refl _) _
  have hp := place_calls v e p _ (hv.below hb0) (h.below hb0)
  go_enter Tryd.func8, Tryd.ntmps8
  go_wp2_with fail
  refine hp.mono ?_
  rintro ev w' ⟨rfl, hb⟩
  clear hp
  have c0 : w'.cell? ⟨w.heap.size, 0, none⟩ = some (.int .i64 e') := (hb.cell (p := ⟨w.heap.size, 0, none⟩) (by simp)).trans (by simp [go_sem])
  have c1 : w'.cell? ⟨w.heap.size, 1, none⟩ = some (.int .i64 p') := (hb.cell (p := ⟨w.heap.size, 1, none⟩) (by simp)).trans (by simp [go_sem])
  have hb1 := hb0.trans (hb.mono (by simp : w.heap.size ≤ _))
  clear hb
  by_cases he : e = e'
  · have he' : (e == e') = true := by simp [he]
    have HE := Lib.hid he
    clear he
    go_wp2
    go_ret
    exact ⟨by simp [he'], hb1⟩
  · have he' : (e == e') = false := by simp [he]
    clear he
    go_wp2
    go_ret
    exact ⟨by simp [he'], hb1⟩

theorem bare_calls (v : Value) (e p e' : Int) (w : World) (hv : ErrVar w) (h : ErrV w v e p) :
    Calls Tryd.prog 15 #[v, .int .i64 e'] w fun ev w' => ev = .returned (.bool (e == e' && p == -1)) ∧ Below w.heap.size w w' := by
  go_enter Tryd.func15, Tryd.ntmps15
  go_wp2_with fail
  refine Calls.mono (?_ : Calls _ _ _ _ fun e1 w1 => e1 = .returned (.agg #[.int .i64 e', .int .i64 (-1)]) ∧ Below w.heap.size w w1) ?_
  · go_enter Tryd.func40, Tryd.ntmps40
    go_wp2
    go_returns
    exact ⟨rfl, by go_grown⟩
  rintro e1 w1 ⟨rfl, hb⟩
  go_wp2_with fail
  refine (is_calls v e p e' (-1) _ (hv.below hb) (h.below hb)).mono ?_
  rintro e2 w2 ⟨rfl, hb2⟩
  go_wp2
  go_ret
  exact ⟨rfl, hb.trans (hb2.mono hb.size)⟩
end Go.Proofs.YtpiobckemlkomaaDoor
