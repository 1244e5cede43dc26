/- depend.Meets and its closure; stevedoreref.Meets: whether a package is what is asked for. -/
import Derived.Test.YtnfnebfioibndaaGreatDoorFunc
namespace Go.Proofs.YtnfnebfioibndaaGreatDoor
open Go.RowKit
set_option maxRecDepth 100000
set_option maxHeartbeats 2000000

def isV (ep : Int) (up rv : ByteArray) (t : TermD) : Bool := isOp (cmpVer ep up.data.toList rv.data.toList t.ep t.up.data.toList t.rv.data.toList) t.op
def provB (t p : TermD) : Bool := (p.name.toList == t.name.toList) && ((t.op == 0) || ((p.op == 3) && isV p.ep p.up p.rv t))
def meetsB (name : ByteArray) (ep : Int) (up rv : ByteArray) (ps : List TermD) (t : TermD) : Bool := ((name.toList == t.name.toList) && isV ep up rv t) || ps.any (provB t)

def SmallT (t : TermD) : Prop := t.up.size ≤ 1000 ∧ t.rv.size ≤ 1000

/-- A term in a variable of its own. -/
structure TermBox (w : World) (b : Nat) (t : TermD) : Prop where
  lt : b < w.heap.size
  c0 : w.cell? ⟨b, 0, none⟩ = some (.string t.name)
  c1 : w.cell? ⟨b, 1, none⟩ = some (.int .i64 t.op)
  c2 : w.cell? ⟨b, 2, none⟩ = some (.int .i64 t.ep)
  c3 : w.cell? ⟨b, 3, none⟩ = some (.string t.up)
  c4 : w.cell? ⟨b, 4, none⟩ = some (.string t.rv)

theorem TermBox.below {w w' : World} {b : Nat} {t : TermD} (h : TermBox w b t) {B : Nat} (hb : Below B w w') (hB : b < B) : TermBox w' b t :=
  ⟨Nat.lt_of_lt_of_le h.lt hb.size, (hb.cell (p := ⟨b, 0, none⟩) hB).trans h.c0, (hb.cell (p := ⟨b, 1, none⟩) hB).trans h.c1, (hb.cell (p := ⟨b, 2, none⟩) hB).trans h.c2, (hb.cell (p := ⟨b, 3, none⟩) hB).trans h.c3, (hb.cell (p := ⟨b, 4, none⟩) hB).trans h.c4⟩

theorem TermBox.new (w : World) (t : TermD) (ty : TypeId) : TermBox (w.alloc (.cells #[.string t.name, .int .i64 t.op, .int .i64 t.ep, .string t.up, .string t.rv] ty)) w.heap.size t := by
  refine ⟨by simp, ?_, ?_, ?_, ?_, ?_⟩ <;> simp [go_sem]

theorem prov_calls (p t : TermD) (b : Nat) (w : World) (hT : TermBox w b t) (h1 : SmallT t) (h2 : SmallT p) :
    Calls Tryz.prog 69 #[.agg #[.string p.name, .int .i64 p.op, .int .i64 p.ep, .string p.up, .string p.rv], .pointer (some ⟨b, 0, none⟩)] w fun e w' => e = .returned (.bool (provB t p)) ∧ Below w.heap.size w w' := by
  obtain ⟨hlt, c0, c1, c2, c3, c4⟩ := hT
  have H1 := Lib.hid h1
  have H2 := Lib.hid h2
  clear h1 h2
  unfold provB
  cases hn : (p.name.toList == t.name.toList)
  · go_enter Tryz.func69, Tryz.ntmps69
    go_wp2
    go_ret
    exact ⟨ret_bool (by simp), by go_grown⟩
  · cases ho : (t.op == 0)
    · cases h3 : (p.op == 3)
      · go_enter Tryz.func69, Tryz.ntmps69
        go_wp2
        go_ret
        exact ⟨ret_bool (by simp), by go_grown⟩
      · unfold isV
        go_enter Tryz.func69, Tryz.ntmps69
        go_wp2_with fail
        refine (verIs_calls _ _ _ _ _ _ _ _ H2.out.1 H2.out.2 H1.out.1 H1.out.2).mono ?_
        rintro e w1 ⟨rfl, hb⟩
        have hB : Below w.heap.size w w1 := (show Below w.heap.size w (w.alloc _) by go_grown).trans (hb.mono (by simp))
        clear hb
        go_wp2_with fail
        go_ret
        exact ⟨ret_bool (by simp), hB⟩
    · go_enter Tryz.func69, Tryz.ntmps69
      go_wp2
      go_ret
      exact ⟨ret_bool (by simp), by go_grown⟩

theorem enters_prov : ∀ args w, (callFunc 69 args).run Tryz.prog w = .ok (.enter 69 args) w := enters_of Tryz.func69 (by kernel_rfl) rfl

/-- What is offered, and what is asked, in one. -/
theorem meets_calls (name : ByteArray) (ep : Int) (up rv : ByteArray) (pv : Value) (ps : List TermD) (t : TermD) (w : World) (hP : Terms w pv ps) (h1 : SmallT t) (h2 : up.size ≤ 1000 ∧ rv.size ≤ 1000) (h3 : ∀ p ∈ ps, SmallT p) :
    Calls Tryz.prog 48 #[.agg #[.string name, .int .i64 ep, .string up, .string rv, pv], .agg #[.string t.name, .int .i64 t.op, .int .i64 t.ep, .string t.up, .string t.rv]] w fun e w' => e = .returned (.bool (meetsB name ep up rv ps t)) ∧ Below w.heap.size w w' := by
  obtain ⟨w0, hw0⟩ : ∃ w0 : World, w0 = (w.alloc (.cells #[.string name, .int .i64 ep, .string up, .string rv, pv] 73)).alloc (.cells #[.string t.name, .int .i64 t.op, .int .i64 t.ep, .string t.up, .string t.rv] 98) := ⟨_, rfl⟩
  have hB0 : Below w.heap.size w w0 := by rw [hw0]; go_grown
  have hz : w0.heap.size = w.heap.size + 1 + 1 := by rw [hw0]; simp
  have hbox : TermBox w0 (w.heap.size + 1) t := by
    rw [hw0]
    have := TermBox.new (w.alloc (.cells #[.string name, .int .i64 ep, .string up, .string rv, pv] 73)) t 98
    simpa using this
  have c0 : w0.cell? ⟨w.heap.size, 0, none⟩ = some (.string name) := by rw [hw0]; simp [go_sem]
  have c1 : w0.cell? ⟨w.heap.size, 1, none⟩ = some (.int .i64 ep) := by rw [hw0]; simp [go_sem]
  have c2 : w0.cell? ⟨w.heap.size, 2, none⟩ = some (.string up) := by rw [hw0]; simp [go_sem]
  have c3 : w0.cell? ⟨w.heap.size, 3, none⟩ = some (.string rv) := by rw [hw0]; simp [go_sem]
  have c4 : w0.cell? ⟨w.heap.size, 4, none⟩ = some pv := by rw [hw0]; simp [go_sem]
  have HP := Lib.hid (hP.below hB0 (Nat.le_refl _))
  have H1 := Lib.hid h1
  have H2 := Lib.hid h2
  have H3 := Lib.hid h3
  have Hbox := Lib.hid hbox
  have HB0 := Lib.hid hB0
  have Hz := Lib.hid hz
  have Hw := Lib.hid hw0
  obtain ⟨-, d0, d1, d2, d3, d4⟩ := hbox
  have CC : Hid (∀ w1, Below w0.heap.size w0 w1 → Calls Tryz.prog 46 #[pv, .func (.func 69) #[] #[.pointer (some ⟨w.heap.size + 1, 0, none⟩)]] w1 fun e w' => e = .returned (.bool (ps.any (provB t))) ∧ Below w1.heap.size w1 w') := by
    intro w1 hb1
    refine containsTerm_calls pv ps _ _ (provB t) w1 (HP.out.below hb1 (Nat.le_refl _)) enters_prov ?_
    intro p hp w2 hb2
    exact prov_calls p t _ w2 ((Hbox.out.below hb1 (by rw [Hz.out]; omega)).below hb2 (by have := hb1.size; rw [Hz.out] at this; omega)) H1.out (H3.out p hp)
  clear hP h1 h2 h3 hB0 hz hw0
  unfold meetsB
  cases hn : (name.toList == t.name.toList)
  · go_enter Tryz.func48, Tryz.ntmps48
    go_wp2_with fail
    rw [← Hw.out]
    go_wp2_with fail
    refine (CC.out w0 (Below.refl _ _)).mono ?_
    rintro e w1 ⟨rfl, hb⟩
    have hB := HB0.out.trans (hb.mono HB0.out.size)
    clear hb c0 c1 c2 c3 c4 d0 d1 d2 d3 d4
    go_wp2_with fail
    go_ret
    exact ⟨ret_bool (by simp), hB⟩
  · cases hv : isV ep up rv t
    · have Hv := Lib.hid hv
      clear hv
      go_enter Tryz.func48, Tryz.ntmps48
      go_wp2_with fail
      rw [← Hw.out]
      go_wp2_with fail
      refine (verIs_calls _ _ _ _ _ _ _ _ H2.out.1 H2.out.2 H1.out.1 H1.out.2).mono ?_
      rintro e w1 ⟨rfl, hb⟩
      rw [show isOp _ _ = false from Hv.out]
      have k4 : w1.cell? ⟨w.heap.size, 4, none⟩ = some pv := (hb.cell (p := ⟨w.heap.size, 4, none⟩) (by rw [Hz.out]; show w.heap.size < _; omega)).trans c4
      clear c0 c1 c2 c3 c4 d0 d1 d2 d3 d4
      go_wp2_with fail
      refine (CC.out w1 hb).mono ?_
      rintro e w2 ⟨rfl, hb2⟩
      have hB := HB0.out.trans ((hb.trans (hb2.mono hb.size)).mono HB0.out.size)
      clear hb hb2 k4
      go_wp2_with fail
      go_ret
      exact ⟨ret_bool (by simp), hB⟩
    · have Hv := Lib.hid hv
      clear hv
      go_enter Tryz.func48, Tryz.ntmps48
      go_wp2_with fail
      rw [← Hw.out]
      go_wp2_with fail
      refine (verIs_calls _ _ _ _ _ _ _ _ H2.out.1 H2.out.2 H1.out.1 H1.out.2).mono ?_
      rintro e w1 ⟨rfl, hb⟩
      rw [show isOp _ _ = true from Hv.out]
      have hB := HB0.out.trans (hb.mono HB0.out.size)
      clear hb c0 c1 c2 c3 c4 d0 d1 d2 d3 d4
      go_wp2_with fail
      go_ret
      exact ⟨ret_bool (by simp), hB⟩
end Go.Proofs.YtnfnebfioibndaaGreatDoor
