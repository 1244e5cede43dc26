/- depend.Meets and its closure; stevedoreref.Meets: whether a package is what is asked for. · stevedoreref.Meets: the document's answer on the same. · Met, both: whether of each of what is asked for one is there. · stevedoreref.Met. -/
import Derived.Test.YtnfnebfioibndaaGreatDoorM06
import Derived.LoopTactic
import Derived.Deep.LoopGhost
import Derived.Deep.CutBlock
import Derived.Deep.DeepCutAuto
import Derived.Outline
namespace Go.Proofs.YtnfnebfioibndaaGreatDoor
open Go.RowKit
set_option maxRecDepth 100000
set_option maxHeartbeats 2000000

def isV (ep : Int) (up rv : ByteArray) (t : TermD) : Bool := isOp (cmpVer ep up.data.toList rv.data.toList t.ep t.up.data.toList t.rv.data.toList) t.op
def provB (t p : TermD) : Bool := (p.name.toList == t.name.toList) && ((t.op == 0) || ((p.op == 3) && isV p.ep p.up p.rv t))
def meetsB (name : ByteArray) (ep : Int) (up rv : ByteArray) (ps : List TermD) (t : TermD) : Bool := ((name.toList == t.name.toList) && isV ep up rv t) || ps.any (provB t)

def SmallT (t : TermD) : Prop := t.up.size ≤ 1000 ∧ t.rv.size ≤ 1000

/-- A term in a variable of its own. -/
structure TermBox (w : World) (b : Nat) (t : TermD) : Prop where
  lt : b < w.heap.size
  c0 : w.cell? ⟨b, 0, none⟩ = some (.string t.name)
  c1 : w.cell? ⟨b, 1, none⟩ = some (.int .i64 t.op)
  c2 : w.cell? ⟨b, 2, none⟩ = some (.int .i64 t.ep)
  c3 : w.cell? ⟨b, 3, none⟩ = some (.string t.up)
  c4 : w.cell? ⟨b, 4, none⟩ = some (.string t.rv)

theorem TermBox.below {w w' : World} {b : Nat} {t : TermD} (h : TermBox w b t) {B : Nat} (hb : Below B w w') (hB : b < B) : TermBox w' b t :=
  ⟨Nat.lt_of_lt_of_le h.lt hb.size, (hb.cell (p := ⟨b, 0, none⟩) hB).trans h.c0, (hb.cell (p := ⟨b, 1, none⟩) hB).trans h.c1, (hb.cell (p := ⟨b, 2, none⟩) hB).trans h.c2, (hb.cell (p := ⟨b, 3, none⟩) hB).trans h.c3, (hb.cell (p := ⟨b, 4, none⟩) hB).trans h.c4⟩

theorem TermBox.new (w : World) (t : TermD) (ty : TypeId) : TermBox (w.alloc (.cells #[.string t.name, .int .i64 t.op, .int .i64 t.ep, .string t.up, .string t.rv] ty)) w.heap.size t := by
  refine ⟨by simp, ?_, ?_, ?_, ?_, ?_⟩ <;> simp [go_sem]

theorem prov_calls (p t : TermD) (b : Nat) (w : World) (hT : TermBox w b t) (h1 : SmallT t) (h2 : SmallT p) :
    Calls Tryz.prog 69 #[.agg #[.string p.name, .int .i64 p.op, .int .i64 p.ep, .string p.up, .string p.rv], .pointer (some ⟨b, 0, none⟩)] w fun e w' => e = .returned (.bool (provB t p)) ∧ Below w.heap.size w w' := by
  obtain ⟨hlt, c0, c1, c2, c3, c4⟩ := hT
  have H1 := Lib.hid h1
  have H2 := Lib.hid h2
  clear h1 h2
  unfold provB
  cases hn : (p.name.toList == t.name.toList)
  · go_enter Tryz.func69, Tryz.ntmps69
    go_wp2
    go_ret
    exact ⟨ret_bool (by simp), by go_grown⟩
  · cases ho : (t.op == 0)
    · cases h3 : (p.op == 3)
      · go_enter Tryz.func69, Tryz.ntmps69
        go_wp2
        go_ret
        exact ⟨ret_bool (by simp), by go_grown⟩
      · unfold isV
        go_enter Tryz.func69, Tryz.ntmps69
        go_wp2_with fail
        refine (verIs_calls _ _ _ _ _ _ _ _ H2.out.1 H2.out.2 H1.out.1 H1.out.2).mono ?_
        rintro e w1 ⟨rfl, hb⟩
        have hB : Below w.heap.size w w1 := (show Below w.heap.size w (w.alloc _) by go_grown).trans (hb.mono (by simp))
        clear hb
        go_wp2_with fail
        go_ret
        exact ⟨ret_bool (by simp), hB⟩
    · go_enter Tryz.func69, Tryz.ntmps69
      go_wp2
      go_ret
      exact ⟨ret_bool (by simp), by go_grown⟩

theorem enters_prov : ∀ args w, (callFunc 69 args).run Tryz.prog w = .ok (.enter 69 args) w := enters_of Tryz.func69 (by kernel_rfl) rfl

/-- What is offered, and what is asked, in one. -/
theorem meets_calls (name : ByteArray) (ep : Int) (up rv : ByteArray) (pv : Value) (ps : List TermD) (t : TermD) (w : World) (hP : Terms w pv ps) (h1 : SmallT t) (h2 : up.size ≤ 1000 ∧ rv.size ≤ 1000) (h3 : ∀ p ∈ ps, SmallT p) :
    Calls Tryz.prog 48 #[.agg #[.string name, .int .i64 ep, .string up, .string rv, pv], .agg #[.string t.name, .int .i64 t.op, .int .i64 t.ep, .string t.up, .string t.rv]] w fun e w' => e = .returned (.bool (meetsB name ep up rv ps t)) ∧ Below w.heap.size w w' := by
  obtain ⟨w0, hw0⟩ : ∃ w0 : World, w0 = (w.alloc (.cells #[.string name, .int .i64 ep, .string up, .string rv, pv] 73)).alloc (.cells #[.string t.name, .int .i64 t.op, .int .i64 t.ep, .string t.up, .string t.rv] 98) := ⟨_, rfl⟩
  have hB0 : Below w.heap.size w w0 := by rw [hw0]; go_grown
  have hz : w0.heap.size = w.heap.size + 1 + 1 := by rw [hw0]; simp
  have hbox : TermBox w0 (w.heap.size + 1) t := by
    rw [hw0]
    have := TermBox.new (w.alloc (.cells #[.string name, .int .i64 ep, .string up, .string rv, pv] 73)) t 98
    simpa using this
  have c0 : w0.cell? ⟨w.heap.size, 0, none⟩ = some (.string name) := by rw [hw0]; simp [go_sem]
  have c1 : w0.cell? ⟨w.heap.size, 1, none⟩ = some (.int .i64 ep) := by rw [hw0]; simp [go_sem]
  have c2 : w0.cell? ⟨w.heap.size, 2, none⟩ = some (.string up) := by rw [hw0]; simp [go_sem]
  have c3 : w0.cell? ⟨w.heap.size, 3, none⟩ = some (.string rv) := by rw [hw0]; simp [go_sem]
  have c4 : w0.cell? ⟨w.heap.size, 4, none⟩ = some pv := by rw [hw0]; simp [go_sem]
  have HP := Lib.hid (hP.below hB0 (Nat.le_refl _))
  have H1 := Lib.hid h1
  have H2 := Lib.hid h2
  have H3 := Lib.hid h3
  have Hbox := Lib.hid hbox
  have HB0 := Lib.hid hB0
  have Hz := Lib.hid hz
  have Hw := Lib.hid hw0
  obtain ⟨-, d0, d1, d2, d3, d4⟩ := hbox
  have CC : Hid (∀ w1, Below w0.heap.size w0 w1 → Calls Tryz.prog 46 #[pv, .func (.func 69) #[] #[.pointer (some ⟨w.heap.size + 1, 0, none⟩)]] w1 fun e w' => e = .returned (.bool (ps.any (provB t))) ∧ Below w1.heap.size w1 w') := by
    intro w1 hb1
    refine containsTerm_calls pv ps _ _ (provB t) w1 (HP.out.below hb1 (Nat.le_refl _)) enters_prov ?_
    intro p hp w2 hb2
    exact prov_calls p t _ w2 ((Hbox.out.below hb1 (by rw [Hz.out]; omega)).below hb2 (by have := hb1.size; rw [Hz.out] at this; omega)) H1.out (H3.out p hp)
  clear hP h1 h2 h3 hB0 hz hw0
  unfold meetsB
  cases hn : (name.toList == t.name.toList)
  · go_enter Tryz.func48, Tryz.ntmps48
    go_wp2_with fail
    rw [← Hw.out]
    go_wp2_with fail
    refine (CC.out w0 (Below.refl _ _)).mono ?_
    rintro e w1 ⟨rfl, hb⟩
    have hB := HB0.out.trans (hb.mono HB0.out.size)
    clear hb c0 c1 c2 c3 c4 d0 d1 d2 d3 d4
    go_wp2_with fail
    go_ret
    exact ⟨ret_bool (by simp), hB⟩
  · cases hv : isV ep up rv t
    · have Hv := Lib.hid hv
      clear hv
      go_enter Tryz.func48, Tryz.ntmps48
      go_wp2_with fail
      rw [← Hw.out]
      go_wp2_with fail
      refine (verIs_calls _ _ _ _ _ _ _ _ H2.out.1 H2.out.2 H1.out.1 H1.out.2).mono ?_
      rintro e w1 ⟨rfl, hb⟩
      rw [show isOp _ _ = false from Hv.out]
      have k4 : w1.cell? ⟨w.heap.size, 4, none⟩ = some pv := (hb.cell (p := ⟨w.heap.size, 4, none⟩) (by rw [Hz.out]; show w.heap.size < _; omega)).trans c4
      clear c0 c1 c2 c3 c4 d0 d1 d2 d3 d4
      go_wp2_with fail
      refine (CC.out w1 hb).mono ?_
      rintro e w2 ⟨rfl, hb2⟩
      have hB := HB0.out.trans ((hb.trans (hb2.mono hb.size)).mono HB0.out.size)
      clear hb hb2 k4
      go_wp2_with fail
      go_ret
      exact ⟨ret_bool (by simp), hB⟩
    · have Hv := Lib.hid hv
      clear hv
      go_enter Tryz.func48, Tryz.ntmps48
      go_wp2_with fail
      rw [← Hw.out]
      go_wp2_with fail
      refine (verIs_calls _ _ _ _ _ _ _ _ H2.out.1 H2.out.2 H1.out.1 H1.out.2).mono ?_
      rintro e w1 ⟨rfl, hb⟩
      rw [show isOp _ _ = true from Hv.out]
      have hB := HB0.out.trans (hb.mono HB0.out.size)
      clear hb c0 c1 c2 c3 c4 d0 d1 d2 d3 d4
      go_wp2_with fail
      go_ret
      exact ⟨ret_bool (by simp), hB⟩
end Go.Proofs.YtnfnebfioibndaaGreatDoor
namespace Go.Proofs.YtnfnebfioibndaaGreatDoor
open Go.RowKit
set_option maxRecDepth 100000
set_option maxHeartbeats 4000000

theorem refMeets_calls (p : PackD) (dv av gv bv rv pv sv lv : Value) (fa : Option Addr) (fn fc : Nat) (t : TermD) (w : World) (hP : Terms w pv p.provides) (h1 : SmallT t) (h2 : p.up.size ≤ 1000 ∧ p.rv.size ≤ 1000) (h3 : ∀ q ∈ p.provides, SmallT q) :
    Calls Tryz.prog 60 #[.agg #[.string p.name, .int .i64 p.ep, .string p.up, .string p.rv, dv, av, gv, bv, rv, pv, sv, lv, .slice fa fn fc], .agg #[.string t.name, .int .i64 t.op, .int .i64 t.ep, .string t.up, .string t.rv]] w fun e w' => e = .returned (.bool (meetsB p.name p.ep p.up p.rv p.provides t)) ∧ Below w.heap.size w w' := by
  obtain ⟨w0, hw0⟩ : ∃ w0 : World, w0 = (w.alloc (.cells #[.string p.name, .int .i64 p.ep, .string p.up, .string p.rv, dv, av, gv, bv, rv, pv, sv, lv, .slice fa fn fc] 30)).alloc (.cells #[.string t.name, .int .i64 t.op, .int .i64 t.ep, .string t.up, .string t.rv] 98) := ⟨_, rfl⟩
  have hB0 : Below w.heap.size w w0 := by rw [hw0]; go_grown
  have hz : w0.heap.size = w.heap.size + 1 + 1 := by rw [hw0]; simp
  have hbox : TermBox w0 (w.heap.size + 1) t := by
    rw [hw0]
    have := TermBox.new (w.alloc (.cells #[.string p.name, .int .i64 p.ep, .string p.up, .string p.rv, dv, av, gv, bv, rv, pv, sv, lv, .slice fa fn fc] 30)) t 98
    simpa using this
  have c0 : w0.cell? ⟨w.heap.size, 0, none⟩ = some (.string p.name) := by rw [hw0]; simp [go_sem]
  have c1 : w0.cell? ⟨w.heap.size, 1, none⟩ = some (.int .i64 p.ep) := by rw [hw0]; simp [go_sem]
  have c2 : w0.cell? ⟨w.heap.size, 2, none⟩ = some (.string p.up) := by rw [hw0]; simp [go_sem]
  have c3 : w0.cell? ⟨w.heap.size, 3, none⟩ = some (.string p.rv) := by rw [hw0]; simp [go_sem]
  obtain ⟨⟨a, cap, rfl, hcap, hmax, hcell⟩, -⟩ := hP.below hB0 (Nat.le_refl _)
  have c9 : w0.cell? ⟨w.heap.size, 9, none⟩ = some (.slice a p.provides.length cap) := by rw [hw0]; simp [go_sem]
  unfold maxLen at hmax
  have Hcell := Lib.hid hcell
  have H1 := Lib.hid h1
  have H2 := Lib.hid h2
  have H3 := Lib.hid h3
  have Hbox := Lib.hid hbox
  have HB0 := Lib.hid hB0
  have Hz := Lib.hid hz
  have Hw := Lib.hid hw0
  obtain ⟨n, hn⟩ : ∃ n, p.provides.length = n := ⟨_, rfl⟩
  rw [hn] at hcap Hcell c9
  have Hn := Lib.hid hn
  obtain ⟨-, d0, d1, d2, d3, d4⟩ := hbox
  clear hP h1 h2 h3 hB0 hz hw0 hcell hn
  unfold meetsB
  have LOOP : ∀ (fr : Unit), True := fun _ => trivial
  clear LOOP
  cases hm : (p.name.toList == t.name.toList)
  case' true => cases hv : isV p.ep p.up p.rv t
  case true.true =>
    have Hv := Lib.hid hv
    clear hv
    go_enter Tryz.func60, Tryz.ntmps60
    go_wp2_with fail
    rw [← Hw.out]
    go_wp2_with fail
    refine (refIs_calls _ _ _ _ _ _ _ _ H2.out.1 H2.out.2 H1.out.1 H1.out.2).mono ?_
    rintro e w1 ⟨rfl, hb⟩
    rw [show isOp _ _ = true from Hv.out]
    have hB := HB0.out.trans (hb.mono HB0.out.size)
    clear hb c0 c1 c2 c3 c9 d0 d1 d2 d3 d4
    go_wp2_with fail
    go_ret
    exact ⟨ret_bool (by simp), hB⟩
  case' true.false =>
    have Hv := Lib.hid hv
    clear hv
    go_enter Tryz.func60, Tryz.ntmps60
    go_wp2_with fail
    rw [← Hw.out]
    go_wp2_with fail
    refine (refIs_calls _ _ _ _ _ _ _ _ H2.out.1 H2.out.2 H1.out.1 H1.out.2).mono ?_
    rintro e w1 ⟨rfl, hB1⟩
    rw [show isOp _ _ = false from Hv.out]
    have k9 : w1.cell? ⟨w.heap.size, 9, none⟩ = some (.slice a n cap) := (hB1.cell (p := ⟨w.heap.size, 9, none⟩) (by rw [Hz.out]; show w.heap.size < _; omega)).trans c9
    clear c0 c1 c2 c3 c9 d0 d1 d2 d3 d4
    go_wp2_with fail
    clear k9 Hv
  case' false =>
    have hB1 := Below.refl w0.heap.size w0
    go_enter Tryz.func60, Tryz.ntmps60
    go_wp2_with fail
    rw [← Hw.out]
    go_wp2_with fail
    clear c0 c1 c2 c3 c9 d0 d1 d2 d3 d4
  all_goals
    clear hm
    go_loopg [24] n (fun k v24 wr => ∃ i : Nat, v24 = .int .i64 i ∧ i ≤ n ∧ k = n - i ∧ (p.provides.take i).any (provB t) = false ∧ Below w0.heap.size w0 wr)
    case atStart => exact ⟨0, rfl, Nat.zero_le _, rfl, rfl, hB1⟩
    case round =>
      clear hB1
      obtain ⟨i, rfl, hi, hk, hall, hB⟩ := hrel
      have Hk := Lib.hid hk
      have Hall := Lib.hid hall
      have hfin := HB0.out.trans (hB.mono HB0.out.size)
      clear hk hall
      by_cases hlt : i < n
      · obtain ⟨b, o, rfl, hb, hc⟩ := Hcell.out.resolve_left (by omega)
        obtain ⟨q, hq⟩ : ∃ q, TermD.at p.provides i = q := ⟨_, rfl⟩
        have HM : Hid (q ∈ p.provides) := by
          show q ∈ p.provides
          rw [← hq]
          exact mem_at (by rw [Hn.out]; exact hlt)
        have c0 : wr.cell? ⟨b, o + i * 5, none⟩ = some (.string q.name) := (hB.cell (p := ⟨b, o + i * 5, none⟩) hb).trans (by have := hc i 0 hlt (by decide); rw [hq] at this; exact this)
        have c1 : wr.cell? ⟨b, o + i * 5 + 1, none⟩ = some (.int .i64 q.op) := (hB.cell (p := ⟨b, o + i * 5 + 1, none⟩) hb).trans (by have := hc i 1 hlt (by decide); rw [hq] at this; exact this)
        have c2 : wr.cell? ⟨b, o + i * 5 + 2, none⟩ = some (.int .i64 q.ep) := (hB.cell (p := ⟨b, o + i * 5 + 2, none⟩) hb).trans (by have := hc i 2 hlt (by decide); rw [hq] at this; exact this)
        have c3 : wr.cell? ⟨b, o + i * 5 + 3, none⟩ = some (.string q.up) := (hB.cell (p := ⟨b, o + i * 5 + 3, none⟩) hb).trans (by have := hc i 3 hlt (by decide); rw [hq] at this; exact this)
        have c4 : wr.cell? ⟨b, o + i * 5 + 4, none⟩ = some (.string q.rv) := (hB.cell (p := ⟨b, o + i * 5 + 4, none⟩) hb).trans (by have := hc i 4 hlt (by decide); rw [hq] at this; exact this)
        obtain ⟨-, d0, d1, d2, d3, d4⟩ := Hbox.out.below hB (by rw [Hz.out]; omega)
        have HQ := Lib.hid hq
        have hsz : w.heap.size + 1 < wr.heap.size := by have := hB.size; rw [Hz.out] at this; omega
        have NO : Hid (provB t q = false → (p.provides.take (i + 1)).any (provB t) = false) := fun h => any_step TermD.none (by rw [Hn.out]; exact hlt) Hall.out (by rw [show p.provides.getD i TermD.none = q from HQ.out]; exact h)
        have YES : Hid (provB t q = true → p.provides.any (provB t) = true) := fun h => by rw [List.any_eq_true]; exact ⟨q, HM.out, h⟩
        have hlt2 : i < p.provides.length := by rw [Hn.out]; exact hlt
        clear hc hq hb
        cases hn : (q.name.toList == t.name.toList)
        · have Hs : Hid (provB t q = false) := by show provB t q = false; unfold provB; rw [hn]; rfl
          have Hnext := Lib.hid (NO.out Hs.out)
          clear YES NO
          go_wp2_with fail
          go_roundg (n - (i + 1))
          case rel => exact ⟨i + 1, by go_num, by omega, rfl, Hnext.out, hB.alloc hB.size _⟩
          case measure => have := Hk.out; omega
        · cases ho : (t.op == 0)
          · cases h3 : (q.op == 3)
            · have Hs : Hid (provB t q = false) := by show provB t q = false; unfold provB; rw [ho, h3]; simp
              have Hnext := Lib.hid (NO.out Hs.out)
              clear YES NO
              go_wp2_with fail
              go_roundg (n - (i + 1))
              case rel => exact ⟨i + 1, by go_num, by omega, rfl, Hnext.out, hB.alloc hB.size _⟩
              case measure => have := Hk.out; omega
            · cases hv : isV q.ep q.up q.rv t
              · have Hs : Hid (provB t q = false) := by show provB t q = false; unfold provB; rw [hv]; simp [ho]
                have Hnext := Lib.hid (NO.out Hs.out)
                have Hv := Lib.hid hv
                clear YES NO hv
                go_wp2_with fail
                refine (refIs_calls _ _ _ _ _ _ _ _ (H3.out q HM.out).1 (H3.out q HM.out).2 H1.out.1 H1.out.2).mono ?_
                rintro e w1 ⟨rfl, hb⟩
                rw [show isOp _ _ = false from Hv.out]
                have hB1 := (hB.alloc hB.size _).trans (hb.mono (by have := hB.size; simp; omega))
                clear hb c0 c1 c2 c3 c4 d0 d1 d2 d3 d4
                go_wp2_with fail
                go_roundg (n - (i + 1))
                case rel => exact ⟨i + 1, by go_num, by omega, rfl, Hnext.out, hB1⟩
                case measure => have := Hk.out; omega
              · have Hs : Hid (provB t q = true) := by show provB t q = true; unfold provB; rw [hn, h3, hv]; simp
                have Hyes := Lib.hid (YES.out Hs.out)
                have Hv := Lib.hid hv
                clear YES NO hv
                go_wp2_with fail
                refine (refIs_calls _ _ _ _ _ _ _ _ (H3.out q HM.out).1 (H3.out q HM.out).2 H1.out.1 H1.out.2).mono ?_
                rintro e w1 ⟨rfl, hb⟩
                rw [show isOp _ _ = true from Hv.out]
                have hB1 := (hB.alloc hB.size _).trans (hb.mono (by have := hB.size; simp; omega))
                have hF := HB0.out.trans (hB1.mono HB0.out.size)
                clear hb hB1 c0 c1 c2 c3 c4 d0 d1 d2 d3 d4
                go_wp2_with fail
                go_ret
                exact ⟨ret_bool (by simp [Hyes.out]), hF⟩
          · have Hs : Hid (provB t q = true) := by show provB t q = true; unfold provB; rw [hn, ho]; rfl
            have Hyes := Lib.hid (YES.out Hs.out)
            clear YES NO
            go_wp2_with fail
            go_ret
            exact ⟨ret_bool (by simp [Hyes.out]), hfin.alloc hfin.size _⟩
      · have hin : i = n := by omega
        have Hany : Hid (p.provides.any (provB t) = false) := by
          show p.provides.any (provB t) = false
          have := Hall.out
          rwa [List.take_of_length_le (by rw [Hn.out]; omega)] at this
        clear Hall
        have hlt2 : ¬ i < p.provides.length := by rw [Hn.out]; exact hlt
        clear hin
        go_wp2_with fail
        go_ret
        exact ⟨ret_bool (by simp [Hany.out]), hfin⟩
end Go.Proofs.YtnfnebfioibndaaGreatDoor
namespace Go.Proofs.YtnfnebfioibndaaGreatDoor
open Go.RowKit
set_option maxRecDepth 100000
set_option maxHeartbeats 4000000

def offB (t : TermD) (o : OffD) : Bool := meetsB o.name o.ep o.up o.rv o.provides t
def packB (t : TermD) (p : PackD) : Bool := meetsB p.name p.ep p.up p.rv p.provides t
def oneO (os : List OffD) (x : List TermD) : Bool := x.any fun t => os.any (offB t)
def oneP (ps : List PackD) (x : List TermD) : Bool := x.any fun t => ps.any (packB t)
def metR (f : List TermD → Bool) (ls : List (List TermD)) : Int × Bool :=
  match ls.findIdx? (fun x => !f x) with
  | some i => (i, false)
  | none => (0, true)

theorem metR_no {f : List TermD → Bool} {ls : List (List TermD)} {i : Nat} (hi : i < ls.length) (h : (ls.take i).all f = true) (hf : f (ls.getD i []) = false) : metR f ls = ((i : Int), false) := by
  unfold metR
  have : ls.findIdx? (fun x => !f x) = some i := by
    rw [List.findIdx?_eq_some_iff_getElem]
    refine ⟨hi, ?_, ?_⟩
    · simpa [List.getD, List.getElem?_eq_getElem hi] using hf
    · intro j hj
      rw [List.all_eq_true] at h
      have := h ls[j] (by rw [List.mem_take_iff_getElem]; exact ⟨j, by omega, rfl⟩)
      simp [this]
  rw [this]
theorem metR_all {f : List TermD → Bool} {ls : List (List TermD)} (h : ls.all f = true) : metR f ls = (0, true) := by
  unfold metR
  have : ls.findIdx? (fun x => !f x) = none := by
    rw [List.findIdx?_eq_none_iff]
    intro x hx
    rw [List.all_eq_true] at h
    simp [h x hx]
  rw [this]

theorem ret_met {k : Int} {b : Bool} {r : Int × Bool} (h : r = (k, b)) : Ending.returned (.tuple #[.int .i64 k, .bool b]) = .returned (.tuple #[.int .i64 r.1, .bool r.2]) := by rw [h]

theorem Offs.below {w w' : World} {v : Value} {ts : List OffD} (h : Offs w v ts) {B : Nat} (hb : Below B w w') (hB : w.heap.size ≤ B) : Offs w' v ts := ⟨h.1.below hb hB, trivial⟩
structure OffOk (w : World) (o : OffD) : Prop where
  terms : Terms w o.pv o.provides
  sm : o.up.size ≤ 1000 ∧ o.rv.size ≤ 1000
  smp : ∀ q ∈ o.provides, SmallT q
theorem OffOk.below {w w' : World} {o : OffD} (h : OffOk w o) {B : Nat} (hb : Below B w w') (hB : w.heap.size ≤ B) : OffOk w' o := ⟨h.terms.below hb hB, h.sm, h.smp⟩

theorem offer_calls (o : OffD) (t : TermD) (b : Nat) (w : World) (hT : TermBox w b t) (hO : OffOk w o) (h1 : SmallT t) :
    Calls Tryz.prog 58 #[.agg #[.string o.name, .int .i64 o.ep, .string o.up, .string o.rv, o.pv], .pointer (some ⟨b, 0, none⟩)] w fun e w' => e = .returned (.bool (offB t o)) ∧ Below w.heap.size w w' := by
  obtain ⟨hlt, c0, c1, c2, c3, c4⟩ := hT
  have H1 := Lib.hid h1
  have HO := Lib.hid hO
  clear h1 hO
  unfold offB
  go_enter Tryz.func58, Tryz.ntmps58
  go_wp2_with fail
  have hB0 : Below w.heap.size w (w.alloc (.cells #[.string o.name, .int .i64 o.ep, .string o.up, .string o.rv, o.pv] 73)) := by go_grown
  refine (meets_calls _ _ _ _ _ o.provides t _ (HO.out.terms.below hB0 (Nat.le_refl _)) H1.out HO.out.sm HO.out.smp).mono ?_
  rintro e w1 ⟨rfl, hb⟩
  have hB := hB0.trans (hb.mono hB0.size)
  clear hb hB0 c0 c1 c2 c3 c4
  go_wp2_with fail
  go_ret
  exact ⟨rfl, hB⟩

theorem enters_offer : ∀ args w, (callFunc 58 args).run Tryz.prog w = .ok (.enter 58 args) w := enters_of Tryz.func58 (by kernel_rfl) rfl

theorem asked_calls (ov : Value) (os : List OffD) (t : TermD) (b : Nat) (w : World) (hb : b < w.heap.size) (hc : w.cell? ⟨b, 0, none⟩ = some ov) (hO : Offs w ov os) (hOk : ∀ o ∈ os, OffOk w o) (h1 : SmallT t) :
    Calls Tryz.prog 56 #[.agg #[.string t.name, .int .i64 t.op, .int .i64 t.ep, .string t.up, .string t.rv], .pointer (some ⟨b, 0, none⟩)] w fun e w' => e = .returned (.bool (os.any (offB t))) ∧ Below w.heap.size w w' := by
  have hB0 : Below w.heap.size w (w.alloc (.cells #[.string t.name, .int .i64 t.op, .int .i64 t.ep, .string t.up, .string t.rv] 98)) := by go_grown
  have CC : Hid (Calls Tryz.prog 57 #[ov, .func (.func 58) #[] #[.pointer (some ⟨w.heap.size, 0, none⟩)]] (w.alloc (.cells #[.string t.name, .int .i64 t.op, .int .i64 t.ep, .string t.up, .string t.rv] 98)) fun e w' => e = .returned (.bool (os.any (offB t))) ∧ Below (w.alloc (.cells #[.string t.name, .int .i64 t.op, .int .i64 t.ep, .string t.up, .string t.rv] 98)).heap.size (w.alloc (.cells #[.string t.name, .int .i64 t.op, .int .i64 t.ep, .string t.up, .string t.rv] 98)) w') := by
    refine containsOff_calls ov os _ _ (offB t) _ (hO.below hB0 (Nat.le_refl _)) enters_offer ?_
    intro o ho w2 hb2
    exact offer_calls o t _ w2 ((TermBox.new w t _).below hb2 (by simp)) (((hOk o ho).below hB0 (Nat.le_refl _)).below hb2 (Nat.le_refl _)) h1
  have HB0 := Lib.hid hB0
  clear hO hOk h1 hB0
  go_enter Tryz.func56, Tryz.ntmps56
  go_wp2_with fail
  refine CC.out.mono ?_
  rintro e w1 ⟨rfl, hb1⟩
  have hB := HB0.out.trans (hb1.mono HB0.out.size)
  clear hb1 hc CC
  go_wp2_with fail
  go_ret
  exact ⟨rfl, hB⟩

theorem enters_asked : ∀ args w, (callFunc 56 args).run Tryz.prog w = .ok (.enter 56 args) w := enters_of Tryz.func56 (by kernel_rfl) rfl

/-- depend.Met. -/
theorem met_calls (lv ov : Value) (ls : List (List TermD)) (os : List OffD) (w : World) (hL : Lists w lv ls) (hO : Offs w ov os) (hOk : ∀ o ∈ os, OffOk w o) (hS : ∀ l ∈ ls, ∀ t ∈ l, SmallT t) :
    Calls Tryz.prog 28 #[lv, ov] w fun e w' => e = .returned (.tuple #[.int .i64 (metR (oneO os) ls).1, .bool (metR (oneO os) ls).2]) ∧ Below w.heap.size w w' := by
  obtain ⟨ao, co, hov, -⟩ := id hO.1
  subst hov
  obtain ⟨w0, hw0⟩ : ∃ w0 : World, w0 = w.alloc (.cells #[.slice ao os.length co] 70) := ⟨_, rfl⟩
  have hB0 : Below w.heap.size w w0 := by rw [hw0]; go_grown
  have hz : w0.heap.size = w.heap.size + 1 := by rw [hw0]; simp
  have c0 : w0.cell? ⟨w.heap.size, 0, none⟩ = some (.slice ao os.length co) := by rw [hw0]; simp [go_sem]
  have hL0 := hL.below hB0 (Nat.le_refl _)
  obtain ⟨V, ⟨a, cap, rfl, hcap, hmax, hcell⟩, hT⟩ := hL0
  unfold maxLen at hmax
  have HC : Hid (∀ i, i < ls.length → ∀ wr, Below w0.heap.size w0 wr → Calls Tryz.prog 46 #[V i, .func (.func 56) #[] #[.pointer (some ⟨w.heap.size, 0, none⟩)]] wr fun e w' => e = .returned (.bool (oneO os (ls.getD i []))) ∧ Below wr.heap.size wr w') := by
    intro i hi wr hb
    refine containsTerm_calls (V i) (ls.getD i []) _ _ (fun t => os.any (offB t)) wr ((hT i hi).below hb (Nat.le_refl _)) enters_asked ?_
    intro t ht w2 hb2
    have hb3 := hb.trans (hb2.mono hb.size)
    refine asked_calls _ os t _ w2 ?_ ((hb3.cell (p := ⟨w.heap.size, 0, none⟩) (by rw [hz]; exact Nat.lt_succ_self _)).trans c0) ((hO.below hB0 (Nat.le_refl _)).below hb3 (Nat.le_refl _)) (fun o ho => ((hOk o ho).below hB0 (Nat.le_refl _)).below hb3 (Nat.le_refl _)) (hS _ (mem_getD _ hi) t ht)
    have := hb3.size
    omega
  have HB0 := Lib.hid hB0
  have Hw := Lib.hid hw0
  have Hcell := Lib.hid hcell
  obtain ⟨n, hn⟩ : ∃ n, ls.length = n := ⟨_, rfl⟩
  rw [hn] at hcap Hcell HC
  have Hn := Lib.hid hn
  clear hL hO hOk hS hT hB0 hz c0 hcell hw0
  rw [hn]
  clear hn
  go_enter Tryz.func28, Tryz.ntmps28
  go_wp2_with fail
  rw [← Hw.out]
  go_wp2_with fail
  go_loopg [11] n (fun k v11 wr => ∃ i : Nat, v11 = .int .i64 i ∧ i ≤ n ∧ k = n - i ∧ (ls.take i).all (oneO os) = true ∧ Below w0.heap.size w0 wr)
  case atStart => exact ⟨0, rfl, Nat.zero_le _, rfl, rfl, Below.refl _ _⟩
  case round =>
    obtain ⟨i, rfl, hi, hk, hall, hB⟩ := hrel
    have Hk := Lib.hid hk
    have Hall := Lib.hid hall
    have hfin := HB0.out.trans (hB.mono HB0.out.size)
    clear hk hall
    by_cases hlt : i < n
    · obtain ⟨b, o, rfl, hb, hc⟩ := Hcell.out.resolve_left (by omega)
      have c1 : wr.cell? ⟨b, o + i, none⟩ = some (V i) := (hB.cell (p := ⟨b, o + i, none⟩) hb).trans (by have := hc i 0 hlt (by decide); simpa using this)
      clear hc hb
      go_wp2_with fail
      refine (HC.out i hlt _ hB).mono ?_
      rintro e w1 ⟨rfl, hb1⟩
      have hB1 := hB.trans (hb1.mono hB.size)
      have hfin1 := HB0.out.trans (hB1.mono HB0.out.size)
      clear hb1 hB c1
      cases hone : oneO os (ls.getD i [])
      · have HR := Lib.hid (metR_no (by rw [Hn.out]; exact hlt) Hall.out hone)
        clear hone
        go_wp2_with fail
        go_ret2
        exact ⟨ret_met HR.out, hfin1⟩
      · have HS : Hid ((ls.take (i + 1)).all (oneO os) = true) := all_step [] (by rw [Hn.out]; exact hlt) Hall.out hone
        clear hone
        go_wp2_with fail
        go_roundg (n - (i + 1))
        case rel => exact ⟨i + 1, by go_num, by omega, rfl, HS.out, hB1⟩
        case measure => have := Hk.out; omega
    · have HR := Lib.hid (metR_all (all_end (by rw [Hn.out]; omega) Hall.out))
      go_wp2_with fail
      go_ret2
      exact ⟨ret_met HR.out, hfin⟩
end Go.Proofs.YtnfnebfioibndaaGreatDoor
namespace Go.Proofs.YtnfnebfioibndaaGreatDoor
open Go.RowKit
set_option maxRecDepth 100000
set_option maxHeartbeats 4000000

theorem Sl.slice {w : World} {v : Value} {n sz : Nat} {R : Nat → Nat → Value} (h : Sl w v n sz R) : ∃ a n c, v = .slice a n c := by
  obtain ⟨a, c, e, -⟩ := h
  exact ⟨a, n, c, e⟩
theorem Lists.slice {w : World} {v : Value} {ls : List (List TermD)} (h : Lists w v ls) : ∃ a n c, v = .slice a n c := h.choose_spec.1.slice

theorem refMet_calls (lv pv : Value) (ls : List (List TermD)) (ps : List PackD) (w : World) (hL : Lists w lv ls) (hP : Packs w pv ps) (hp1 : ∀ p ∈ ps, p.up.size ≤ 1000 ∧ p.rv.size ≤ 1000) (hp2 : ∀ p ∈ ps, ∀ q ∈ p.provides, SmallT q) (hS : ∀ l ∈ ls, ∀ t ∈ l, SmallT t) :
    Calls Tryz.prog 32 #[lv, pv] w fun e w' => e = .returned (.tuple #[.int .i64 (metR (oneP ps) ls).1, .bool (metR (oneP ps) ls).2]) ∧ Below w.heap.size w w' := by
  obtain ⟨V, ⟨a, cap, rfl, hcap, hmax, hcell⟩, hT⟩ := hL
  obtain ⟨R, ⟨ap, capp, rfl, hcapp, hmaxp, hcellp⟩, hO⟩ := hP
  unfold maxLen at hmax hmaxp
  have Hcell := Lib.hid hcell
  have Hcellp := Lib.hid hcellp
  have HT := Lib.hid hT
  have HO := Lib.hid hO
  have HP1 := Lib.hid hp1
  have HP2 := Lib.hid hp2
  have HS := Lib.hid hS
  obtain ⟨n, hn⟩ : ∃ n, ls.length = n := ⟨_, rfl⟩
  obtain ⟨m, hm⟩ : ∃ m, ps.length = m := ⟨_, rfl⟩
  rw [hn] at hcap Hcell HT
  rw [hm] at hcapp Hcellp HO
  have Hn := Lib.hid hn
  have Hm := Lib.hid hm
  clear hcell hcellp hT hO hp1 hp2 hS
  rw [hn, hm]
  clear hn hm
  go_enter Tryz.func32, Tryz.ntmps32
  go_wp2_with fail
  go_loopg [15] n (fun k v15 wr => ∃ i : Nat, v15 = .int .i64 i ∧ i ≤ n ∧ k = n - i ∧ (ls.take i).all (oneP ps) = true ∧ Below w.heap.size w wr)
  case atStart => exact ⟨0, rfl, Nat.zero_le _, rfl, rfl, Below.refl _ _⟩
  case round =>
    obtain ⟨i, rfl, hi, hk, hall, hB⟩ := hrel
    have Hk := Lib.hid hk
    have Hall := Lib.hid hall
    clear hk hall
    by_cases hlt : i < n
    · obtain ⟨b, o, rfl, hb, hc⟩ := Hcell.out.resolve_left (by omega)
      have c1 : wr.cell? ⟨b, o + i, none⟩ = some (V i) := (hB.cell (p := ⟨b, o + i, none⟩) hb).trans (by have := hc i 0 hlt (by decide); simpa using this)
      clear hc hb
      obtain ⟨x, hx⟩ : ∃ x, ls.getD i [] = x := ⟨_, rfl⟩
      obtain ⟨⟨ax, capx, hV, hcapx, hmaxx, hcellx⟩, -⟩ := HT.out i hlt
      rw [hx] at hV hcapx hcellx
      unfold maxLen at hmaxx
      rw [hV] at c1
      obtain ⟨nx, hnx⟩ : ∃ nx, x.length = nx := ⟨_, rfl⟩
      rw [hnx] at c1 hcapx hcellx
      have Hcellx := Lib.hid hcellx
      have Hnx := Lib.hid hnx
      have Hx := Lib.hid hx
      have HSx : Hid (∀ t ∈ x, SmallT t) := by
        show ∀ t ∈ x, SmallT t
        rw [← hx]
        exact HS.out _ (mem_getD _ (by rw [Hn.out]; exact hlt))
      clear hcellx hnx hx hV
      go_upto_block 2 with (fail)
      go_cut [8] (fun v8 wx => v8 = .bool (oneP ps x) ∧ Below w.heap.size w wx)
      case first =>
        clear c1
        go_wp2_with fail
        go_loopg [8, 22] nx (fun k v8 v22 wr => ∃ j : Nat, v22 = .int .i64 j ∧ v8 = .bool ((x.take j).any fun t => ps.any (packB t)) ∧ j ≤ nx ∧ k = nx - j ∧ Below w.heap.size w wr)
        case atStart => exact ⟨0, rfl, rfl, Nat.zero_le _, rfl, hB⟩
        case round =>
          clear hB
          obtain ⟨j, rfl, rfl, hj, hk2, hB⟩ := hrel
          obtain ⟨wm, rfl⟩ : ∃ wm : World, wm = wr := ⟨_, rfl⟩
          have Hk2 := Lib.hid hk2
          clear hk2
          obtain ⟨b0, hb0⟩ : ∃ b0, ((x.take j).any fun t => ps.any (packB t)) = b0 := ⟨_, rfl⟩
          rw [hb0]
          have Hb0 := Lib.hid hb0
          clear hb0
          by_cases hjl : j < nx
          · obtain ⟨bx, ox, rfl, hbx, hcx⟩ := Hcellx.out.resolve_left (by omega)
            obtain ⟨t, ht⟩ : ∃ t, TermD.at x j = t := ⟨_, rfl⟩
            have HM : Hid (SmallT t) := by
              show SmallT t
              rw [← ht]
              exact HSx.out _ (mem_at (by rw [Hnx.out]; exact hjl))
            have d0 : wm.cell? ⟨bx, ox + j * 5, none⟩ = some (.string t.name) := (hB.cell (p := ⟨bx, ox + j * 5, none⟩) hbx).trans (by have := hcx j 0 hjl (by decide); rw [ht] at this; exact this)
            have d1 : wm.cell? ⟨bx, ox + j * 5 + 1, none⟩ = some (.int .i64 t.op) := (hB.cell (p := ⟨bx, ox + j * 5 + 1, none⟩) hbx).trans (by have := hcx j 1 hjl (by decide); rw [ht] at this; exact this)
            have d2 : wm.cell? ⟨bx, ox + j * 5 + 2, none⟩ = some (.int .i64 t.ep) := (hB.cell (p := ⟨bx, ox + j * 5 + 2, none⟩) hbx).trans (by have := hcx j 2 hjl (by decide); rw [ht] at this; exact this)
            have d3 : wm.cell? ⟨bx, ox + j * 5 + 3, none⟩ = some (.string t.up) := (hB.cell (p := ⟨bx, ox + j * 5 + 3, none⟩) hbx).trans (by have := hcx j 3 hjl (by decide); rw [ht] at this; exact this)
            have d4 : wm.cell? ⟨bx, ox + j * 5 + 4, none⟩ = some (.string t.rv) := (hB.cell (p := ⟨bx, ox + j * 5 + 4, none⟩) hbx).trans (by have := hcx j 4 hjl (by decide); rw [ht] at this; exact this)
            have Ht := Lib.hid ht
            clear hcx ht hbx
            obtain ⟨wt, hwt⟩ : ∃ wt : World, wt = wm.alloc (.cells #[.string t.name, .int .i64 t.op, .int .i64 t.ep, .string t.up, .string t.rv] 98) := ⟨_, rfl⟩
            have hBt : Below w.heap.size w wt := by rw [hwt]; exact hB.alloc hB.size _
            have HBox : Hid (TermBox wt wm.heap.size t) := by show TermBox wt wm.heap.size t; rw [hwt]; exact TermBox.new wm t _
            have Hwt := Lib.hid hwt
            have Hzt : Hid (wt.heap.size = wm.heap.size + 1) := by show _ = _; rw [hwt]; simp
            have hzr := hB.size
            clear hwt hB
            go_upto_block 4 with (fail)
            rw [← Hwt.out]
            clear d0 d1 d2 d3 d4
            go_wp2_with fail
            go_loopg [8, 28] m (fun k v8 v28 wx => ∃ l : Nat, v28 = .int .i64 l ∧ v8 = .bool (b0 || (ps.take l).any (packB t)) ∧ l ≤ m ∧ k = m - l ∧ Below wt.heap.size wt wx)
            case atStart => exact ⟨0, rfl, by simp, Nat.zero_le _, rfl, Below.refl _ _⟩
            case round =>
              obtain ⟨l, rfl, rfl, hl, hk3, hB⟩ := hrel
              have Hk3 := Lib.hid hk3
              obtain ⟨b1, hb1⟩ : ∃ b1, (b0 || (ps.take l).any (packB t)) = b1 := ⟨_, rfl⟩
              rw [hb1]
              have Hb1 := Lib.hid hb1
              clear hb1 hk3
              have hfin := hBt.trans (hB.mono hBt.size)
              by_cases hll : l < m
              · obtain ⟨bp, op, rfl, hbp, hcp⟩ := Hcellp.out.resolve_left (by omega)
                obtain ⟨p, hp⟩ : ∃ p, ps.getD l PackD.none = p := ⟨_, rfl⟩
                have hpk := HO.out l hll
                rw [hp] at hpk
                have HMp : Hid (p ∈ ps) := by
                  show p ∈ ps
                  rw [← hp]
                  exact mem_getD _ (by rw [Hm.out]; exact hll)
                have Hp := Lib.hid hp
                have hbase := hfin
                have C : Hid (∀ k, k < 13 → wr.cell? ⟨bp, op + l * 13 + k, none⟩ = wr.cell? ⟨bp, op + l * 13 + k, none⟩) := fun _ _ => rfl
                clear C hp
                obtain ⟨dv, av, gv, bv, rv, pv, sv, lv, fa, fn, fc, e4, e5, e6, e7, e8, e9, e10, e11, e12, hV⟩ := hpk.cells
                obtain ⟨f4, n4, q4, rfl⟩ := hV.depends.slice
                obtain ⟨f5, n5, q5, rfl⟩ := hV.ahead.slice
                obtain ⟨f6, n6, q6, rfl⟩ := hV.against.1.slice
                obtain ⟨f7, n7, q7, rfl⟩ := hV.breaks.1.slice
                obtain ⟨f8, n8, q8, rfl⟩ := hV.replaces.1.slice
                obtain ⟨f9, n9, q9, rfl⟩ := hV.provides.1.slice
                obtain ⟨f10, n10, q10, rfl⟩ := hV.settings.1.slice
                obtain ⟨f11, n11, q11, rfl⟩ := hV.listens.1.slice
                have HV := Lib.hid hV
                have hat : ∀ k, k < 13 → _ = some (R l k) := fun k hk => (hfin.cell (p := ⟨bp, op + l * 13 + k, none⟩) hbp).trans (hcp l k hll hk)
                have p0 := hat 0 (by decide)
                have p1 := hat 1 (by decide)
                have p2 := hat 2 (by decide)
                have p3 := hat 3 (by decide)
                have p4 := hat 4 (by decide)
                have p5 := hat 5 (by decide)
                have p6 := hat 6 (by decide)
                have p7 := hat 7 (by decide)
                have p8 := hat 8 (by decide)
                have p9 := hat 9 (by decide)
                have p10 := hat 10 (by decide)
                have p11 := hat 11 (by decide)
                have p12 := hat 12 (by decide)
                rw [hpk.name] at p0
                rw [hpk.ep] at p1
                rw [hpk.up] at p2
                rw [hpk.rv] at p3
                rw [e4] at p4
                rw [e5] at p5
                rw [e6] at p6
                rw [e7] at p7
                rw [e8] at p8
                rw [e9] at p9
                rw [e10] at p10
                rw [e11] at p11
                rw [e12] at p12
                rw [Nat.add_zero] at p0
                clear hat hcp e4 e5 e6 e7 e8 e9 e10 e11 e12 hV hpk hbase
                obtain ⟨-, d0, d1, d2, d3, d4⟩ := HBox.out.below hB (by rw [Hzt.out]; omega)
                have hgs : wm.heap.size < wr.heap.size := by have := hB.size; rw [Hzt.out] at this; omega
                cases b1
                · go_wp2_with fail
                  refine (refMeets_calls p _ _ _ _ _ _ _ _ _ _ _ t _ ((HV.out.provides.below hfin (Nat.le_refl _)).below ((Below.refl _ _).alloc (Nat.le_refl _) _) (Nat.le_refl _)) HM.out (HP1.out p HMp.out) (HP2.out p HMp.out)).mono ?_
                  rintro e w1 ⟨rfl, hb⟩
                  rw [show meetsB p.name p.ep p.up p.rv p.provides t = packB t p from rfl]
                  have hB1 := (hB.alloc hB.size _).trans (hb.mono (by have := hB.size; simp; omega))
                  clear hb d0 d1 d2 d3 d4 p0 p1 p2 p3 p4 p5 p6 p7 p8 p9 p10 p11 p12
                  have HN : Hid ((b0 || (ps.take (l + 1)).any (packB t)) = packB t p) := by
                    show _ = _
                    have := Hb1.out
                    rw [Bool.or_eq_false_iff] at this
                    rw [List.take_add_one, List.any_append, this.1, this.2, List.getElem?_eq_getElem (by rw [Hm.out]; exact hll)]
                    have e : ps.getD l PackD.none = ps[l]'(by rw [Hm.out]; exact hll) := by simp [List.getD, List.getElem?_eq_getElem (show l < ps.length by rw [Hm.out]; exact hll)]
                    rw [Hp.out] at e
                    simp [← e]
                  go_wp2_with fail
                  go_roundg (m - (l + 1))
                  case rel => exact ⟨l + 1, by go_num, by rw [HN.out], by omega, rfl, hB1⟩
                  case measure => have := Hk3.out; omega
                · have HN : Hid ((b0 || (ps.take (l + 1)).any (packB t)) = true) := by
                    show _ = _
                    have := Hb1.out
                    rw [Bool.or_eq_true] at this
                    rw [List.take_add_one, List.any_append, Bool.or_eq_true, Bool.or_eq_true]
                    rcases this with h | h
                    · exact Or.inl h
                    · exact Or.inr (Or.inl h)
                  go_wp2_with fail
                  go_roundg (m - (l + 1))
                  case rel => exact ⟨l + 1, by go_num, by rw [HN.out], by omega, rfl, hB.alloc hB.size _⟩
                  case measure => have := Hk3.out; omega
              · have HN : Hid (((x.take (j + 1)).any fun t => ps.any (packB t)) = b1) := by
                  show _ = _
                  rw [← Hb1.out, ← Hb0.out, List.take_of_length_le (l := ps) (by rw [Hm.out]; omega), List.take_add_one, List.any_append, List.getElem?_eq_getElem (by rw [Hnx.out]; exact hjl)]
                  have e : TermD.at x j = x[j]'(by rw [Hnx.out]; exact hjl) := by simp [TermD.at, List.getD, List.getElem?_eq_getElem (show j < x.length by rw [Hnx.out]; exact hjl)]
                  rw [Ht.out] at e
                  simp [← e]
                go_wp2_with fail
                go_roundg (nx - (j + 1))
                case rel => exact ⟨j + 1, by go_num, by rw [HN.out], by omega, rfl, hfin⟩
                case measure => have := Hk2.out; omega
          · have HE : Hid (b0 = oneP ps x) := by
              show b0 = oneP ps x
              rw [← Hb0.out, List.take_of_length_le (by rw [Hnx.out]; omega)]
              rfl
            go_wp2_with fail
            go_meet
            exact ⟨by rw [HE.out], hB⟩
      case rest =>
        clear c1 hB
        obtain ⟨rfl, hB⟩ := hcut
        cases hone : oneP ps x
        · have HR := Lib.hid (metR_no (by rw [Hn.out]; exact hlt) Hall.out (by rw [Hx.out]; exact hone))
          clear hone
          go_wp2_with fail
          go_ret2
          exact ⟨ret_met HR.out, hB⟩
        · have HS2 : Hid ((ls.take (i + 1)).all (oneP ps) = true) := all_step [] (by rw [Hn.out]; exact hlt) Hall.out (by rw [Hx.out]; exact hone)
          clear hone
          go_wp2_with fail
          go_roundg (n - (i + 1))
          case rel => exact ⟨i + 1, by go_num, by omega, rfl, HS2.out, hB⟩
          case measure => have := Hk.out; omega
    · have HR := Lib.hid (metR_all (all_end (by rw [Hn.out]; omega) Hall.out))
      go_wp2_with fail
      go_ret2
      exact ⟨ret_met HR.out, hB⟩
end Go.Proofs.YtnfnebfioibndaaGreatDoor
