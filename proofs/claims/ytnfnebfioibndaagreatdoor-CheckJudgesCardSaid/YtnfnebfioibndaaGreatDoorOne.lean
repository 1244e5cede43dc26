/- stevedoreref.one and works; the closures of check.Unpack. -/
import Derived.Test.YtnfnebfioibndaaGreatDoorSmall
namespace Go.Proofs.YtnfnebfioibndaaGreatDoor
open Go.RowKit
set_option maxRecDepth 100000
set_option maxHeartbeats 4000000

/-- A package in a variable of its own. -/
structure PackBox (w : World) (b : Nat) (p : PackD) (dv av gv bv rv pv sv lv : Value) (fa : Option Addr) (fn fc : Nat) : Prop where
  lt : b < w.heap.size
  c : ∀ (j : Nat) (x : Value), (#[.string p.name, .int .i64 p.ep, .string p.up, .string p.rv, dv, av, gv, bv, rv, pv, sv, lv, .slice fa fn fc] : Array Value)[j]? = some x → w.cell? ⟨b, j, none⟩ = some x

theorem PackBox.below {w w' : World} {b : Nat} {p : PackD} {dv av gv bv rv pv sv lv : Value} {fa : Option Addr} {fn fc : Nat} (h : PackBox w b p dv av gv bv rv pv sv lv fa fn fc) {B : Nat} (hb : Below B w w') (hB : b < B) : PackBox w' b p dv av gv bv rv pv sv lv fa fn fc :=
  ⟨Nat.lt_of_lt_of_le h.lt hb.size, fun j x hx => (hb.cell (p := ⟨b, j, none⟩) hB).trans (h.c j x hx)⟩

theorem PackBox.new (w : World) (p : PackD) (dv av gv bv rv pv sv lv : Value) (fa : Option Addr) (fn fc : Nat) (t : TypeId) :
    PackBox (w.alloc (.cells #[.string p.name, .int .i64 p.ep, .string p.up, .string p.rv, dv, av, gv, bv, rv, pv, sv, lv, .slice fa fn fc] t)) w.heap.size p dv av gv bv rv pv sv lv fa fn fc := by
  refine ⟨by simp, fun j x hx => ?_⟩
  simp only [World.cell?_alloc_new]
  simpa using hx

theorem one_calls (p : PackD) (dv av gv bv rv pv sv lv : Value) (fa : Option Addr) (fn fc : Nat) (tv : Value) (ts : List TermD) (w : World) (hP : Terms w pv p.provides) (hT : Terms w tv ts) (h1 : ∀ t ∈ ts, SmallT t) (h2 : p.up.size ≤ 1000 ∧ p.rv.size ≤ 1000) (h3 : ∀ q ∈ p.provides, SmallT q) :
    Calls Tryz.prog 34 #[.agg #[.string p.name, .int .i64 p.ep, .string p.up, .string p.rv, dv, av, gv, bv, rv, pv, sv, lv, .slice fa fn fc], tv] w fun e w' => e = .returned (.bool (ts.any (fun t => packB t p))) ∧ Below w.heap.size w w' := by
  obtain ⟨w0, hw0⟩ : ∃ w0 : World, w0 = w.alloc (.cells #[.string p.name, .int .i64 p.ep, .string p.up, .string p.rv, dv, av, gv, bv, rv, pv, sv, lv, .slice fa fn fc] 30) := ⟨_, rfl⟩
  have hB0 : Below w.heap.size w w0 := by rw [hw0]; go_grown
  have hz : w0.heap.size = w.heap.size + 1 := by rw [hw0]; simp
  have hbox : PackBox w0 w.heap.size p dv av gv bv rv pv sv lv fa fn fc := by rw [hw0]; exact PackBox.new w p dv av gv bv rv pv sv lv fa fn fc _
  have HP := Lib.hid (hP.below hB0 (Nat.le_refl _))
  have hT0 := hT.below hB0 (Nat.le_refl _)
  obtain ⟨⟨a, cap, rfl, hcap, hmax, hcell⟩, -⟩ := hT0
  unfold maxLen at hmax
  obtain ⟨n, hn⟩ : ∃ n, ts.length = n := ⟨_, rfl⟩
  have Hcell := Lib.hid hcell
  clear hcell hT
  rw [hn] at hcap Hcell ⊢
  have Hn := Lib.hid hn
  have H1 := Lib.hid h1
  have H2 := Lib.hid h2
  have H3 := Lib.hid h3
  have Hbox := Lib.hid hbox
  have HB0 := Lib.hid hB0
  have Hz := Lib.hid hz
  have Hw := Lib.hid hw0
  clear hn h1 h2 h3 hbox hB0 hz hw0 hP
  go_enter Tryz.func34, Tryz.ntmps34
  go_wp2_with fail
  rw [← Hw.out]
  go_wp2_with fail
  go_loopg [9] n (fun k v9 wr => ∃ i : Nat, v9 = .int .i64 i ∧ i ≤ n ∧ k = n - i ∧ (ts.take i).any (fun t => packB t p) = false ∧ Below w0.heap.size w0 wr)
  case atStart => exact ⟨0, rfl, Nat.zero_le _, rfl, rfl, Below.refl _ _⟩
  case round =>
    obtain ⟨i, rfl, hi, hk, hall, hB⟩ := hrel
    have Hk := Lib.hid hk
    have Hall := Lib.hid hall
    have hfin := HB0.out.trans (hB.mono HB0.out.size)
    clear hk hall
    by_cases hlt : i < n
    · obtain ⟨b, o, rfl, hb, hc⟩ := Hcell.out.resolve_left (by omega)
      obtain ⟨t, ht⟩ : ∃ t, TermD.at ts i = t := ⟨_, rfl⟩
      have HM : Hid (t ∈ ts) := by show t ∈ ts; rw [← ht]; exact mem_at (by rw [Hn.out]; exact hlt)
      have d0 : wr.cell? ⟨b, o + i * 5, none⟩ = some (.string t.name) := (hB.cell (p := ⟨b, o + i * 5, none⟩) hb).trans (by have := hc i 0 hlt (by decide); rw [ht] at this; exact this)
      have d1 : wr.cell? ⟨b, o + i * 5 + 1, none⟩ = some (.int .i64 t.op) := (hB.cell (p := ⟨b, o + i * 5 + 1, none⟩) hb).trans (by have := hc i 1 hlt (by decide); rw [ht] at this; exact this)
      have d2 : wr.cell? ⟨b, o + i * 5 + 2, none⟩ = some (.int .i64 t.ep) := (hB.cell (p := ⟨b, o + i * 5 + 2, none⟩) hb).trans (by have := hc i 2 hlt (by decide); rw [ht] at this; exact this)
      have d3 : wr.cell? ⟨b, o + i * 5 + 3, none⟩ = some (.string t.up) := (hB.cell (p := ⟨b, o + i * 5 + 3, none⟩) hb).trans (by have := hc i 3 hlt (by decide); rw [ht] at this; exact this)
      have d4 : wr.cell? ⟨b, o + i * 5 + 4, none⟩ = some (.string t.rv) := (hB.cell (p := ⟨b, o + i * 5 + 4, none⟩) hb).trans (by have := hc i 4 hlt (by decide); rw [ht] at this; exact this)
      have HT := Lib.hid ht
      have hbx := Hbox.out.below hB (by rw [Hz.out]; omega)
      have p0 : wr.cell? ⟨w.heap.size, 0, none⟩ = some (.string p.name) := hbx.c 0 _ rfl
      have p1 : wr.cell? ⟨w.heap.size, 1, none⟩ = some (.int .i64 p.ep) := hbx.c 1 _ rfl
      have p2 : wr.cell? ⟨w.heap.size, 2, none⟩ = some (.string p.up) := hbx.c 2 _ rfl
      have p3 : wr.cell? ⟨w.heap.size, 3, none⟩ = some (.string p.rv) := hbx.c 3 _ rfl
      have p4 : wr.cell? ⟨w.heap.size, 4, none⟩ = some dv := hbx.c 4 _ rfl
      have p5 : wr.cell? ⟨w.heap.size, 5, none⟩ = some av := hbx.c 5 _ rfl
      have p6 : wr.cell? ⟨w.heap.size, 6, none⟩ = some gv := hbx.c 6 _ rfl
      have p7 : wr.cell? ⟨w.heap.size, 7, none⟩ = some bv := hbx.c 7 _ rfl
      have p8 : wr.cell? ⟨w.heap.size, 8, none⟩ = some rv := hbx.c 8 _ rfl
      have p9 : wr.cell? ⟨w.heap.size, 9, none⟩ = some pv := hbx.c 9 _ rfl
      have p10 : wr.cell? ⟨w.heap.size, 10, none⟩ = some sv := hbx.c 10 _ rfl
      have p11 : wr.cell? ⟨w.heap.size, 11, none⟩ = some lv := hbx.c 11 _ rfl
      have p12 : wr.cell? ⟨w.heap.size, 12, none⟩ = some (.slice fa fn fc) := hbx.c 12 _ rfl
      have hsz : w.heap.size < wr.heap.size := hbx.lt
      clear hc ht hb hbx
      go_wp2_with fail
      refine (refMeets_calls p _ _ _ _ _ _ _ _ _ _ _ t _ ((HP.out.below hB (Nat.le_refl _)).below ((Below.refl _ _).alloc (Nat.le_refl _) _) (Nat.le_refl _)) (H1.out t HM.out) H2.out H3.out).mono ?_
      rintro e w1 ⟨rfl, hb⟩
      rw [show meetsB p.name p.ep p.up p.rv p.provides t = packB t p from rfl]
      have hB1 := (hB.alloc hB.size _).trans (hb.mono (by have := hB.size; simp; omega))
      have hF := HB0.out.trans (hB1.mono HB0.out.size)
      clear hb hB hfin d0 d1 d2 d3 d4 p0 p1 p2 p3 p4 p5 p6 p7 p8 p9 p10 p11 p12
      cases hp : packB t p
      · have HS : Hid ((ts.take (i + 1)).any (fun t => packB t p) = false) := any_step TermD.none (by rw [Hn.out]; exact hlt) Hall.out (by rw [show ts.getD i TermD.none = t from HT.out]; exact hp)
        clear hp
        go_wp2_with fail
        go_roundg (n - (i + 1))
        case rel => exact ⟨i + 1, by go_num, by omega, rfl, HS.out, hB1⟩
        case measure => have := Hk.out; omega
      · have HF : Hid (ts.any (fun t => packB t p) = true) := by show _ = _; rw [List.any_eq_true]; exact ⟨t, HM.out, hp⟩
        clear hp
        go_wp2_with fail
        go_ret
        exact ⟨ret_bool HF.out.symm, hF⟩
    · have HF : Hid (ts.any (fun t => packB t p) = false) := by
        have := Hall.out
        rwa [List.take_of_length_le (by rw [Hn.out]; omega)] at this
      go_wp2_with fail
      go_ret
      exact ⟨ret_bool HF.out.symm, hfin⟩

theorem refWorks_calls (s e0 : Int) (u r : ByteArray) (hd : Bool) (wv tv : Value) (p : PackD) (dv av gv bv rv pv sv lv : Value) (fa : Option Addr) (fn fc : Nat) (w : World) :
    Calls Tryz.prog 35 #[.agg #[.int .i64 s, .int .i64 e0, .string u, .string r, .bool hd, wv, tv, .string p.name, .int .i64 p.ep, .string p.up, .string p.rv, dv, av, gv, bv, rv, pv, sv, lv, .slice fa fn fc]] w fun e w' => e = .returned (.bool (worksV s)) ∧ Below w.heap.size w w' := by
  have hI := fun W => in_calls s 5 7 W
  go_enter Tryz.func35, Tryz.ntmps35
  go_wp2_with fail
  refine (hI _).mono ?_
  rintro e w1 ⟨rfl, rfl⟩
  clear hI
  go_wp2_with fail
  go_ret
  exact ⟨rfl, by go_grown⟩

/-- Unpack's first closure: is a package that is known the one of this name, and held. -/
theorem unpack1_calls (s e0 : Int) (u r : ByteArray) (hd : Bool) (wv tv : Value) (p : PackD) (dv av gv bv rv pv sv lv : Value) (fa : Option Addr) (fn fc : Nat) (b : Nat) (nm : ByteArray) (w : World) (hlt : b < w.heap.size) (c0 : w.cell? ⟨b, 0, none⟩ = some (.string nm)) :
    Calls Tryz.prog 23 #[.agg #[.int .i64 s, .int .i64 e0, .string u, .string r, .bool hd, wv, tv, .string p.name, .int .i64 p.ep, .string p.up, .string p.rv, dv, av, gv, bv, rv, pv, sv, lv, .slice fa fn fc], .pointer (some ⟨b, 0, none⟩)] w fun e w' => e = .returned (.bool ((p.name.toList == nm.toList) && hd)) ∧ Below w.heap.size w w' := by
  cases hn : (p.name.toList == nm.toList)
  · go_enter Tryz.func23, Tryz.ntmps23
    go_wp2_with fail
    go_ret
    exact ⟨ret_bool (by simp), by go_grown⟩
  · go_enter Tryz.func23, Tryz.ntmps23
    go_wp2_with fail
    go_ret
    exact ⟨ret_bool (by simp), by go_grown⟩
theorem enters_unpack1 : ∀ args w, (callFunc 23 args).run Tryz.prog w = .ok (.enter 23 args) w := enters_of Tryz.func23 (by kernel_rfl) rfl

/-- Its second: is an offer of this name. -/
theorem unpack2_calls (o : OffD) (b : Nat) (nm : ByteArray) (w : World) (hlt : b < w.heap.size) (c0 : w.cell? ⟨b, 0, none⟩ = some (.string nm)) :
    Calls Tryz.prog 27 #[.agg #[.string o.name, .int .i64 o.ep, .string o.up, .string o.rv, o.pv], .pointer (some ⟨b, 0, none⟩)] w fun e w' => e = .returned (.bool (o.name.toList == nm.toList)) ∧ Below w.heap.size w w' := by
  go_enter Tryz.func27, Tryz.ntmps27
  go_wp2_with fail
  go_ret
  exact ⟨ret_bool (by simp), by go_grown⟩
theorem enters_unpack2 : ∀ args w, (callFunc 27 args).run Tryz.prog w = .ok (.enter 27 args) w := enters_of Tryz.func27 (by kernel_rfl) rfl
end Go.Proofs.YtnfnebfioibndaaGreatDoor
