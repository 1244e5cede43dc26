/- Small functions of check and its document: works, may, holds, offer, meets, one. · stevedoreref.one and works; the closures of check.Unpack. · Loads and stores of a great struct, by laws. · check.offers and stevedoreref.working: who works. -/
import Derived.Test.YtnfnebfioibndaaGreatDoorM01
import Derived.Test.YtnfnebfioibndaaGreatDoorM07
import Derived.Test.YtnfnebfioibndaaGreatDoorM08
import Derived.Deep.MidRow
import Derived.Laws.AppendOwn
import Derived.Laws.OwnMore
import Derived.Deep.AppendLies
namespace Go.Proofs.YtnfnebfioibndaaGreatDoor
open Go.RowKit
set_option maxRecDepth 100000
set_option maxHeartbeats 2000000

def worksV (s : Int) : Bool := decide (5 ≤ s) && decide (s ≤ 7)

theorem works_calls (s : Int) (w : World) : Calls Tryz.prog 26 #[.int .i64 s] w fun e w' => e = .returned (.bool (worksV s)) ∧ w = w' := by
  by_cases h7 : s = 7
  · subst h7
    go_enter Tryz.func26, Tryz.ntmps26
    go_wp2
    go_ret
    exact ⟨ret_bool (by decide), rfl⟩
  · have e7 : (s == 7) = false := by simp [h7]
    by_cases h6 : s = 6
    · subst h6
      go_enter Tryz.func26, Tryz.ntmps26
      go_wp2
      go_ret
      exact ⟨ret_bool (by decide), rfl⟩
    · have e6 : (s == 6) = false := by simp [h6]
      by_cases h5 : s = 5
      · subst h5
        go_enter Tryz.func26, Tryz.ntmps26
        go_wp2
        go_ret
        exact ⟨ret_bool (by decide), rfl⟩
      · have e5 : (s == 5) = false := by simp [h5]
        have hv : worksV s = false := by unfold worksV; simp; omega
        rw [hv]
        clear hv h7 h6 h5
        go_enter Tryz.func26, Tryz.ntmps26
        go_wp2
        go_ret
        exact ⟨ret_bool (by simp [e5]), rfl⟩

theorem enters_works : ∀ args w, (callFunc 26 args).run Tryz.prog w = .ok (.enter 26 args) w := enters_of Tryz.func26 (by kernel_rfl) rfl

theorem refMay_calls (s e : Int) (w : World) (hT : TabR w) :
    Calls Tryz.prog 38 #[.int .i64 s, .int .i64 e] w fun ev w' => ev = .returned (.bool (nextE s e == 0)) ∧ w = w' := by
  have hn := refNext_calls s e w hT
  clear hT
  go_enter Tryz.func38, Tryz.ntmps38
  go_wp2_with fail
  refine hn.mono ?_
  rintro ev w' ⟨rfl, rfl⟩
  clear hn
  go_wp2
  all_goals go_ret
  all_goals exact ⟨ret_bool (by simp [*]), rfl⟩

def Ints (w : World) (v : Value) (ns : List Int) : Prop := Sl w v ns.length 1 (fun i _ => .int .i64 (ns.getD i 0)) ∧ True
theorem Ints.below {w w' : World} {v : Value} {ns : List Int} (h : Ints w v ns) {B : Nat} (hb : Below B w w') (hB : w.heap.size ≤ B) : Ints w' v ns := ⟨h.1.below hb hB, trivial⟩

theorem holds_calls (v : Value) (ns : List Int) (x : Int) (w : World) (h : Ints w v ns) :
    Calls Tryz.prog 39 #[v, .int .i64 x] w fun e w' => e = .returned (.bool (ns.any (· == x))) ∧ w = w' := by
  obtain ⟨⟨a, cap, rfl, hcap, hmax, hcell⟩, -⟩ := h
  unfold maxLen at hmax
  obtain ⟨n, hn⟩ : ∃ n, ns.length = n := ⟨_, rfl⟩
  have Hcell := Lib.hid hcell
  clear hcell
  rw [hn] at hcap Hcell ⊢
  have Hn := Lib.hid hn
  clear hn
  go_enter Tryz.func39, Tryz.ntmps39
  go_wp2_with fail
  go_loopg [9] n (fun k v9 wr => ∃ i : Nat, v9 = .int .i64 i ∧ i ≤ n ∧ k = n - i ∧ (ns.take i).any (· == x) = false ∧ w = wr)
  case atStart => exact ⟨0, rfl, Nat.zero_le _, rfl, rfl, rfl⟩
  case round =>
    obtain ⟨i, rfl, hi, hk, hall, rfl⟩ := hrel
    have Hk := Lib.hid hk
    have Hall := Lib.hid hall
    clear hk hall
    by_cases hlt : i < n
    · obtain ⟨b, o, rfl, hb, hc⟩ := Hcell.out.resolve_left (by omega)
      obtain ⟨t, ht⟩ : ∃ t, ns.getD i 0 = t := ⟨_, rfl⟩
      have c0 : w.cell? ⟨b, o + i, none⟩ = some (.int .i64 t) := by have := hc i 0 hlt (by decide); rw [ht] at this; simpa using this
      have HT := Lib.hid ht
      have HM : Hid (t ∈ ns) := by show t ∈ ns; rw [← ht]; exact mem_getD _ (by rw [Hn.out]; exact hlt)
      clear hc ht hb
      cases hp : (t == x)
      · have HS : Hid ((ns.take (i + 1)).any (· == x) = false) := any_step 0 (by rw [Hn.out]; exact hlt) Hall.out (by rw [HT.out]; exact hp)
        go_wp2_with fail
        go_roundg (n - (i + 1))
        case rel => exact ⟨i + 1, by go_num, by omega, rfl, HS.out, rfl⟩
        case measure => have := Hk.out; omega
      · have HF : Hid (ns.any (· == x) = true) := by show _ = _; rw [List.any_eq_true]; exact ⟨t, HM.out, hp⟩
        go_wp2_with fail
        go_ret
        exact ⟨ret_bool HF.out.symm, rfl⟩
    · have HF : Hid (ns.any (· == x) = false) := by
        have := Hall.out
        rwa [List.take_of_length_le (by rw [Hn.out]; omega)] at this
      go_wp2_with fail
      go_ret
      exact ⟨ret_bool HF.out.symm, rfl⟩

theorem offer_of_calls (p : PackD) (dv av gv bv rv pv sv lv : Value) (fa : Option Addr) (fn fc : Nat) (w : World) (h9 : ∃ a n c, pv = .slice a n c) :
    Calls Tryz.prog 29 #[.agg #[.string p.name, .int .i64 p.ep, .string p.up, .string p.rv, dv, av, gv, bv, rv, pv, sv, lv, .slice fa fn fc]] w fun e w' => e = .returned (.agg #[.string p.name, .int .i64 p.ep, .string p.up, .string p.rv, pv]) ∧ Below w.heap.size w w' := by
  obtain ⟨a, n, c, rfl⟩ := h9
  go_enter Tryz.func29, Tryz.ntmps29
  go_wp2
  go_returns
  exact ⟨rfl, by go_grown⟩

/-- The closure of meets. -/
theorem meets1_calls (o : OffD) (t : TermD) (b : Nat) (w : World) (hlt : b < w.heap.size)
    (hc : ∀ j, j < 5 → w.cell? ⟨b, j, none⟩ = some (o.row j)) (hO : OffOk w o) (h1 : SmallT t) :
    Calls Tryz.prog 59 #[.agg #[.string t.name, .int .i64 t.op, .int .i64 t.ep, .string t.up, .string t.rv], .pointer (some ⟨b, 0, none⟩)] w fun e w' => e = .returned (.bool (offB t o)) ∧ Below w.heap.size w w' := by
  have c0 : w.cell? ⟨b, 0, none⟩ = some (.string o.name) := hc 0 (by decide)
  have c1 : w.cell? ⟨b, 1, none⟩ = some (.int .i64 o.ep) := hc 1 (by decide)
  have c2 : w.cell? ⟨b, 2, none⟩ = some (.string o.up) := hc 2 (by decide)
  have c3 : w.cell? ⟨b, 3, none⟩ = some (.string o.rv) := hc 3 (by decide)
  have c4 : w.cell? ⟨b, 4, none⟩ = some o.pv := hc 4 (by decide)
  have hB0 : Below w.heap.size w (w.alloc (.cells #[.string t.name, .int .i64 t.op, .int .i64 t.ep, .string t.up, .string t.rv] 98)) := by go_grown
  have H1 := Lib.hid h1
  have HO := Lib.hid (hO.below hB0 (Nat.le_refl _))
  have HB0 := Lib.hid hB0
  clear h1 hO hc hB0
  unfold offB
  go_enter Tryz.func59, Tryz.ntmps59
  go_wp2_with fail
  refine (meets_calls _ _ _ _ _ o.provides t _ HO.out.terms H1.out HO.out.sm HO.out.smp).mono ?_
  rintro e w1 ⟨rfl, hb⟩
  have hB := HB0.out.trans (hb.mono HB0.out.size)
  clear hb c0 c1 c2 c3 c4
  go_wp2_with fail
  go_ret
  exact ⟨rfl, hB⟩
theorem enters_meets1 : ∀ args w, (callFunc 59 args).run Tryz.prog w = .ok (.enter 59 args) w := enters_of Tryz.func59 (by kernel_rfl) rfl

theorem meetsOf_calls (o : OffD) (lv : Value) (ts : List TermD) (but : ByteArray) (w : World) (hT : Terms w lv ts) (hO : OffOk w o) (h1 : ∀ t ∈ ts, SmallT t) :
    Calls Tryz.prog 30 #[.agg #[.string o.name, .int .i64 o.ep, .string o.up, .string o.rv, o.pv], lv, .string but] w fun e w' => e = .returned (.bool (!(o.name.toList == but.toList) && ts.any (fun t => offB t o))) ∧ Below w.heap.size w w' := by
  obtain ⟨w0, hw0⟩ : ∃ w0 : World, w0 = w.alloc (.cells #[.string o.name, .int .i64 o.ep, .string o.up, .string o.rv, o.pv] 73) := ⟨_, rfl⟩
  have hB0 : Below w.heap.size w w0 := by rw [hw0]; go_grown
  have hz : w0.heap.size = w.heap.size + 1 := by rw [hw0]; simp
  have c0 : w0.cell? ⟨w.heap.size, 0, none⟩ = some (.string o.name) := by rw [hw0]; simp [go_sem]
  have hcs : ∀ j, j < 5 → w0.cell? ⟨w.heap.size, j, none⟩ = some (o.row j) := by
    intro j hj
    rw [hw0]
    match j, hj with
    | 0, _ => simp [go_sem, OffD.row]
    | 1, _ => simp [go_sem, OffD.row]
    | 2, _ => simp [go_sem, OffD.row]
    | 3, _ => simp [go_sem, OffD.row]
    | 4, _ => simp [go_sem, OffD.row]
  have CC : Hid (Calls Tryz.prog 46 #[lv, .func (.func 59) #[] #[.pointer (some ⟨w.heap.size, 0, none⟩)]] w0 fun e w' => e = .returned (.bool (ts.any (fun t => offB t o))) ∧ Below w0.heap.size w0 w') := by
    refine containsTerm_calls lv ts _ _ (fun t => offB t o) w0 (hT.below hB0 (Nat.le_refl _)) enters_meets1 ?_
    intro t ht w2 hb2
    exact meets1_calls o t _ w2 (by have := hb2.size; omega) (fun j hj => (hb2.cell (p := ⟨w.heap.size, j, none⟩) (by rw [hz]; exact Nat.lt_succ_self _)).trans (hcs j hj)) ((hO.below hB0 (Nat.le_refl _)).below hb2 (Nat.le_refl _)) (h1 t ht)
  have HB0 := Lib.hid hB0
  have Hw := Lib.hid hw0
  clear hT hO h1 hB0 hz hcs hw0
  cases hn : (o.name.toList == but.toList)
  · go_enter Tryz.func30, Tryz.ntmps30
    go_wp2_with fail
    rw [← Hw.out]
    go_wp2_with fail
    refine CC.out.mono ?_
    rintro e w1 ⟨rfl, hb1⟩
    have hB := HB0.out.trans (hb1.mono HB0.out.size)
    clear hb1 c0 CC
    go_wp2_with fail
    go_ret
    exact ⟨ret_bool (by simp), hB⟩
  · go_enter Tryz.func30, Tryz.ntmps30
    go_wp2_with fail
    rw [← Hw.out]
    go_wp2_with fail
    go_ret
    exact ⟨ret_bool (by simp), HB0.out⟩
end Go.Proofs.YtnfnebfioibndaaGreatDoor
namespace Go.Proofs.YtnfnebfioibndaaGreatDoor
open Go.RowKit
set_option maxRecDepth 100000
set_option maxHeartbeats 4000000

/-- A package in a variable of its own. -/
structure PackBox (w : World) (b : Nat) (p : PackD) (dv av gv bv rv pv sv lv : Value) (fa : Option Addr) (fn fc : Nat) : Prop where
  lt : b < w.heap.size
  c : ∀ (j : Nat) (x : Value), (#[.string p.name, .int .i64 p.ep, .string p.up, .string p.rv, dv, av, gv, bv, rv, pv, sv, lv, .slice fa fn fc] : Array Value)[j]? = some x → w.cell? ⟨b, j, none⟩ = some x

theorem PackBox.below {w w' : World} {b : Nat} {p : PackD} {dv av gv bv rv pv sv lv : Value} {fa : Option Addr} {fn fc : Nat} (h : PackBox w b p dv av gv bv rv pv sv lv fa fn fc) {B : Nat} (hb : Below B w w') (hB : b < B) : PackBox w' b p dv av gv bv rv pv sv lv fa fn fc :=
  ⟨Nat.lt_of_lt_of_le h.lt hb.size, fun j x hx => (hb.cell (p := ⟨b, j, none⟩) hB).trans (h.c j x hx)⟩

theorem PackBox.new (w : World) (p : PackD) (dv av gv bv rv pv sv lv : Value) (fa : Option Addr) (fn fc : Nat) (t : TypeId) :
    PackBox (w.alloc (.cells #[.string p.name, .int .i64 p.ep, .string p.up, .string p.rv, dv, av, gv, bv, rv, pv, sv, lv, .slice fa fn fc] t)) w.heap.size p dv av gv bv rv pv sv lv fa fn fc := by
  refine ⟨by simp, fun j x hx => ?_⟩
  simp only [World.cell?_alloc_new]
  simpa using hx

theorem one_calls (p : PackD) (dv av gv bv rv pv sv lv : Value) (fa : Option Addr) (fn fc : Nat) (tv : Value) (ts : List TermD) (w : World) (hP : Terms w pv p.provides) (hT : Terms w tv ts) (h1 : ∀ t ∈ ts, SmallT t) (h2 : p.up.size ≤ 1000 ∧ p.rv.size ≤ 1000) (h3 : ∀ q ∈ p.provides, SmallT q) :
    Calls Tryz.prog 34 #[.agg #[.string p.name, .int .i64 p.ep, .string p.up, .string p.rv, dv, av, gv, bv, rv, pv, sv, lv, .slice fa fn fc], tv] w fun e w' => e = .returned (.bool (ts.any (fun t => packB t p))) ∧ Below w.heap.size w w' := by
  obtain ⟨w0, hw0⟩ : ∃ w0 : World, w0 = w.alloc (.cells #[.string p.name, .int .i64 p.ep, .string p.up, .string p.rv, dv, av, gv, bv, rv, pv, sv, lv, .slice fa fn fc] 30) := ⟨_, rfl⟩
  have hB0 : Below w.heap.size w w0 := by rw [hw0]; go_grown
  have hz : w0.heap.size = w.heap.size + 1 := by rw [hw0]; simp
  have hbox : PackBox w0 w.heap.size p dv av gv bv rv pv sv lv fa fn fc := by rw [hw0]; exact PackBox.new w p dv av gv bv rv pv sv lv fa fn fc _
  have HP := Lib.hid (hP.below hB0 (Nat.le_refl _))
  have hT0 := hT.below hB0 (Nat.le_refl _)
  obtain ⟨⟨a, cap, rfl, hcap, hmax, hcell⟩, -⟩ := hT0
  unfold maxLen at hmax
  obtain ⟨n, hn⟩ : ∃ n, ts.length = n := ⟨_, rfl⟩
  have Hcell := Lib.hid hcell
  clear hcell hT
  rw [hn] at hcap Hcell ⊢
  have Hn := Lib.hid hn
  have H1 := Lib.hid h1
  have H2 := Lib.hid h2
  have H3 := Lib.hid h3
  have Hbox := Lib.hid hbox
  have HB0 := Lib.hid hB0
  have Hz := Lib.hid hz
  have Hw := Lib.hid hw0
  clear hn h1 h2 h3 hbox hB0 hz hw0 hP
  go_enter Tryz.func34, Tryz.ntmps34
  go_wp2_with fail
  rw [← Hw.out]
  go_wp2_with fail
  go_loopg [9] n (fun k v9 wr => ∃ i : Nat, v9 = .int .i64 i ∧ i ≤ n ∧ k = n - i ∧ (ts.take i).any (fun t => packB t p) = false ∧ Below w0.heap.size w0 wr)
  case atStart => exact ⟨0, rfl, Nat.zero_le _, rfl, rfl, Below.refl _ _⟩
  case round =>
    obtain ⟨i, rfl, hi, hk, hall, hB⟩ := hrel
    have Hk := Lib.hid hk
    have Hall := Lib.hid hall
    have hfin := HB0.out.trans (hB.mono HB0.out.size)
    clear hk hall
    by_cases hlt : i < n
    · obtain ⟨b, o, rfl, hb, hc⟩ := Hcell.out.resolve_left (by omega)
      obtain ⟨t, ht⟩ : ∃ t, TermD.at ts i = t := ⟨_, rfl⟩
      have HM : Hid (t ∈ ts) := by show t ∈ ts; rw [← ht]; exact mem_at (by rw [Hn.out]; exact hlt)
      have d0 : wr.cell? ⟨b, o + i * 5, none⟩ = some (.string t.name) := (hB.cell (p := ⟨b, o + i * 5, none⟩) hb).trans (by have := hc i 0 hlt (by decide); rw [ht] at this; exact this)
      have d1 : wr.cell? ⟨b, o + i * 5 + 1, none⟩ = some (.int .i64 t.op) := (hB.cell (p := ⟨b, o + i * 5 + 1, none⟩) hb).trans (by have := hc i 1 hlt (by decide); rw [ht] at this; exact this)
      have d2 : wr.cell? ⟨b, o + i * 5 + 2, none⟩ = some (.int .i64 t.ep) := (hB.cell (p := ⟨b, o + i * 5 + 2, none⟩) hb).trans (by have := hc i 2 hlt (by decide); rw [ht] at this; exact this)
      have d3 : wr.cell? ⟨b, o + i * 5 + 3, none⟩ = some (.string t.up) := (hB.cell (p := ⟨b, o + i * 5 + 3, none⟩) hb).trans (by have := hc i 3 hlt (by decide); rw [ht] at this; exact this)
      have d4 : wr.cell? ⟨b, o + i * 5 + 4, none⟩ = some (.string t.rv) := (hB.cell (p := ⟨b, o + i * 5 + 4, none⟩) hb).trans (by have := hc i 4 hlt (by decide); rw [ht] at this; exact this)
      have HT := Lib.hid ht
      have hbx := Hbox.out.below hB (by rw [Hz.out]; omega)
      have p0 : wr.cell? ⟨w.heap.size, 0, none⟩ = some (.string p.name) := hbx.c 0 _ rfl
      have p1 : wr.cell? ⟨w.heap.size, 1, none⟩ = some (.int .i64 p.ep) := hbx.c 1 _ rfl
      have p2 : wr.cell? ⟨w.heap.size, 2, none⟩ = some (.string p.up) := hbx.c 2 _ rfl
      have p3 : wr.cell? ⟨w.heap.size, 3, none⟩ = some (.string p.rv) := hbx.c 3 _ rfl
      have p4 : wr.cell? ⟨w.heap.size, 4, none⟩ = some dv := hbx.c 4 _ rfl
      have p5 : wr.cell? ⟨w.heap.size, 5, none⟩ = some av := hbx.c 5 _ rfl
      have p6 : wr.cell? ⟨w.heap.size, 6, none⟩ = some gv := hbx.c 6 _ rfl
      have p7 : wr.cell? ⟨w.heap.size, 7, none⟩ = some bv := hbx.c 7 _ rfl
      have p8 : wr.cell? ⟨w.heap.size, 8, none⟩ = some rv := hbx.c 8 _ rfl
      have p9 : wr.cell? ⟨w.heap.size, 9, none⟩ = some pv := hbx.c 9 _ rfl
      have p10 : wr.cell? ⟨w.heap.size, 10, none⟩ = some sv := hbx.c 10 _ rfl
      have p11 : wr.cell? ⟨w.heap.size, 11, none⟩ = some lv := hbx.c 11 _ rfl
      have p12 : wr.cell? ⟨w.heap.size, 12, none⟩ = some (.slice fa fn fc) := hbx.c 12 _ rfl
      have hsz : w.heap.size < wr.heap.size := hbx.lt
      clear hc ht hb hbx
      go_wp2_with fail
      refine (refMeets_calls p _ _ _ _ _ _ _ _ _ _ _ t _ ((HP.out.below hB (Nat.le_refl _)).below ((Below.refl _ _).alloc (Nat.le_refl _) _) (Nat.le_refl _)) (H1.out t HM.out) H2.out H3.out).mono ?_
      rintro e w1 ⟨rfl, hb⟩
      rw [show meetsB p.name p.ep p.up p.rv p.provides t = packB t p from rfl]
      have hB1 := (hB.alloc hB.size _).trans (hb.mono (by have := hB.size; simp; omega))
      have hF := HB0.out.trans (hB1.mono HB0.out.size)
      clear hb hB hfin d0 d1 d2 d3 d4 p0 p1 p2 p3 p4 p5 p6 p7 p8 p9 p10 p11 p12
      cases hp : packB t p
      · have HS : Hid ((ts.take (i + 1)).any (fun t => packB t p) = false) := any_step TermD.none (by rw [Hn.out]; exact hlt) Hall.out (by rw [show ts.getD i TermD.none = t from HT.out]; exact hp)
        clear hp
        go_wp2_with fail
        go_roundg (n - (i + 1))
        case rel => exact ⟨i + 1, by go_num, by omega, rfl, HS.out, hB1⟩
        case measure => have := Hk.out; omega
      · have HF : Hid (ts.any (fun t => packB t p) = true) := by show _ = _; rw [List.any_eq_true]; exact ⟨t, HM.out, hp⟩
        clear hp
        go_wp2_with fail
        go_ret
        exact ⟨ret_bool HF.out.symm, hF⟩
    · have HF : Hid (ts.any (fun t => packB t p) = false) := by
        have := Hall.out
        rwa [List.take_of_length_le (by rw [Hn.out]; omega)] at this
      go_wp2_with fail
      go_ret
      exact ⟨ret_bool HF.out.symm, hfin⟩

theorem refWorks_calls (s e0 : Int) (u r : ByteArray) (hd : Bool) (wv tv : Value) (p : PackD) (dv av gv bv rv pv sv lv : Value) (fa : Option Addr) (fn fc : Nat) (w : World) :
    Calls Tryz.prog 35 #[.agg #[.int .i64 s, .int .i64 e0, .string u, .string r, .bool hd, wv, tv, .string p.name, .int .i64 p.ep, .string p.up, .string p.rv, dv, av, gv, bv, rv, pv, sv, lv, .slice fa fn fc]] w fun e w' => e = .returned (.bool (worksV s)) ∧ Below w.heap.size w w' := by
  have hI := fun W => in_calls s 5 7 W
  go_enter Tryz.func35, Tryz.ntmps35
  go_wp2_with fail
  refine (hI _).mono ?_
  rintro e w1 ⟨rfl, rfl⟩
  clear hI
  go_wp2_with fail
  go_ret
  exact ⟨rfl, by go_grown⟩

/-- Unpack's first closure: is a package that is known the one of this name, and held. -/
theorem unpack1_calls (s e0 : Int) (u r : ByteArray) (hd : Bool) (wv tv : Value) (p : PackD) (dv av gv bv rv pv sv lv : Value) (fa : Option Addr) (fn fc : Nat) (b : Nat) (nm : ByteArray) (w : World) (hlt : b < w.heap.size) (c0 : w.cell? ⟨b, 0, none⟩ = some (.string nm)) :
    Calls Tryz.prog 23 #[.agg #[.int .i64 s, .int .i64 e0, .string u, .string r, .bool hd, wv, tv, .string p.name, .int .i64 p.ep, .string p.up, .string p.rv, dv, av, gv, bv, rv, pv, sv, lv, .slice fa fn fc], .pointer (some ⟨b, 0, none⟩)] w fun e w' => e = .returned (.bool ((p.name.toList == nm.toList) && hd)) ∧ Below w.heap.size w w' := by
  cases hn : (p.name.toList == nm.toList)
  · go_enter Tryz.func23, Tryz.ntmps23
    go_wp2_with fail
    go_ret
    exact ⟨ret_bool (by simp), by go_grown⟩
  · go_enter Tryz.func23, Tryz.ntmps23
    go_wp2_with fail
    go_ret
    exact ⟨ret_bool (by simp), by go_grown⟩
theorem enters_unpack1 : ∀ args w, (callFunc 23 args).run Tryz.prog w = .ok (.enter 23 args) w := enters_of Tryz.func23 (by kernel_rfl) rfl

/-- Its second: is an offer of this name. -/
theorem unpack2_calls (o : OffD) (b : Nat) (nm : ByteArray) (w : World) (hlt : b < w.heap.size) (c0 : w.cell? ⟨b, 0, none⟩ = some (.string nm)) :
    Calls Tryz.prog 27 #[.agg #[.string o.name, .int .i64 o.ep, .string o.up, .string o.rv, o.pv], .pointer (some ⟨b, 0, none⟩)] w fun e w' => e = .returned (.bool (o.name.toList == nm.toList)) ∧ Below w.heap.size w w' := by
  go_enter Tryz.func27, Tryz.ntmps27
  go_wp2_with fail
  go_ret
  exact ⟨ret_bool (by simp), by go_grown⟩
theorem enters_unpack2 : ∀ args w, (callFunc 27 args).run Tryz.prog w = .ok (.enter 27 args) w := enters_of Tryz.func27 (by kernel_rfl) rfl
end Go.Proofs.YtnfnebfioibndaaGreatDoor
namespace Go.Proofs.YtnfnebfioibndaaGreatDoor
open Go.RowKit
set_option maxRecDepth 10000
set_option maxHeartbeats 1000000

theorem rangeAt_nil (w : World) (b o : Nat) : w.rangeAt b o [] := fun j v h => by simp at h
theorem rangeAt_cons {w : World} {b o : Nat} {v : Value} {vs : List Value} (h : w.cell? ⟨b, o, none⟩ = some v) (hs : w.rangeAt b (o + 1) vs) : w.rangeAt b o (v :: vs) := by
  intro j x hx
  cases j with
  | zero => simp at hx; subst hx; exact h
  | succ j =>
    have := hs j x (by simpa using hx)
    rwa [show o + 1 + j = o + (j + 1) by omega] at this

theorem there_new (w : World) (cs : Array Value) (t : TypeId) (n : Nat) (h : cs.size = n) : (w.alloc (.cells cs t)).there w.heap.size 0 n := by
  intro j hj
  rw [Nat.zero_add]
  constructor
  · simp only [World.cell?_alloc_new]
    simp [h, hj]
  · simp [go_sem]

/-- A new block that is stored into, whole, at once. -/
theorem setCells_new (w : World) (zs : Array Value) (t : TypeId) (cs : List Value) (h : zs.size = cs.length) : (w.alloc (.cells zs t)).setCells w.heap.size 0 cs = w.alloc (.cells cs.toArray t) := by
  have key : ∀ (pre suf rest : List Value), pre.length + suf.length = pre.length + rest.length → (w.alloc (.cells (pre ++ suf).toArray t)).setCells w.heap.size pre.length rest = w.alloc (.cells (pre ++ rest).toArray t) := by
    intro pre suf rest
    induction rest generalizing pre suf with
    | nil =>
      intro hl
      have : suf = [] := List.eq_nil_of_length_eq_zero (by simpa using hl)
      subst this
      rfl
    | cons r rest ih =>
      intro hl
      cases suf with
      | nil => simp at hl
      | cons s suf =>
        have e : (w.alloc (.cells (pre ++ s :: suf).toArray t)).setCell ⟨w.heap.size, pre.length, none⟩ r = w.alloc (.cells ((pre ++ [r]) ++ suf).toArray t) := by
          have hp : (w.heap.push (.cells (pre ++ s :: suf).toArray t)).modify w.heap.size (fun
              | .cells c elem frozen => .cells (if (⟨w.heap.size, pre.length, none⟩ : Addr).spot.isSome then c else c.setIfInBounds pre.length r) elem frozen
              | o => o) = w.heap.push (.cells ((pre ++ [r]) ++ suf).toArray t) := by
            apply Array.ext_getElem?
            intro i
            rw [Array.getElem?_modify, Array.getElem?_push, Array.getElem?_push]
            by_cases hi : i = w.heap.size
            · subst hi
              simp
            · rw [if_neg hi, if_neg hi, if_neg (Ne.symm hi)]
          show ({ (w.alloc (.cells (pre ++ s :: suf).toArray t)) with heap := _ } : World) = _
          unfold World.alloc
          exact congrArg (fun h => ({ w with heap := h } : World)) hp
        show ((w.alloc (.cells (pre ++ s :: suf).toArray t)).setCell ⟨w.heap.size, pre.length, none⟩ r).setCells w.heap.size (pre.length + 1) rest = _
        rw [e]
        have := ih (pre ++ [r]) suf (by simp at hl ⊢; omega)
        rw [List.length_append] at this
        rw [show pre ++ r :: rest = (pre ++ [r]) ++ rest by simp]
        exact this
  exact key [] zs.toList cs (by show 0 + zs.toList.length = 0 + cs.length; rw [Array.length_toList, h])
end Go.Proofs.YtnfnebfioibndaaGreatDoor
namespace Go.Proofs.YtnfnebfioibndaaGreatDoor
open Go.RowKit
set_option maxRecDepth 100000
set_option maxHeartbeats 4000000

theorem info_offer : (Tryz.prog.info? 73).map (fun i => (i.zero, i.size, i.bytes)) = some (some (.agg #[.string ⟨#[]⟩, .int .i64 0, .string ⟨#[]⟩, .string ⟨#[]⟩, .slice none 0 0]), 5, 80) := by kernel_rfl

/-- What of an offer it is about. -/
def OffD.bare (o : OffD) : ByteArray × Int × ByteArray × ByteArray × List TermD := (o.name, o.ep, o.up, o.rv, o.provides)
def PackD.bare (o : PackD) : ByteArray × Int × ByteArray × ByteArray × List TermD := (o.name, o.ep, o.up, o.rv, o.provides)
def KnownD.bare (k : KnownD) : ByteArray × Int × ByteArray × ByteArray × List TermD := k.pack.bare
def bareB (t : TermD) (o : ByteArray × Int × ByteArray × ByteArray × List TermD) : Bool := meetsB o.1 o.2.1 o.2.2.1 o.2.2.2.1 o.2.2.2.2 t
theorem oneO_bare (os : List OffD) : oneO os = fun x => x.any fun t => (os.map OffD.bare).any (bareB t) := by
  funext x
  unfold oneO
  congr 1
  funext t
  rw [List.any_map]
  rfl
theorem oneP_bare (ps : List PackD) : oneP ps = fun x => x.any fun t => (ps.map PackD.bare).any (bareB t) := by
  funext x
  unfold oneP
  congr 1
  funext t
  rw [List.any_map]
  rfl

def offRow (o : OffD) : List Value := [.string o.name, .int .i64 o.ep, .string o.up, .string o.rv, o.pv]
def rowsOf (os : List OffD) : List Value := os.flatMap offRow
theorem rowsOf_snoc (os : List OffD) (o : OffD) : rowsOf (os ++ [o]) = rowsOf os ++ offRow o := by simp [rowsOf]
theorem rowsOf_len (os : List OffD) : (rowsOf os).length = os.length * 5 := by
  induction os with
  | nil => rfl
  | cons o os ih =>
    have : rowsOf (o :: os) = offRow o ++ rowsOf os := rfl
    rw [this, List.length_append, ih]
    simp [offRow]
    omega
theorem offRow_at (o : OffD) (j : Nat) (hj : j < 5) : (offRow o)[j]? = some (o.row j) := by
  match j, hj with
  | 0, _ => rfl
  | 1, _ => rfl
  | 2, _ => rfl
  | 3, _ => rfl
  | 4, _ => rfl
theorem rowsOf_at (os : List OffD) (i j : Nat) (hi : i < os.length) (hj : j < 5) : (rowsOf os)[i * 5 + j]? = some ((os.getD i default).row j) := by
  induction os generalizing i with
  | nil => simp at hi
  | cons o os ih =>
    have e : rowsOf (o :: os) = offRow o ++ rowsOf os := rfl
    rw [e]
    cases i with
    | zero =>
      rw [List.getElem?_append_left (by simp [offRow]; omega), show 0 * 5 + j = j by omega, offRow_at o j hj]
      rfl
    | succ i =>
      rw [List.getElem?_append_right (by simp [offRow]; omega)]
      have : (i + 1) * 5 + j - (offRow o).length = i * 5 + j := by simp [offRow]; omega
      rw [this, ih i (by simpa using hi)]
      simp [List.getD]
theorem offs_owned {w : World} {base : Nat} {e : TypeId} {v : Value} {os : List OffD} (h : w.ownsRow base e 5 v os.length (rowsOf os)) : Offs w v os := by
  refine ⟨?_, trivial⟩
  rcases id h.2 with ⟨rfl, h0⟩ | ⟨g, cap, cur, rfl, _, hg, h1, h2, _⟩
  · rw [h0]
    exact Sl.nil _ _ _
  · refine ⟨_, cap, rfl, h1, h2, Or.inr ⟨g, 0, rfl, ?_, fun i j hi hj => ?_⟩⟩
    · rcases Nat.lt_or_ge g w.heap.size with hlt | hge
      · exact hlt
      · rw [Array.getElem?_eq_none hge] at hg; cases hg
    · have := h.cellAt (i * 5 + j) (by omega)
      rw [rowsOf_at os i j hi hj] at this
      rw [Nat.zero_add]
      exact this

theorem take_snoc {α : Type} {l : List α} {i : Nat} (d : α) (h : i < l.length) : l.take (i + 1) = l.take i ++ [l.getD i d] := by
  rw [List.take_add_one, List.getElem?_eq_getElem h]
  simp [List.getD, List.getElem?_eq_getElem h]

/-- The offers of those that work: an own row, and what they are. -/
def WorkR (w : World) (ks : List KnownD) (e : Ending) (w' : World) : Prop :=
  ∃ (ov : Value) (os : List OffD), e = .returned ov ∧ w'.ownsRow w.heap.size 73 5 ov os.length (rowsOf os) ∧ os.map OffD.bare = (ks.filter (fun k => worksV k.state)).map KnownD.bare ∧ (∀ o ∈ os, Terms w o.pv o.provides) ∧ os.length ≤ ks.length ∧ Below w.heap.size w w'

theorem offersK_calls (kv : Value) (ks : List KnownD) (w : World) (hK : Knowns w kv ks) (hlen : ks.length ≤ 20) :
    Calls Tryz.prog 25 #[kv, .func (.func 26) #[] #[]] w (WorkR w ks) := by
  obtain ⟨R, ⟨a, cap, rfl, hcap, hmax, hcell⟩, hO⟩ := hK
  unfold maxLen at hmax
  obtain ⟨i0, hi0, hz0, hz1, hz2⟩ := info_parts info_offer
  have Hcell := Lib.hid hcell
  have HO := Lib.hid hO
  obtain ⟨m, hm⟩ : ∃ m, ks.length = m := ⟨_, rfl⟩
  rw [hm] at hcap Hcell HO hlen ⊢
  have Hm := Lib.hid hm
  have Hi0 := Lib.hid (And.intro hi0 (And.intro hz0 (And.intro hz1 hz2)))
  clear hcell hO hm hi0 hz0 hz1 hz2
  go_enter Tryz.func25, Tryz.ntmps25
  go_wp2_with fail
  go_loopg [5, 10] m (fun k v5 v10 wr => ∃ (i : Nat) (ov : Value) (os : List OffD), ov = v5 ∧ v10 = .int .i64 i ∧ i ≤ m ∧ k = m - i ∧ wr.ownsRow w.heap.size 73 5 ov os.length (rowsOf os) ∧ os.map OffD.bare = ((ks.take i).filter (fun k => worksV k.state)).map KnownD.bare ∧ (∀ o ∈ os, Terms w o.pv o.provides) ∧ os.length ≤ i ∧ Below w.heap.size w wr)
  case atStart => exact ⟨0, _, [], rfl, rfl, Nat.zero_le _, rfl, World.ownsRow_nil _ _ _ _, rfl, by simp, Nat.le_refl _, Below.refl _ _⟩
  case round =>
    obtain ⟨i, ov, os, rfl, rfl, hi, hk, hown, hbare, hterm, hos, hB⟩ := hrel
    have Hk := Lib.hid hk
    have Hown := Lib.hid hown
    have Hbare := Lib.hid hbare
    have Hterm := Lib.hid hterm
    have Hos := Lib.hid hos
    clear hk hown hbare hterm hos
    by_cases hlt : i < m
    · obtain ⟨bp, op, rfl, hbp, hcp⟩ := Hcell.out.resolve_left (by omega)
      obtain ⟨q, hq⟩ : ∃ q, ks.getD i KnownD.none = q := ⟨_, rfl⟩
      have hkn := HO.out i hlt
      rw [hq] at hkn
      obtain ⟨s, e, u, r, hd, ws, ts, p⟩ := q
      have hpk := hkn.pack
      obtain ⟨dv, av, gv, bv, rv, pv, sv, lv, fa, fn, fc, e4, e5, e6, e7, e8, e9, e10, e11, e12, hV⟩ := hpk.cells
      obtain ⟨f4, n4, q4, rfl⟩ := hV.depends.slice
      obtain ⟨f5, n5, q5, rfl⟩ := hV.ahead.slice
      obtain ⟨f6, n6, q6, rfl⟩ := hV.against.1.slice
      obtain ⟨f7, n7, q7, rfl⟩ := hV.breaks.1.slice
      obtain ⟨f8, n8, q8, rfl⟩ := hV.replaces.1.slice
      obtain ⟨f9, n9, q9, rfl⟩ := hV.provides.1.slice
      obtain ⟨f10, n10, q10, rfl⟩ := hV.settings.1.slice
      obtain ⟨f11, n11, q11, rfl⟩ := hV.listens.1.slice
      obtain ⟨fw, nw, qw, ew⟩ := hkn.waits.1.slice
      obtain ⟨ft, nt, qt, et⟩ := hkn.tasks.1.slice
      have HV := Lib.hid hV
      have hat : ∀ k, k < 20 → wr.cell? ⟨bp, op + i * 20 + k, none⟩ = some (R i k) := fun k hk => (hB.cell (p := ⟨bp, op + i * 20 + k, none⟩) hbp).trans (hcp i k hlt hk)
      have s0 := hat 0 (by decide)
      have s1 := hat 1 (by decide)
      have s2 := hat 2 (by decide)
      have s3 := hat 3 (by decide)
      have s4 := hat 4 (by decide)
      have s5 := hat 5 (by decide)
      have s6 := hat 6 (by decide)
      have p0 := hat 7 (by decide)
      have p1 := hat 8 (by decide)
      have p2 := hat 9 (by decide)
      have p3 := hat 10 (by decide)
      have p4 := (hat 11 (by decide)).trans (congrArg some e4)
      have p5 := (hat 12 (by decide)).trans (congrArg some e5)
      have p6 := (hat 13 (by decide)).trans (congrArg some e6)
      have p7 := (hat 14 (by decide)).trans (congrArg some e7)
      have p8 := (hat 15 (by decide)).trans (congrArg some e8)
      have p9 := (hat 16 (by decide)).trans (congrArg some e9)
      have p10 := (hat 17 (by decide)).trans (congrArg some e10)
      have p11 := (hat 18 (by decide)).trans (congrArg some e11)
      have p12 := (hat 19 (by decide)).trans (congrArg some e12)
      rw [hkn.state, Nat.add_zero] at s0
      rw [hkn.ep] at s1
      rw [hkn.up] at s2
      rw [hkn.rv] at s3
      rw [hkn.held] at s4
      rw [ew] at s5
      rw [et] at s6
      rw [show R i 7 = _ from hpk.name] at p0
      rw [show R i 8 = _ from hpk.ep] at p1
      rw [show R i 9 = _ from hpk.up] at p2
      rw [show R i 10 = _ from hpk.rv] at p3
      have Hq := Lib.hid hq
      have hsz := hB.size
      obtain ⟨wt, hwt⟩ : ∃ wt : World, wt = wr.alloc (.cells #[.int .i64 s, .int .i64 e, .string u, .string r, .bool hd, .slice fw nw qw, .slice ft nt qt, .string p.name, .int .i64 p.ep, .string p.up, .string p.rv, .slice f4 n4 q4, .slice f5 n5 q5, .slice f6 n6 q6, .slice f7 n7 q7, .slice f8 n8 q8, .slice f9 n9 q9, .slice f10 n10 q10, .slice f11 n11 q11, .slice fa fn fc] 61) := ⟨_, rfl⟩
      have hBt : Below w.heap.size w wt := by rw [hwt]; exact hB.alloc hB.size _
      have hzt : wt.heap.size = wr.heap.size + 1 := by rw [hwt]; simp
      have g0 : wt.cell? ⟨wr.heap.size, 0, none⟩ = some (.int .i64 s) := by rw [hwt, World.cell?_alloc_new]; rfl
      have g7 : wt.cell? ⟨wr.heap.size, 7, none⟩ = some (.string p.name) := by rw [hwt, World.cell?_alloc_new]; rfl
      have g8 : wt.cell? ⟨wr.heap.size, 8, none⟩ = some (.int .i64 p.ep) := by rw [hwt, World.cell?_alloc_new]; rfl
      have g9 : wt.cell? ⟨wr.heap.size, 9, none⟩ = some (.string p.up) := by rw [hwt, World.cell?_alloc_new]; rfl
      have g10 : wt.cell? ⟨wr.heap.size, 10, none⟩ = some (.string p.rv) := by rw [hwt, World.cell?_alloc_new]; rfl
      have g16 : wt.cell? ⟨wr.heap.size, 16, none⟩ = some (.slice f9 n9 q9) := by rw [hwt, World.cell?_alloc_new]; rfl
      have hownt : wt.ownsRow w.heap.size 73 5 ov os.length (rowsOf os) := by rw [hwt]; exact Hown.out.alloc _
      have Hownt := Lib.hid hownt
      have Hwt := Lib.hid hwt
      have Hzt := Lib.hid hzt
      clear hzt
      have HR : Hid (wr.rangeAt bp (op + i * 20) [.int .i64 s, .int .i64 e, .string u, .string r, .bool hd, .slice fw nw qw, .slice ft nt qt, .string p.name, .int .i64 p.ep, .string p.up, .string p.rv, .slice f4 n4 q4, .slice f5 n5 q5, .slice f6 n6 q6, .slice f7 n7 q7, .slice f8 n8 q8, .slice f9 n9 q9, .slice f10 n10 q10, .slice f11 n11 q11, .slice fa fn fc]) := rangeAt_cons s0 (rangeAt_cons s1 (rangeAt_cons s2 (rangeAt_cons s3 (rangeAt_cons s4 (rangeAt_cons s5 (rangeAt_cons s6 (rangeAt_cons p0 (rangeAt_cons p1 (rangeAt_cons p2 (rangeAt_cons p3 (rangeAt_cons p4 (rangeAt_cons p5 (rangeAt_cons p6 (rangeAt_cons p7 (rangeAt_cons p8 (rangeAt_cons p9 (rangeAt_cons p10 (rangeAt_cons p11 (rangeAt_cons p12 (rangeAt_nil _ _ _))))))))))))))))))))
      clear s0 s1 s2 s3 s4 s5 s6 p0 p1 p2 p3 p4 p5 p6 p7 p8 p9 p10 p11 p12
      clear hat hcp e4 e5 e6 e7 e8 e9 e10 e11 e12 ew et hV hpk hkn hq hwt hownt
      go_wp2_with (first
        | (refine wpList_load_mid (by rfl) 61 _ (by rfl) bp (op + i * 20) (by rfl) _ _ HR.out Tryz.underlying61 (by rfl) (by kernel_rfl) ?_)
        | (refine wpList_store_mid (by rfl) 61 _ _ (by rfl) wr.heap.size 0 #[.int .i64 s, .int .i64 e, .string u, .string r, .bool hd, .slice fw nw qw, .slice ft nt qt, .string p.name, .int .i64 p.ep, .string p.up, .string p.rv, .slice f4 n4 q4, .slice f5 n5 q5, .slice f6 n6 q6, .slice f7 n7 q7, .slice f8 n8 q8, .slice f9 n9 q9, .slice f10 n10 q10, .slice f11 n11 q11, .slice fa fn fc] (by rfl) (by rfl) (there_new _ _ _ _ (by rfl)) (by kernel_rfl) (by simp [Value.oneCell']) ?_; rw [setCells_new _ _ _ _ (by rfl)]))
      rw [show wr.alloc (.cells _ _) = wt from Hwt.out.symm]
      refine (works_calls s wt).mono ?_
      rintro e1 w1 ⟨rfl, rfl⟩
      cases hwk : worksV s
      · have HN : Hid (os.map OffD.bare = ((ks.take (i + 1)).filter (fun k => worksV k.state)).map KnownD.bare) := by
          show _ = _
          rw [Hbare.out, take_snoc KnownD.none (by rw [Hm.out]; exact hlt), Hq.out, List.filter_append]
          simp [hwk]
        clear hwk
        go_wp2_with fail
        go_roundg (m - (i + 1))
        case rel => exact ⟨i + 1, _, os, rfl, by go_num, by omega, rfl, Hownt.out, HN.out, Hterm.out, by have := Hos.out; omega, hBt⟩
        case measure => have := Hk.out; omega
      · have HN : Hid ((os ++ [(⟨p.name, p.ep, p.up, p.rv, .slice f9 n9 q9, p.provides⟩ : OffD)]).map OffD.bare = ((ks.take (i + 1)).filter (fun k => worksV k.state)).map KnownD.bare) := by
          show _ = _
          rw [List.map_append, Hbare.out, take_snoc KnownD.none (by rw [Hm.out]; exact hlt), Hq.out, List.filter_append, List.map_append]
          simp [hwk, OffD.bare, KnownD.bare, PackD.bare]
        have HT : Hid (∀ o ∈ os ++ [(⟨p.name, p.ep, p.up, p.rv, .slice f9 n9 q9, p.provides⟩ : OffD)], Terms w o.pv o.provides) := by
          intro o ho
          rcases List.mem_append.1 ho with h | h
          · exact Hterm.out o h
          · rw [List.mem_singleton.1 h]
            exact HV.out.provides
        have hos2 : os.length ≤ i := Hos.out
        have hsz2 : w.heap.size ≤ wt.heap.size := hBt.size
        clear hwk
        go_wp2_with (at_builtin; refine wpList_append_own _ rfl _ _ 70 rfl w.heap.size 73 i0 _ 5 80 Tryz.underlying70 Hi0.out.1 Hi0.out.2.1 Hi0.out.2.2.1 Hi0.out.2.2.2 rfl (by decide) ov os.length (rowsOf os) rfl (Hownt.out.alloc _) ⟨wt.heap.size, 0, none⟩ 1 1 [.string p.name, .int .i64 p.ep, .string p.up, .string p.rv, .slice f9 n9 q9] rfl rfl (World.news_of_block (cs := #[.string p.name, .int .i64 p.ep, .string p.up, .string p.rv, .slice f9 n9 q9]) (t := 73) (fr := (0, 0)) (heap_alloc_new wt _)) (by simp [Value.oneCell']) (by unfold maxLen; omega) (by omega) (by simp; omega) ?_)
        intro v' w' hown1 hgrow _
        have hB1 : Below w.heap.size w w' := (hBt.alloc hBt.size _).grown hgrow (by simp; have := hBt.size; omega) (fun k e => (Hownt.out.lt _ e).1)
        have Hown1 : Hid (w'.ownsRow w.heap.size 73 5 v' (os ++ [(⟨p.name, p.ep, p.up, p.rv, .slice f9 n9 q9, p.provides⟩ : OffD)]).length (rowsOf (os ++ [(⟨p.name, p.ep, p.up, p.rv, .slice f9 n9 q9, p.provides⟩ : OffD)]))) := by
          show World.ownsRow _ _ _ _ _ _ _
          rw [rowsOf_snoc, List.length_append]
          exact hown1
        clear hown1 hgrow g0 g7 g8 g9 g10 g16
        go_wp2_with fail
        go_roundg (m - (i + 1))
        case rel => exact ⟨i + 1, _, _, rfl, by go_num, by omega, rfl, Hown1.out, HN.out, HT.out, by simp; exact hos2, hB1⟩
        case measure => have := Hk.out; omega
    · obtain rfl : i = m := by omega
      go_wp2_with fail
      go_ret
      refine ⟨ov, os, rfl, Hown.out, ?_, Hterm.out, by rw [Hm.out]; exact Hos.out, hB⟩
      have := Hbare.out
      rwa [List.take_of_length_le (by rw [Hm.out]; exact Nat.le_refl _)] at this
end Go.Proofs.YtnfnebfioibndaaGreatDoor
