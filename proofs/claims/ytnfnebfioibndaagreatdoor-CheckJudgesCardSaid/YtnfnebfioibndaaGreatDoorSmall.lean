/- Small functions of check and its document: works, may, holds, offer, meets, one. -/
import Derived.Test.YtnfnebfioibndaaGreatDoorKnown
import Derived.Test.YtnfnebfioibndaaGreatDoorRefMet
import Derived.Test.YtnfnebfioibndaaGreatDoorNext
import Derived.Test.YtnfnebfioibndaaGreatDoorErr
namespace Go.Proofs.YtnfnebfioibndaaGreatDoor
open Go.RowKit
set_option maxRecDepth 100000
set_option maxHeartbeats 2000000

def worksV (s : Int) : Bool := decide (5 ≤ s) && decide (s ≤ 7)

theorem works_calls (s : Int) (w : World) : Calls Tryz.prog 26 #[.int .i64 s] w fun e w' => e = .returned (.bool (worksV s)) ∧ w = w' := by
  by_cases h7 : s = 7
  · subst h7
    go_enter Tryz.func26, Tryz.ntmps26
    go_wp2
    go_ret
    exact ⟨ret_bool (by decide), rfl⟩
  · have e7 : (s == 7) = false := by simp [h7]
    by_cases h6 : s = 6
    · subst h6
      go_enter Tryz.func26, Tryz.ntmps26
      go_wp2
      go_ret
      exact ⟨ret_bool (by decide), rfl⟩
    · have e6 : (s == 6) = false := by simp [h6]
      by_cases h5 : s = 5
      · subst h5
        go_enter Tryz.func26, Tryz.ntmps26
        go_wp2
        go_ret
        exact ⟨ret_bool (by decide), rfl⟩
      · have e5 : (s == 5) = false := by simp [h5]
        have hv : worksV s = false := by unfold worksV; simp; omega
        rw [hv]
        clear hv h7 h6 h5
        go_enter Tryz.func26, Tryz.ntmps26
        go_wp2
        go_ret
        exact ⟨ret_bool (by simp [e5]), rfl⟩

theorem enters_works : ∀ args w, (callFunc 26 args).run Tryz.prog w = .ok (.enter 26 args) w := enters_of Tryz.func26 (by kernel_rfl) rfl

theorem refMay_calls (s e : Int) (w : World) (hT : TabR w) :
    Calls Tryz.prog 38 #[.int .i64 s, .int .i64 e] w fun ev w' => ev = .returned (.bool (nextE s e == 0)) ∧ w = w' := by
  have hn := refNext_calls s e w hT
  clear hT
  go_enter Tryz.func38, Tryz.ntmps38
  go_wp2_with fail
  refine hn.mono ?_
  rintro ev w' ⟨rfl, rfl⟩
  clear hn
  go_wp2
  all_goals go_ret
  all_goals exact ⟨ret_bool (by simp [*]), rfl⟩

def Ints (w : World) (v : Value) (ns : List Int) : Prop := Sl w v ns.length 1 (fun i _ => .int .i64 (ns.getD i 0)) ∧ True
theorem Ints.below {w w' : World} {v : Value} {ns : List Int} (h : Ints w v ns) {B : Nat} (hb : Below B w w') (hB : w.heap.size ≤ B) : Ints w' v ns := ⟨h.1.below hb hB, trivial⟩

theorem holds_calls (v : Value) (ns : List Int) (x : Int) (w : World) (h : Ints w v ns) :
    Calls Tryz.prog 39 #[v, .int .i64 x] w fun e w' => e = .returned (.bool (ns.any (· == x))) ∧ w = w' := by
  obtain ⟨⟨a, cap, rfl, hcap, hmax, hcell⟩, -⟩ := h
  unfold maxLen at hmax
  obtain ⟨n, hn⟩ : ∃ n, ns.length = n := ⟨_, rfl⟩
  have Hcell := Lib.hid hcell
  clear hcell
  rw [hn] at hcap Hcell ⊢
  have Hn := Lib.hid hn
  clear hn
  go_enter Tryz.func39, Tryz.ntmps39
  go_wp2_with fail
  go_loopg [9] n (fun k v9 wr => ∃ i : Nat, v9 = .int .i64 i ∧ i ≤ n ∧ k = n - i ∧ (ns.take i).any (· == x) = false ∧ w = wr)
  case atStart => exact ⟨0, rfl, Nat.zero_le _, rfl, rfl, rfl⟩
  case round =>
    obtain ⟨i, rfl, hi, hk, hall, rfl⟩ := hrel
    have Hk := Lib.hid hk
    have Hall := Lib.hid hall
    clear hk hall
    by_cases hlt : i < n
    · obtain ⟨b, o, rfl, hb, hc⟩ := Hcell.out.resolve_left (by omega)
      obtain ⟨t, ht⟩ : ∃ t, ns.getD i 0 = t := ⟨_, rfl⟩
      have c0 : w.cell? ⟨b, o + i, none⟩ = some (.int .i64 t) := by have := hc i 0 hlt (by decide); rw [ht] at this; simpa using this
      have HT := Lib.hid ht
      have HM : Hid (t ∈ ns) := by show t ∈ ns; rw [← ht]; exact mem_getD _ (by rw [Hn.out]; exact hlt)
      clear hc ht hb
      cases hp : (t == x)
      · have HS : Hid ((ns.take (i + 1)).any (· == x) = false) := any_step 0 (by rw [Hn.out]; exact hlt) Hall.out (by rw [HT.out]; exact hp)
        go_wp2_with fail
        go_roundg (n - (i + 1))
        case rel => exact ⟨i + 1, by go_num, by omega, rfl, HS.out, rfl⟩
        case measure => have := Hk.out; omega
      · have HF : Hid (ns.any (· == x) = true) := by show _ = _; rw [List.any_eq_true]; exact ⟨t, HM.out, hp⟩
        go_wp2_with fail
        go_ret
        exact ⟨ret_bool HF.out.symm, rfl⟩
    · have HF : Hid (ns.any (· == x) = false) := by
        have := Hall.out
        rwa [List.take_of_length_le (by rw [Hn.out]; omega)] at this
      go_wp2_with fail
      go_ret
      exact ⟨ret_bool HF.out.symm, rfl⟩

theorem offer_of_calls (p : PackD) (dv av gv bv rv pv sv lv : Value) (fa : Option Addr) (fn fc : Nat) (w : World) (h9 : ∃ a n c, pv = .slice a n c) :
    Calls Tryz.prog 29 #[.agg #[.string p.name, .int .i64 p.ep, .string p.up, .string p.rv, dv, av, gv, bv, rv, pv, sv, lv, .slice fa fn fc]] w fun e w' => e = .returned (.agg #[.string p.name, .int .i64 p.ep, .string p.up, .string p.rv, pv]) ∧ Below w.heap.size w w' := by
  obtain ⟨a, n, c, rfl⟩ := h9
  go_enter Tryz.func29, Tryz.ntmps29
  go_wp2
  go_returns
  exact ⟨rfl, by go_grown⟩

/-- The closure of meets. -/
theorem meets1_calls (o : OffD) (t : TermD) (b : Nat) (w : World) (hlt : b < w.heap.size)
    (hc : ∀ j, j < 5 → w.cell? ⟨b, j, none⟩ = some (o.row j)) (hO : OffOk w o) (h1 : SmallT t) :
    Calls Tryz.prog 59 #[.agg #[.string t.name, .int .i64 t.op, .int .i64 t.ep, .string t.up, .string t.rv], .pointer (some ⟨b, 0, none⟩)] w fun e w' => e = .returned (.bool (offB t o)) ∧ Below w.heap.size w w' := by
  have c0 : w.cell? ⟨b, 0, none⟩ = some (.string o.name) := hc 0 (by decide)
  have c1 : w.cell? ⟨b, 1, none⟩ = some (.int .i64 o.ep) := hc 1 (by decide)
  have c2 : w.cell? ⟨b, 2, none⟩ = some (.string o.up) := hc 2 (by decide)
  have c3 : w.cell? ⟨b, 3, none⟩ = some (.string o.rv) := hc 3 (by decide)
  have c4 : w.cell? ⟨b, 4, none⟩ = some o.pv := hc 4 (by decide)
  have hB0 : Below w.heap.size w (w.alloc (.cells #[.string t.name, .int .i64 t.op, .int .i64 t.ep, .string t.up, .string t.rv] 98)) := by go_grown
  have H1 := Lib.hid h1
  have HO := Lib.hid (hO.below hB0 (Nat.le_refl _))
  have HB0 := Lib.hid hB0
  clear h1 hO hc hB0
  unfold offB
  go_enter Tryz.func59, Tryz.ntmps59
  go_wp2_with fail
  refine (meets_calls _ _ _ _ _ o.provides t _ HO.out.terms H1.out HO.out.sm HO.out.smp).mono ?_
  rintro e w1 ⟨rfl, hb⟩
  have hB := HB0.out.trans (hb.mono HB0.out.size)
  clear hb c0 c1 c2 c3 c4
  go_wp2_with fail
  go_ret
  exact ⟨rfl, hB⟩
theorem enters_meets1 : ∀ args w, (callFunc 59 args).run Tryz.prog w = .ok (.enter 59 args) w := enters_of Tryz.func59 (by kernel_rfl) rfl

theorem meetsOf_calls (o : OffD) (lv : Value) (ts : List TermD) (but : ByteArray) (w : World) (hT : Terms w lv ts) (hO : OffOk w o) (h1 : ∀ t ∈ ts, SmallT t) :
    Calls Tryz.prog 30 #[.agg #[.string o.name, .int .i64 o.ep, .string o.up, .string o.rv, o.pv], lv, .string but] w fun e w' => e = .returned (.bool (!(o.name.toList == but.toList) && ts.any (fun t => offB t o))) ∧ Below w.heap.size w w' := by
  obtain ⟨w0, hw0⟩ : ∃ w0 : World, w0 = w.alloc (.cells #[.string o.name, .int .i64 o.ep, .string o.up, .string o.rv, o.pv] 73) := ⟨_, rfl⟩
  have hB0 : Below w.heap.size w w0 := by rw [hw0]; go_grown
  have hz : w0.heap.size = w.heap.size + 1 := by rw [hw0]; simp
  have c0 : w0.cell? ⟨w.heap.size, 0, none⟩ = some (.string o.name) := by rw [hw0]; simp [go_sem]
  have hcs : ∀ j, j < 5 → w0.cell? ⟨w.heap.size, j, none⟩ = some (o.row j) := by
    intro j hj
    rw [hw0]
    match j, hj with
    | 0, _ => simp [go_sem, OffD.row]
    | 1, _ => simp [go_sem, OffD.row]
    | 2, _ => simp [go_sem, OffD.row]
    | 3, _ => simp [go_sem, OffD.row]
    | 4, _ => simp [go_sem, OffD.row]
  have CC : Hid (Calls Tryz.prog 46 #[lv, .func (.func 59) #[] #[.pointer (some ⟨w.heap.size, 0, none⟩)]] w0 fun e w' => e = .returned (.bool (ts.any (fun t => offB t o))) ∧ Below w0.heap.size w0 w') := by
    refine containsTerm_calls lv ts _ _ (fun t => offB t o) w0 (hT.below hB0 (Nat.le_refl _)) enters_meets1 ?_
    intro t ht w2 hb2
    exact meets1_calls o t _ w2 (by have := hb2.size; omega) (fun j hj => (hb2.cell (p := ⟨w.heap.size, j, none⟩) (by rw [hz]; exact Nat.lt_succ_self _)).trans (hcs j hj)) ((hO.below hB0 (Nat.le_refl _)).below hb2 (Nat.le_refl _)) (h1 t ht)
  have HB0 := Lib.hid hB0
  have Hw := Lib.hid hw0
  clear hT hO h1 hB0 hz hcs hw0
  cases hn : (o.name.toList == but.toList)
  · go_enter Tryz.func30, Tryz.ntmps30
    go_wp2_with fail
    rw [← Hw.out]
    go_wp2_with fail
    refine CC.out.mono ?_
    rintro e w1 ⟨rfl, hb1⟩
    have hB := HB0.out.trans (hb1.mono HB0.out.size)
    clear hb1 c0 CC
    go_wp2_with fail
    go_ret
    exact ⟨ret_bool (by simp), hB⟩
  · go_enter Tryz.func30, Tryz.ntmps30
    go_wp2_with fail
    rw [← Hw.out]
    go_wp2_with fail
    go_ret
    exact ⟨ret_bool (by simp), HB0.out⟩
end Go.Proofs.YtnfnebfioibndaaGreatDoor
