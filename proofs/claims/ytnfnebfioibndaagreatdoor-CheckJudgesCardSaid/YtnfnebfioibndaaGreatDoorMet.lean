/- Met, both: whether of each of what is asked for one is there. -/
import Derived.Test.YtnfnebfioibndaaGreatDoorRefMeets
import Derived.LoopTactic
import Derived.Deep.LoopGhost
import Derived.Deep.CutBlock
import Derived.Deep.DeepCutAuto
import Derived.Outline
namespace Go.Proofs.YtnfnebfioibndaaGreatDoor
open Go.RowKit
set_option maxRecDepth 100000
set_option maxHeartbeats 4000000

def offB (t : TermD) (o : OffD) : Bool := meetsB o.name o.ep o.up o.rv o.provides t
def packB (t : TermD) (p : PackD) : Bool := meetsB p.name p.ep p.up p.rv p.provides t
def oneO (os : List OffD) (x : List TermD) : Bool := x.any fun t => os.any (offB t)
def oneP (ps : List PackD) (x : List TermD) : Bool := x.any fun t => ps.any (packB t)
def metR (f : List TermD → Bool) (ls : List (List TermD)) : Int × Bool :=
  match ls.findIdx? (fun x => !f x) with
  | some i => (i, false)
  | none => (0, true)

theorem metR_no {f : List TermD → Bool} {ls : List (List TermD)} {i : Nat} (hi : i < ls.length) (h : (ls.take i).all f = true) (hf : f (ls.getD i []) = false) : metR f ls = ((i : Int), false) := by
  unfold metR
  have : ls.findIdx? (fun x => !f x) = some i := by
    rw [List.findIdx?_eq_some_iff_getElem]
    refine ⟨hi, ?_, ?_⟩
    · simpa [List.getD, List.getElem?_eq_getElem hi] using hf
    · intro j hj
      rw [List.all_eq_true] at h
      have := h ls[j] (by rw [List.mem_take_iff_getElem]; exact ⟨j, by omega, rfl⟩)
      simp [this]
  rw [this]
theorem metR_all {f : List TermD → Bool} {ls : List (List TermD)} (h : ls.all f = true) : metR f ls = (0, true) := by
  unfold metR
  have : ls.findIdx? (fun x => !f x) = none := by
    rw [List.findIdx?_eq_none_iff]
    intro x hx
    rw [List.all_eq_true] at h
    simp [h x hx]
  rw [this]

theorem ret_met {k : Int} {b : Bool} {r : Int × Bool} (h : r = (k, b)) : Ending.returned (.tuple #[.int .i64 k, .bool b]) = .returned (.tuple #[.int .i64 r.1, .bool r.2]) := by rw [h]

theorem Offs.below {w w' : World} {v : Value} {ts : List OffD} (h : Offs w v ts) {B : Nat} (hb : Below B w w') (hB : w.heap.size ≤ B) : Offs w' v ts := ⟨h.1.below hb hB, trivial⟩
structure OffOk (w : World) (o : OffD) : Prop where
  terms : Terms w o.pv o.provides
  sm : o.up.size ≤ 1000 ∧ o.rv.size ≤ 1000
  smp : ∀ q ∈ o.provides, SmallT q
theorem OffOk.below {w w' : World} {o : OffD} (h : OffOk w o) {B : Nat} (hb : Below B w w') (hB : w.heap.size ≤ B) : OffOk w' o := ⟨h.terms.below hb hB, h.sm, h.smp⟩

theorem offer_calls (o : OffD) (t : TermD) (b : Nat) (w : World) (hT : TermBox w b t) (hO : OffOk w o) (h1 : SmallT t) :
    Calls Tryz.prog 58 #[.agg #[.string o.name, .int .i64 o.ep, .string o.up, .string o.rv, o.pv], .pointer (some ⟨b, 0, none⟩)] w fun e w' => e = .returned (.bool (offB t o)) ∧ Below w.heap.size w w' := by
  obtain ⟨hlt, c0, c1, c2, c3, c4⟩ := hT
  have H1 := Lib.hid h1
  have HO := Lib.hid hO
  clear h1 hO
  unfold offB
  go_enter Tryz.func58, Tryz.ntmps58
  go_wp2_with fail
  have hB0 : Below w.heap.size w (w.alloc (.cells #[.string o.name, .int .i64 o.ep, .string o.up, .string o.rv, o.pv] 73)) := by go_grown
  refine (meets_calls _ _ _ _ _ o.provides t _ (HO.out.terms.below hB0 (Nat.le_refl _)) H1.out HO.out.sm HO.out.smp).mono ?_
  rintro e w1 ⟨rfl, hb⟩
  have hB := hB0.trans (hb.mono hB0.size)
  clear hb hB0 c0 c1 c2 c3 c4
  go_wp2_with fail
  go_ret
  exact ⟨rfl, hB⟩

theorem enters_offer : ∀ args w, (callFunc 58 args).run Tryz.prog w = .ok (.enter 58 args) w := enters_of Tryz.func58 (by kernel_rfl) rfl

theorem asked_calls (ov : Value) (os : List OffD) (t : TermD) (b : Nat) (w : World) (hb : b < w.heap.size) (hc : w.cell? ⟨b, 0, none⟩ = some ov) (hO : Offs w ov os) (hOk : ∀ o ∈ os, OffOk w o) (h1 : SmallT t) :
    Calls Tryz.prog 56 #[.agg #[.string t.name, .int .i64 t.op, .int .i64 t.ep, .string t.up, .string t.rv], .pointer (some ⟨b, 0, none⟩)] w fun e w' => e = .returned (.bool (os.any (offB t))) ∧ Below w.heap.size w w' := by
  have hB0 : Below w.heap.size w (w.alloc (.cells #[.string t.name, .int .i64 t.op, .int .i64 t.ep, .string t.up, .string t.rv] 98)) := by go_grown
  have CC : Hid (Calls Tryz.prog 57 #[ov, .func (.func 58) #[] #[.pointer (some ⟨w.heap.size, 0, none⟩)]] (w.alloc (.cells #[.string t.name, .int .i64 t.op, .int .i64 t.ep, .string t.up, .string t.rv] 98)) fun e w' => e = .returned (.bool (os.any (offB t))) ∧ Below (w.alloc (.cells #[.string t.name, .int .i64 t.op, .int .i64 t.ep, .string t.up, .string t.rv] 98)).heap.size (w.alloc (.cells #[.string t.name, .int .i64 t.op, .int .i64 t.ep, .string t.up, .string t.rv] 98)) w') := by
    refine containsOff_calls ov os _ _ (offB t) _ (hO.below hB0 (Nat.le_refl _)) enters_offer ?_
    intro o ho w2 hb2
    exact offer_calls o t _ w2 ((TermBox.new w t _).below hb2 (by simp)) (((hOk o ho).below hB0 (Nat.le_refl _)).below hb2 (Nat.le_refl _)) h1
  have HB0 := Lib.hid hB0
  clear hO hOk h1 hB0
  go_enter Tryz.func56, Tryz.ntmps56
  go_wp2_with fail
  refine CC.out.mono ?_
  rintro e w1 ⟨rfl, hb1⟩
  have hB := HB0.out.trans (hb1.mono HB0.out.size)
  clear hb1 hc CC
  go_wp2_with fail
  go_ret
  exact ⟨rfl, hB⟩

theorem enters_asked : ∀ args w, (callFunc 56 args).run Tryz.prog w = .ok (.enter 56 args) w := enters_of Tryz.func56 (by kernel_rfl) rfl

/-- depend.Met. -/
theorem met_calls (lv ov : Value) (ls : List (List TermD)) (os : List OffD) (w : World) (hL : Lists w lv ls) (hO : Offs w ov os) (hOk : ∀ o ∈ os, OffOk w o) (hS : ∀ l ∈ ls, ∀ t ∈ l, SmallT t) :
    Calls Tryz.prog 28 #[lv, ov] w fun e w' => e = .returned (.tuple #[.int .i64 (metR (oneO os) ls).1, .bool (metR (oneO os) ls).2]) ∧ Below w.heap.size w w' := by
  obtain ⟨ao, co, hov, -⟩ := id hO.1
  subst hov
  obtain ⟨w0, hw0⟩ : ∃ w0 : World, w0 = w.alloc (.cells #[.slice ao os.length co] 70) := ⟨_, rfl⟩
  have hB0 : Below w.heap.size w w0 := by rw [hw0]; go_grown
  have hz : w0.heap.size = w.heap.size + 1 := by rw [hw0]; simp
  have c0 : w0.cell? ⟨w.heap.size, 0, none⟩ = some (.slice ao os.length co) := by rw [hw0]; simp [go_sem]
  have hL0 := hL.below hB0 (Nat.le_refl _)
  obtain ⟨V, ⟨a, cap, rfl, hcap, hmax, hcell⟩, hT⟩ := hL0
  unfold maxLen at hmax
  have HC : Hid (∀ i, i < ls.length → ∀ wr, Below w0.heap.size w0 wr → Calls Tryz.prog 46 #[V i, .func (.func 56) #[] #[.pointer (some ⟨w.heap.size, 0, none⟩)]] wr fun e w' => e = .returned (.bool (oneO os (ls.getD i []))) ∧ Below wr.heap.size wr w') := by
    intro i hi wr hb
    refine containsTerm_calls (V i) (ls.getD i []) _ _ (fun t => os.any (offB t)) wr ((hT i hi).below hb (Nat.le_refl _)) enters_asked ?_
    intro t ht w2 hb2
    have hb3 := hb.trans (hb2.mono hb.size)
    refine asked_calls _ os t _ w2 ?_ ((hb3.cell (p := ⟨w.heap.size, 0, none⟩) (by rw [hz]; exact Nat.lt_succ_self _)).trans c0) ((hO.below hB0 (Nat.le_refl _)).below hb3 (Nat.le_refl _)) (fun o ho => ((hOk o ho).below hB0 (Nat.le_refl _)).below hb3 (Nat.le_refl _)) (hS _ (mem_getD _ hi) t ht)
    have := hb3.size
    omega
  have HB0 := Lib.hid hB0
  have Hw := Lib.hid hw0
  have Hcell := Lib.hid hcell
  obtain ⟨n, hn⟩ : ∃ n, ls.length = n := ⟨_, rfl⟩
  rw [hn] at hcap Hcell HC
  have Hn := Lib.hid hn
  clear hL hO hOk hS hT hB0 hz c0 hcell hw0
  rw [hn]
  clear hn
  go_enter Tryz.func28, Tryz.ntmps28
  go_wp2_with fail
  rw [← Hw.out]
  go_wp2_with fail
  go_loopg [11] n (fun k v11 wr => ∃ i : Nat, v11 = .int .i64 i ∧ i ≤ n ∧ k = n - i ∧ (ls.take i).all (oneO os) = true ∧ Below w0.heap.size w0 wr)
  case atStart => exact ⟨0, rfl, Nat.zero_le _, rfl, rfl, Below.refl _ _⟩
  case round =>
    obtain ⟨i, rfl, hi, hk, hall, hB⟩ := hrel
    have Hk := Lib.hid hk
    have Hall := Lib.hid hall
    have hfin := HB0.out.trans (hB.mono HB0.out.size)
    clear hk hall
    by_cases hlt : i < n
    · obtain ⟨b, o, rfl, hb, hc⟩ := Hcell.out.resolve_left (by omega)
      have c1 : wr.cell? ⟨b, o + i, none⟩ = some (V i) := (hB.cell (p := ⟨b, o + i, none⟩) hb).trans (by have := hc i 0 hlt (by decide); simpa using this)
      clear hc hb
      go_wp2_with fail
      refine (HC.out i hlt _ hB).mono ?_
      rintro e w1 ⟨rfl, hb1⟩
      have hB1 := hB.trans (hb1.mono hB.size)
      have hfin1 := HB0.out.trans (hB1.mono HB0.out.size)
      clear hb1 hB c1
      cases hone : oneO os (ls.getD i [])
      · have HR := Lib.hid (metR_no (by rw [Hn.out]; exact hlt) Hall.out hone)
        clear hone
        go_wp2_with fail
        go_ret2
        exact ⟨ret_met HR.out, hfin1⟩
      · have HS : Hid ((ls.take (i + 1)).all (oneO os) = true) := all_step [] (by rw [Hn.out]; exact hlt) Hall.out hone
        clear hone
        go_wp2_with fail
        go_roundg (n - (i + 1))
        case rel => exact ⟨i + 1, by go_num, by omega, rfl, HS.out, hB1⟩
        case measure => have := Hk.out; omega
    · have HR := Lib.hid (metR_all (all_end (by rw [Hn.out]; omega) Hall.out))
      go_wp2_with fail
      go_ret2
      exact ⟨ret_met HR.out, hfin⟩
end Go.Proofs.YtnfnebfioibndaaGreatDoor
