/- Stanzas: rows of fields; Get; slices.ContainsFunc at Field; the closures. (Written by gen_stanc.py.) -/
import Derived.Test.YtpiobckemlkomaaDoorStanB
import Derived.Deep.RegionHeld3
namespace Go.Proofs.YtpiobckemlkomaaDoor
open Go.RowKit
set_option maxRecDepth 100000
set_option maxHeartbeats 4000000

theorem ret_bool {a b : Bool} (h : a = b) : Ending.returned (.bool a) = Ending.returned (.bool b) := by rw [h]
theorem mem_getD {α : Type} {l : List α} {i : Nat} (d : α) (hi : i < l.length) : l.getD i d ∈ l := by
  simp only [List.getD, List.getElem?_eq_getElem hi, Option.getD_some]
  exact List.getElem_mem hi
theorem any_step {α : Type} {p : α → Bool} {l : List α} {i : Nat} (d : α) (hi : i < l.length) (h : (l.take i).any p = false) (hp : p (l.getD i d) = false) : (l.take (i + 1)).any p = false := by
  rw [List.take_add_one, List.any_append, h, List.getElem?_eq_getElem hi]
  have : l.getD i d = l[i] := by simp [List.getD, List.getElem?_eq_getElem hi]
  rw [this] at hp
  simp [hp]

/-! ### rows of fields -/
def fRow (f : FieldD) : Nat → Value
  | 0 => .string f.1
  | _ => .string f.2
def SzF (f : FieldD) : Prop := f.1.size ≤ 100000 ∧ f.2.size ≤ 100000
def Flds (w : World) (v : Value) (l : List FieldD) : Prop := Sl w v l.length 2 (fun i j => fRow (l.getD i default) j) ∧ ∀ f ∈ l, SzF f
theorem Flds.below {w w' : World} {v : Value} {l : List FieldD} (h : Flds w v l) {B : Nat} (hb : Below B w w') (hB : w.heap.size ≤ B) : Flds w' v l := ⟨h.1.below hb hB, h.2⟩
theorem SzF_default : SzF default := ⟨by decide, by decide⟩
theorem SzF.at_ {l : List FieldD} (h : ∀ f ∈ l, SzF f) (i : Nat) : SzF (l.getD i default) := by
  rcases Nat.lt_or_ge i l.length with h' | h'
  · exact h _ (mem_getD _ h')
  · rw [List.getD_eq_getElem?_getD, List.getElem?_eq_none h']
    exact SzF_default
theorem size_big {s : ByteArray} (h : s.size ≤ 100000) : s.size ≤ 1000000 := by omega
/-- The reading of s against what was said of its Small. -/
theorem small_eq {x n : ByteArray} {b : Bool} (h : decide (smallB x = smallB n) = b) : ((smallB x).toList == (smallB n).toList) = b ∧ decide ((smallB x).toList = (smallB n).toList) = b := by
  refine ⟨?_, ?_⟩
  · rw [← h, Bool.eq_iff_iff, beq_iff_eq, decide_eq_true_iff, toL_iff]
  · rw [← h]
    exact decide_eq_decide.2 toL_iff
theorem getF_none {l : List FieldD} {n : ByteArray} (h : l.any (sameN n) = false) : getF l n = (⟨#[]⟩, false) := by
  unfold getF
  have : l.find? (sameN n) = none := by
    rw [List.find?_eq_none]
    intro x hx
    rw [List.any_eq_false] at h
    exact h x hx
  rw [this]
theorem getF_some {l : List FieldD} {n : ByteArray} {i : Nat} (hi : i < l.length) (h : (l.take i).any (sameN n) = false) (hp : sameN n (l.getD i default) = true) : getF l n = ((l.getD i default).2, true) := by
  unfold getF
  have e : l.getD i default = l[i] := by simp [List.getD, List.getElem?_eq_getElem hi]
  rw [e] at hp ⊢
  have h1 : l.find? (sameN n) = some l[i] := by
    have h0 : l.find? (sameN n) = (l.take i ++ l.drop i).find? (sameN n) := by rw [List.take_append_drop]
    rw [h0, List.find?_append]
    have h2 : (l.take i).find? (sameN n) = none := by
      rw [List.find?_eq_none]
      intro x hx
      rw [List.any_eq_false] at h
      exact h x hx
    rw [h2, List.drop_eq_getElem_cons hi, List.find?_cons, hp, Option.none_or]
  rw [h1]

theorem get_calls (v : Value) (l : List FieldD) (n : ByteArray) (w : World) (hT : Flds w v l) (hn : n.size ≤ 100000) :
    Calls Tryd.prog 14 #[v, .string n] w fun e w' => e = .returned (.tuple #[.string (getF l n).1, .bool (getF l n).2]) ∧ Below w.heap.size w w' := by
  obtain ⟨⟨a, cap, rfl, hcap, hmax, hcell⟩, hsz⟩ := hT
  unfold maxLen at hmax
  obtain ⟨m, hm⟩ : ∃ m, l.length = m := ⟨_, rfl⟩
  have Hcell := Lib.hid hcell
  have Hsz := Lib.hid hsz
  have Hnn := Lib.hid hn
  clear hcell hsz hn
  rw [hm] at hcap Hcell ⊢
  have Hm := Lib.hid hm
  clear hm
  obtain ⟨gv, hgv⟩ : ∃ gv, getF l n = gv := ⟨_, rfl⟩
  rw [hgv]
  have HG := Lib.hid hgv
  clear hgv
  obtain ⟨z, hz⟩ : ∃ z, w.heap.size = z := ⟨_, rfl⟩
  have Hz := Lib.hid hz
  rw [hz]
  clear hz
  go_enter Tryd.func14, Tryd.ntmps14
  go_wp2_with fail
  go_loopg [10] m (fun k v10 wr => ∃ i : Nat, v10 = .int .i64 i ∧ i ≤ m ∧ k = m - i ∧ (l.take i).any (sameN n) = false ∧ Below z w wr)
  case atStart => exact ⟨0, rfl, Nat.zero_le _, rfl, rfl, Below.refl _ _⟩
  case round =>
    obtain ⟨i, rfl, hi, hk, hall, hB⟩ := hrel
    have Hk := Lib.hid hk
    have Hall := Lib.hid hall
    have HB := Lib.hid hB
    clear hk hall hB
    by_cases hlt : i < m
    · obtain ⟨b, o, rfl, hb, hc⟩ := Hcell.out.resolve_left (by omega)
      rw [Hz.out] at hb
      obtain ⟨t, ht⟩ : ∃ t, l.getD i default = t := ⟨_, rfl⟩
      have hs := SzF.at_ Hsz.out i
      have c0 : wr.cell? ⟨b, o + i * 2, none⟩ = some (.string t.1) := (HB.out.cell (p := ⟨b, o + i * 2, none⟩) hb).trans (by have := hc i 0 hlt (by decide); rw [ht] at this; exact this)
      have c1 : wr.cell? ⟨b, o + i * 2 + 1, none⟩ = some (.string t.2) := (HB.out.cell (p := ⟨b, o + i * 2 + 1, none⟩) hb).trans (by have := hc i 1 hlt (by decide); rw [ht] at this; exact this)
      rw [ht] at hs
      have HT := Lib.hid ht
      obtain ⟨x, y⟩ := t
      dsimp only at c0 c1
      have Hs := Lib.hid hs
      have hzr : z ≤ wr.heap.size := by have := HB.out.size; rw [Hz.out] at this; exact this
      have HB0 : Hid (Below z w (wr.alloc (.cells #[.string x, .string y] 48))) := HB.out.alloc hzr _
      have HA0 : Hid ((wr.alloc (.cells #[.string x, .string y] 48)).heap[wr.heap.size]? = some (.cells #[.string x, .string y] 48)) := heap_alloc_new wr _
      obtain ⟨r, hr⟩ : ∃ r, wr.heap.size = r := ⟨_, rfl⟩
      have Hr := Lib.hid hr
      clear hc ht hb hs
      go_wp2_with fail
      obtain ⟨w0, hw0⟩ : ∃ w0 : World, wr.alloc (.cells #[.string x, .string y] 48) = w0 := ⟨_, rfl⟩
      rw [hw0] at HB0 HA0 ⊢
      have hw0z : w0.heap.size = r + 1 := by rw [← hw0, ← hr]; simp
      rw [hr] at HA0
      rw [hr] at hzr
      clear hw0 hr
      refine (small_calls x w0 (size_big Hs.out.1)).mono ?_
      rintro e1 w1 ⟨rfl, hb1⟩
      have k1 := hb1.size
      have HB1 : Hid (Below z w w1) := HB0.out.trans (hb1.mono (by omega))
      have HA1 : Hid (w1.heap[r]? = some (.cells #[.string x, .string y] 48)) := (hb1.block r (by omega)).trans HA0.out
      clear hb1
      go_wp2_with fail
      refine (small_calls n w1 (size_big Hnn.out)).mono ?_
      rintro e2 w2 ⟨rfl, hb2⟩
      have k2 := hb2.size
      have HB2 : Hid (Below z w w2) := HB1.out.trans (hb2.mono (by omega))
      have d1 : w2.cell? ⟨r, 1, none⟩ = some (.string y) := by
        have h := (hb2.block r (by omega)).trans HA1.out
        simp [World.cell?, h]
      clear hb2
      cases hp : decide (smallB x = smallB n)
      · obtain ⟨t1, t2⟩ := small_eq hp
        have HS : Hid ((l.take (i + 1)).any (sameN n) = false) := by
          show _ = _
          exact any_step default (by rw [Hm.out]; exact hlt) Hall.out (by rw [show l.getD i default = (x, y) from HT.out]; exact hp)
        clear hp d1
        go_wp2_with fail
        go_roundg (m - (i + 1))
        case rel => exact ⟨i + 1, by go_num, by omega, rfl, HS.out, HB2.out⟩
        case measure => have := Hk.out; omega
      · obtain ⟨t1, t2⟩ := small_eq hp
        have HF : Hid (gv = (y, true)) := by
          show _ = _
          rw [← HG.out, getF_some (by rw [Hm.out]; exact hlt) Hall.out (by rw [show l.getD i default = (x, y) from HT.out]; exact hp), show l.getD i default = (x, y) from HT.out]
        clear hp
        go_wp2_with fail
        go_ret2
        rw [HF.out]
        exact ⟨rfl, HB2.out⟩
    · have HF : Hid (gv = (⟨#[]⟩, false)) := by
        have := Hall.out
        rw [List.take_of_length_le (by rw [Hm.out]; omega)] at this
        exact HG.out.symm.trans (getF_none this)
      go_wp2_with fail
      go_ret2
      rw [HF.out]
      exact ⟨rfl, HB.out⟩

theorem rget_calls (v : Value) (l : List FieldD) (n : ByteArray) (w : World) (hT : Flds w v l) (hn : n.size ≤ 100000) :
    Calls Tryd.prog 13 #[v, .string n] w fun e w' => e = .returned (.tuple #[.string (getF l n).1, .bool (getF l n).2]) ∧ Below w.heap.size w w' := by
  obtain ⟨⟨a, cap, rfl, hcap, hmax, hcell⟩, hsz⟩ := hT
  unfold maxLen at hmax
  obtain ⟨m, hm⟩ : ∃ m, l.length = m := ⟨_, rfl⟩
  have Hcell := Lib.hid hcell
  have Hsz := Lib.hid hsz
  have Hnn := Lib.hid hn
  clear hcell hsz hn
  rw [hm] at hcap Hcell ⊢
  have Hm := Lib.hid hm
  clear hm
  obtain ⟨gv, hgv⟩ : ∃ gv, getF l n = gv := ⟨_, rfl⟩
  rw [hgv]
  have HG := Lib.hid hgv
  clear hgv
  obtain ⟨z, hz⟩ : ∃ z, w.heap.size = z := ⟨_, rfl⟩
  have Hz := Lib.hid hz
  rw [hz]
  clear hz
  go_enter Tryd.func13, Tryd.ntmps13
  go_wp2_with fail
  go_loopg [10] m (fun k v10 wr => ∃ i : Nat, v10 = .int .i64 i ∧ i ≤ m ∧ k = m - i ∧ (l.take i).any (sameN n) = false ∧ Below z w wr)
  case atStart => exact ⟨0, rfl, Nat.zero_le _, rfl, rfl, Below.refl _ _⟩
  case round =>
    obtain ⟨i, rfl, hi, hk, hall, hB⟩ := hrel
    have Hk := Lib.hid hk
    have Hall := Lib.hid hall
    have HB := Lib.hid hB
    clear hk hall hB
    by_cases hlt : i < m
    · obtain ⟨b, o, rfl, hb, hc⟩ := Hcell.out.resolve_left (by omega)
      rw [Hz.out] at hb
      obtain ⟨t, ht⟩ : ∃ t, l.getD i default = t := ⟨_, rfl⟩
      have hs := SzF.at_ Hsz.out i
      have c0 : wr.cell? ⟨b, o + i * 2, none⟩ = some (.string t.1) := (HB.out.cell (p := ⟨b, o + i * 2, none⟩) hb).trans (by have := hc i 0 hlt (by decide); rw [ht] at this; exact this)
      have c1 : wr.cell? ⟨b, o + i * 2 + 1, none⟩ = some (.string t.2) := (HB.out.cell (p := ⟨b, o + i * 2 + 1, none⟩) hb).trans (by have := hc i 1 hlt (by decide); rw [ht] at this; exact this)
      rw [ht] at hs
      have HT := Lib.hid ht
      obtain ⟨x, y⟩ := t
      dsimp only at c0 c1
      have Hs := Lib.hid hs
      have hzr : z ≤ wr.heap.size := by have := HB.out.size; rw [Hz.out] at this; exact this
      have HB0 : Hid (Below z w (wr.alloc (.cells #[.string x, .string y] 48))) := HB.out.alloc hzr _
      have HA0 : Hid ((wr.alloc (.cells #[.string x, .string y] 48)).heap[wr.heap.size]? = some (.cells #[.string x, .string y] 48)) := heap_alloc_new wr _
      obtain ⟨r, hr⟩ : ∃ r, wr.heap.size = r := ⟨_, rfl⟩
      have Hr := Lib.hid hr
      clear hc ht hb hs
      go_wp2_with fail
      obtain ⟨w0, hw0⟩ : ∃ w0 : World, wr.alloc (.cells #[.string x, .string y] 48) = w0 := ⟨_, rfl⟩
      rw [hw0] at HB0 HA0 ⊢
      have hw0z : w0.heap.size = r + 1 := by rw [← hw0, ← hr]; simp
      rw [hr] at HA0
      rw [hr] at hzr
      clear hw0 hr
      refine (rsmall_calls x w0 (size_big Hs.out.1)).mono ?_
      rintro e1 w1 ⟨rfl, hb1⟩
      have k1 := hb1.size
      have HB1 : Hid (Below z w w1) := HB0.out.trans (hb1.mono (by omega))
      have HA1 : Hid (w1.heap[r]? = some (.cells #[.string x, .string y] 48)) := (hb1.block r (by omega)).trans HA0.out
      clear hb1
      go_wp2_with fail
      refine (rsmall_calls n w1 (size_big Hnn.out)).mono ?_
      rintro e2 w2 ⟨rfl, hb2⟩
      have k2 := hb2.size
      have HB2 : Hid (Below z w w2) := HB1.out.trans (hb2.mono (by omega))
      have d1 : w2.cell? ⟨r, 1, none⟩ = some (.string y) := by
        have h := (hb2.block r (by omega)).trans HA1.out
        simp [World.cell?, h]
      clear hb2
      cases hp : decide (smallB x = smallB n)
      · obtain ⟨t1, t2⟩ := small_eq hp
        have HS : Hid ((l.take (i + 1)).any (sameN n) = false) := by
          show _ = _
          exact any_step default (by rw [Hm.out]; exact hlt) Hall.out (by rw [show l.getD i default = (x, y) from HT.out]; exact hp)
        clear hp d1
        go_wp2_with fail
        go_roundg (m - (i + 1))
        case rel => exact ⟨i + 1, by go_num, by omega, rfl, HS.out, HB2.out⟩
        case measure => have := Hk.out; omega
      · obtain ⟨t1, t2⟩ := small_eq hp
        have HF : Hid (gv = (y, true)) := by
          show _ = _
          rw [← HG.out, getF_some (by rw [Hm.out]; exact hlt) Hall.out (by rw [show l.getD i default = (x, y) from HT.out]; exact hp), show l.getD i default = (x, y) from HT.out]
        clear hp
        go_wp2_with fail
        go_ret2
        rw [HF.out]
        exact ⟨rfl, HB2.out⟩
    · have HF : Hid (gv = (⟨#[]⟩, false)) := by
        have := Hall.out
        rw [List.take_of_length_le (by rw [Hm.out]; omega)] at this
        exact HG.out.symm.trans (getF_none this)
      go_wp2_with fail
      go_ret2
      rw [HF.out]
      exact ⟨rfl, HB.out⟩

def FoundFld (ts : List FieldD) (p : FieldD → Bool) (w : World) (e : Ending) (w' : World) : Prop := ∃ k : Int, e = .returned (.int .i64 k) ∧ decide (0 ≤ k) = ts.any p ∧ Below w.heap.size w w'

/-- slices.IndexFunc at Fld: is there one, and where. -/
theorem indexFld_calls (v : Value) (ts : List FieldD) (g : FuncId) (caps : Array Value) (p : FieldD → Bool) (w : World) (hT : Flds w v ts)
    (eg : ∀ args w, (callFunc g args).run Tryd.prog w = .ok (.enter g args) w)
    (hf : ∀ t ∈ ts, ∀ w', Below w.heap.size w w' → Calls Tryd.prog g (#[.agg #[.string t.1, .string t.2]] ++ caps) w' fun e w'' => e = .returned (.bool (p t)) ∧ Below w'.heap.size w' w'') :
    Calls Tryd.prog 60 #[v, .func (.func g) #[] caps] w fun e w' => ∃ k : Int, e = .returned (.int .i64 k) ∧ decide (0 ≤ k) = ts.any p ∧ Below w.heap.size w w' := by
  obtain ⟨⟨a, cap, rfl, hcap, hmax, hcell⟩, -⟩ := hT
  unfold maxLen at hmax
  obtain ⟨n, hn⟩ : ∃ n, ts.length = n := ⟨_, rfl⟩
  have Hcell := Lib.hid hcell
  have Hf := Lib.hid hf
  clear hcell hf
  rw [hn] at hcap Hcell ⊢
  have Hn := Lib.hid hn
  clear hn
  refine Calls.mono (?_ : Calls _ _ _ _ (FoundFld ts p w)) (fun e w' h => h)
  go_enter Tryd.func60, Tryd.ntmps60
  go_wp2_with fail
  go_loopg [8] n (fun k v8 wr => ∃ i : Nat, v8 = .int .i64 i ∧ i ≤ n ∧ k = n - i ∧ (ts.take i).any p = false ∧ Below w.heap.size w wr)
  case atStart => exact ⟨0, rfl, Nat.zero_le _, rfl, rfl, Below.refl _ _⟩
  case round =>
    obtain ⟨i, rfl, hi, hk, hall, hB⟩ := hrel
    have Hk := Lib.hid hk
    have Hall := Lib.hid hall
    clear hk hall
    by_cases hlt : i < n
    · obtain ⟨b, o, rfl, hb, hc⟩ := Hcell.out.resolve_left (by omega)
      obtain ⟨t, ht⟩ : ∃ t, ts.getD i default = t := ⟨_, rfl⟩
      have HM : Hid (t ∈ ts) := by
        show t ∈ ts
        rw [← ht]
        exact mem_getD _ (by rw [Hn.out]; exact hlt)
      have c0 : wr.cell? ⟨b, o + i * 2, none⟩ = some (.string t.1) := (hB.cell (p := ⟨b, o + i * 2, none⟩) hb).trans (by have := hc i 0 hlt (by decide); rw [ht] at this; exact this)
      have c1 : wr.cell? ⟨b, o + i * 2 + 1, none⟩ = some (.string t.2) := (hB.cell (p := ⟨b, o + i * 2 + 1, none⟩) hb).trans (by have := hc i 1 hlt (by decide); rw [ht] at this; exact this)
      have HT := Lib.hid ht
      clear hc ht hb
      go_wp2_with fail
      refine (Hf.out t HM.out _ hB).mono ?_
      rintro e w1 ⟨rfl, hb1⟩
      have hB1 := hB.trans (hb1.mono hB.size)
      clear hB hb1
      cases hp : p t
      · have HS : Hid ((ts.take (i + 1)).any p = false) := by
          show _ = _
          exact any_step default (by rw [Hn.out]; exact hlt) Hall.out (by rw [show ts.getD i default = t from HT.out]; exact hp)
        clear hp
        go_wp2_with fail
        go_roundg (n - (i + 1))
        case rel => exact ⟨i + 1, by go_num, by omega, rfl, HS.out, hB1⟩
        case measure => have := Hk.out; omega
      · have HF : Hid (ts.any p = true) := by
          show _ = _
          rw [List.any_eq_true]
          exact ⟨t, HM.out, hp⟩
        clear hp
        go_wp2_with fail
        go_ret
        exact ⟨_, rfl, by rw [HF.out]; exact decide_eq_true (by omega), hB1⟩
    · have HF : Hid (ts.any p = false) := by
        have := Hall.out
        rwa [List.take_of_length_le (by rw [Hn.out]; omega)] at this
      go_wp2_with fail
      go_ret
      exact ⟨-1, rfl, by rw [HF.out]; rfl, hB⟩

/-- slices.ContainsFunc at Fld. -/
theorem containsFld_calls (v : Value) (ts : List FieldD) (g : FuncId) (caps : Array Value) (p : FieldD → Bool) (w : World) (hT : Flds w v ts)
    (eg : ∀ args w, (callFunc g args).run Tryd.prog w = .ok (.enter g args) w)
    (hf : ∀ t ∈ ts, ∀ w', Below w.heap.size w w' → Calls Tryd.prog g (#[.agg #[.string t.1, .string t.2]] ++ caps) w' fun e w'' => e = .returned (.bool (p t)) ∧ Below w'.heap.size w' w'') :
    Calls Tryd.prog 35 #[v, .func (.func g) #[] caps] w fun e w' => e = .returned (.bool (ts.any p)) ∧ Below w.heap.size w w' := by
  have HI := Lib.hid (indexFld_calls v ts g caps p w hT eg hf)
  clear hf eg hT
  go_enter Tryd.func35, Tryd.ntmps35
  go_wp2_with fail
  refine HI.out.mono ?_
  rintro e w1 ⟨k, rfl, hk, hb⟩
  have HK := Lib.hid hk
  clear hk HI
  go_wp2_with fail
  go_ret
  exact ⟨ret_bool HK.out, hb⟩

/-- What a world keeps of a boxed field and of a captured text. -/
abbrev ClosS (w : World) (z b : Nat) (x y : ByteArray) (w' : World) : Prop := Below z w w' ∧ z + 1 ≤ w'.heap.size ∧ w'.cell? ⟨z, 0, none⟩ = some (.string x) ∧ w'.cell? ⟨b, 0, none⟩ = some (.string y)
theorem ClosS.step {w : World} {z b : Nat} {x y : ByteArray} {w1 w' : World} (h : ClosS w z b x y w1) (hb : Below w1.heap.size w1 w') (hlt : b < z) : ClosS w z b x y w' := by
  obtain ⟨h0, hz, c0, c1⟩ := h
  have hs := hb.size
  refine ⟨h0.trans (hb.mono (by omega)), by omega, ?_, ?_⟩
  · exact (hb.cell (p := ⟨z, 0, none⟩) (by simp; omega)).trans c0
  · exact (hb.cell (p := ⟨b, 0, none⟩) (by simp; omega)).trans c1

theorem parse1_enters : ∀ (args : Array Value) (w : World), (callFunc 36 args).run Tryd.prog w = .ok (.enter 36 args) w := fun args w => by kernel_rfl
theorem parse1_calls (g : FieldD) (b : Nat) (y : ByteArray) (w : World) (hg : SzF g) (hy : y.size ≤ 100000) (hb : b < w.heap.size) (hc : w.cell? ⟨b, 0, none⟩ = some (.string y)) :
    Calls Tryd.prog 36 #[.agg #[.string g.1, .string g.2], .pointer (some ⟨b, 0, none⟩)] w fun e w' => e = .returned (.bool (sameN y g)) ∧ Below w.heap.size w w' := by
  obtain ⟨x, u⟩ := g
  obtain ⟨hx, -⟩ := hg
  dsimp only at hx ⊢
  obtain ⟨B, hB⟩ : ∃ B, sameN y (x, u) = B := ⟨_, rfl⟩
  rw [hB]
  obtain ⟨t1, t2⟩ := small_eq (x := x) (n := y) (b := B) hB
  obtain ⟨z, hz⟩ : ∃ z, w.heap.size = z := ⟨_, rfl⟩
  have hS0 : ClosS w z b x y (w.alloc (.cells #[.string x, .string u] 48)) := by
    refine ⟨by rw [← hz]; exact (Below.refl _ _).alloc (Nat.le_refl _) _, by simp [hz], ?_, ?_⟩
    · rw [← hz]; simp [go_sem]
    · rw [World.cell?_alloc_lt _ _ _ hb]; exact hc
  have hS1 : ClosS w z b x y (w.alloc (.cells #[.string x, .string u] 48)).drew := ⟨hS0.1.drew, hS0.2.1, hS0.2.2.1, hS0.2.2.2⟩
  rw [hz] at hb ⊢
  clear hB hc
  go_enter Tryd.func36, Tryd.ntmps36
  go_wp2_with fail
  go_region_held3 (fun w' => Below z w w' ∧ z + 1 ≤ w'.heap.size ∧ w'.cell? ⟨z, 0, none⟩ = some (.string x) ∧ w'.cell? ⟨b, 0, none⟩ = some (.string y)) (first | exact hS0 | exact hS1 | assumption | (refine ClosS.step ?_ hbz hb; assumption))
    (first
      | (go_at_call_of 18 (Value.string x); refine (small_calls x _ (size_big hx)).mono ?_; rintro e w' ⟨rfl, hbz⟩)
      | (go_at_call_of 18 (Value.string y); refine (small_calls y _ (size_big hy)).mono ?_; rintro e w' ⟨rfl, hbz⟩))
  all_goals go_wp2
  all_goals go_ret
  all_goals first | exact ⟨rfl, And.left (by assumption : ClosS w z b x y _)⟩ | exact ⟨by simp, And.left (by assumption : ClosS w z b x y _)⟩

theorem right1_enters : ∀ (args : Array Value) (w : World), (callFunc 41 args).run Tryd.prog w = .ok (.enter 41 args) w := fun args w => by kernel_rfl
theorem right1_calls (g : FieldD) (b : Nat) (y : ByteArray) (w : World) (hg : SzF g) (hy : y.size ≤ 100000) (hb : b < w.heap.size) (hc : w.cell? ⟨b, 0, none⟩ = some (.string y)) :
    Calls Tryd.prog 41 #[.agg #[.string g.1, .string g.2], .pointer (some ⟨b, 0, none⟩)] w fun e w' => e = .returned (.bool (sameN y g)) ∧ Below w.heap.size w w' := by
  obtain ⟨x, u⟩ := g
  obtain ⟨hx, -⟩ := hg
  dsimp only at hx ⊢
  obtain ⟨B, hB⟩ : ∃ B, sameN y (x, u) = B := ⟨_, rfl⟩
  rw [hB]
  obtain ⟨t1, t2⟩ := small_eq (x := x) (n := y) (b := B) hB
  obtain ⟨z, hz⟩ : ∃ z, w.heap.size = z := ⟨_, rfl⟩
  have hS0 : ClosS w z b x y (w.alloc (.cells #[.string x, .string u] 48)) := by
    refine ⟨by rw [← hz]; exact (Below.refl _ _).alloc (Nat.le_refl _) _, by simp [hz], ?_, ?_⟩
    · rw [← hz]; simp [go_sem]
    · rw [World.cell?_alloc_lt _ _ _ hb]; exact hc
  have hS1 : ClosS w z b x y (w.alloc (.cells #[.string x, .string u] 48)).drew := ⟨hS0.1.drew, hS0.2.1, hS0.2.2.1, hS0.2.2.2⟩
  rw [hz] at hb ⊢
  clear hB hc
  go_enter Tryd.func41, Tryd.ntmps41
  go_wp2_with fail
  go_region_held3 (fun w' => Below z w w' ∧ z + 1 ≤ w'.heap.size ∧ w'.cell? ⟨z, 0, none⟩ = some (.string x) ∧ w'.cell? ⟨b, 0, none⟩ = some (.string y)) (first | exact hS0 | exact hS1 | assumption | (refine ClosS.step ?_ hbz hb; assumption))
    (first
      | (go_at_call_of 18 (Value.string x); refine (small_calls x _ (size_big hx)).mono ?_; rintro e w' ⟨rfl, hbz⟩)
      | (go_at_call_of 18 (Value.string y); refine (small_calls y _ (size_big hy)).mono ?_; rintro e w' ⟨rfl, hbz⟩))
  all_goals go_wp2
  all_goals go_ret
  all_goals first | exact ⟨rfl, And.left (by assumption : ClosS w z b x y _)⟩ | exact ⟨by simp, And.left (by assumption : ClosS w z b x y _)⟩
end Go.Proofs.YtpiobckemlkomaaDoor
