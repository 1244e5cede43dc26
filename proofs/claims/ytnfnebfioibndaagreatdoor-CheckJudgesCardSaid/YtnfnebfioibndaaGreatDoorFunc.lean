/- slices.IndexFunc and ContainsFunc, at whatever predicate. (Written by genfunc.py.) -/
import Derived.Test.YtnfnebfioibndaaGreatDoorSays
namespace Go.Proofs.YtnfnebfioibndaaGreatDoor
open Go.RowKit
set_option maxRecDepth 100000
set_option maxHeartbeats 2000000

theorem any_step {α : Type} {p : α → Bool} {l : List α} {i : Nat} (d : α) (hi : i < l.length) (h : (l.take i).any p = false) (hp : p (l.getD i d) = false) : (l.take (i + 1)).any p = false := by
  rw [List.take_add_one, List.any_append, h, List.getElem?_eq_getElem hi]
  have : l.getD i d = l[i] := by simp [List.getD, List.getElem?_eq_getElem hi]
  rw [this] at hp
  simp [hp]

/-- What a package offers. -/
structure OffD where
  name : ByteArray
  ep : Int
  up : ByteArray
  rv : ByteArray
  pv : Value
  provides : List TermD
instance : Inhabited OffD := ⟨⟨⟨#[]⟩, 0, ⟨#[]⟩, ⟨#[]⟩, .nilFunc, []⟩⟩
def OffD.row (t : OffD) : Nat → Value
  | 0 => .string t.name
  | 1 => .int .i64 t.ep
  | 2 => .string t.up
  | 3 => .string t.rv
  | _ => t.pv
def Offs (w : World) (v : Value) (ts : List OffD) : Prop := Sl w v ts.length 5 (fun i j => (ts.getD i default).row j) ∧ True

def FoundTerm (ts : List TermD) (p : TermD → Bool) (w : World) (e : Ending) (w' : World) : Prop := ∃ k : Int, e = .returned (.int .i64 k) ∧ decide (0 ≤ k) = ts.any p ∧ Below w.heap.size w w'
def FoundOff (ts : List OffD) (p : OffD → Bool) (w : World) (e : Ending) (w' : World) : Prop := ∃ k : Int, e = .returned (.int .i64 k) ∧ decide (0 ≤ k) = ts.any p ∧ Below w.heap.size w w'

/-- slices.IndexFunc at Term: is there one, and where. -/
theorem indexTerm_calls (v : Value) (ts : List TermD) (g : FuncId) (caps : Array Value) (p : TermD → Bool) (w : World) (hT : Terms w v ts)
    (eg : ∀ args w, (callFunc g args).run Tryz.prog w = .ok (.enter g args) w)
    (hf : ∀ t ∈ ts, ∀ w', Below w.heap.size w w' → Calls Tryz.prog g (#[.agg #[.string t.name, .int .i64 t.op, .int .i64 t.ep, .string t.up, .string t.rv]] ++ caps) w' fun e w'' => e = .returned (.bool (p t)) ∧ Below w'.heap.size w' w'') :
    Calls Tryz.prog 67 #[v, .func (.func g) #[] caps] w fun e w' => ∃ k : Int, e = .returned (.int .i64 k) ∧ decide (0 ≤ k) = ts.any p ∧ Below w.heap.size w w' := by
  obtain ⟨⟨a, cap, rfl, hcap, hmax, hcell⟩, -⟩ := hT
  unfold maxLen at hmax
  obtain ⟨n, hn⟩ : ∃ n, ts.length = n := ⟨_, rfl⟩
  have Hcell := Lib.hid hcell
  have Hf := Lib.hid hf
  clear hcell hf
  rw [hn] at hcap Hcell ⊢
  have Hn := Lib.hid hn
  clear hn
  refine Calls.mono (?_ : Calls _ _ _ _ (FoundTerm ts p w)) (fun e w' h => h)
  go_enter Tryz.func67, Tryz.ntmps67
  go_wp2_with fail
  go_loopg [8] n (fun k v8 wr => ∃ i : Nat, v8 = .int .i64 i ∧ i ≤ n ∧ k = n - i ∧ (ts.take i).any p = false ∧ Below w.heap.size w wr)
  case atStart => exact ⟨0, rfl, Nat.zero_le _, rfl, rfl, Below.refl _ _⟩
  case round =>
    obtain ⟨i, rfl, hi, hk, hall, hB⟩ := hrel
    have Hk := Lib.hid hk
    have Hall := Lib.hid hall
    clear hk hall
    by_cases hlt : i < n
    · obtain ⟨b, o, rfl, hb, hc⟩ := Hcell.out.resolve_left (by omega)
      obtain ⟨t, ht⟩ : ∃ t, TermD.at ts i = t := ⟨_, rfl⟩
      have HM : Hid (t ∈ ts) := by
        show t ∈ ts
        rw [← ht]
        exact mem_at (by rw [Hn.out]; exact hlt)
      have c0 : wr.cell? ⟨b, o + i * 5, none⟩ = some (.string t.name) := (hB.cell (p := ⟨b, o + i * 5, none⟩) hb).trans (by have := hc i 0 hlt (by decide); rw [ht] at this; exact this)
      have c1 : wr.cell? ⟨b, o + i * 5 + 1, none⟩ = some (.int .i64 t.op) := (hB.cell (p := ⟨b, o + i * 5 + 1, none⟩) hb).trans (by have := hc i 1 hlt (by decide); rw [ht] at this; exact this)
      have c2 : wr.cell? ⟨b, o + i * 5 + 2, none⟩ = some (.int .i64 t.ep) := (hB.cell (p := ⟨b, o + i * 5 + 2, none⟩) hb).trans (by have := hc i 2 hlt (by decide); rw [ht] at this; exact this)
      have c3 : wr.cell? ⟨b, o + i * 5 + 3, none⟩ = some (.string t.up) := (hB.cell (p := ⟨b, o + i * 5 + 3, none⟩) hb).trans (by have := hc i 3 hlt (by decide); rw [ht] at this; exact this)
      have c4 : wr.cell? ⟨b, o + i * 5 + 4, none⟩ = some (.string t.rv) := (hB.cell (p := ⟨b, o + i * 5 + 4, none⟩) hb).trans (by have := hc i 4 hlt (by decide); rw [ht] at this; exact this)
      have HT := Lib.hid ht
      clear hc ht hb
      go_wp2_with fail
      refine (Hf.out t HM.out _ hB).mono ?_
      rintro e w1 ⟨rfl, hb1⟩
      have hB1 := hB.trans (hb1.mono hB.size)
      clear hB hb1
      cases hp : p t
      · have HS : Hid ((ts.take (i + 1)).any p = false) := by
          show _ = _
          exact any_step TermD.none (by rw [Hn.out]; exact hlt) Hall.out (by rw [show ts.getD i TermD.none = t from HT.out]; exact hp)
        clear hp
        go_wp2_with fail
        go_roundg (n - (i + 1))
        case rel => exact ⟨i + 1, by go_num, by omega, rfl, HS.out, hB1⟩
        case measure => have := Hk.out; omega
      · have HF : Hid (ts.any p = true) := by
          show _ = _
          rw [List.any_eq_true]
          exact ⟨t, HM.out, hp⟩
        clear hp
        go_wp2_with fail
        go_ret
        exact ⟨_, rfl, by rw [HF.out]; exact decide_eq_true (by omega), hB1⟩
    · have HF : Hid (ts.any p = false) := by
        have := Hall.out
        rwa [List.take_of_length_le (by rw [Hn.out]; omega)] at this
      go_wp2_with fail
      go_ret
      exact ⟨-1, rfl, by rw [HF.out]; rfl, hB⟩

/-- slices.ContainsFunc at Term. -/
theorem containsTerm_calls (v : Value) (ts : List TermD) (g : FuncId) (caps : Array Value) (p : TermD → Bool) (w : World) (hT : Terms w v ts)
    (eg : ∀ args w, (callFunc g args).run Tryz.prog w = .ok (.enter g args) w)
    (hf : ∀ t ∈ ts, ∀ w', Below w.heap.size w w' → Calls Tryz.prog g (#[.agg #[.string t.name, .int .i64 t.op, .int .i64 t.ep, .string t.up, .string t.rv]] ++ caps) w' fun e w'' => e = .returned (.bool (p t)) ∧ Below w'.heap.size w' w'') :
    Calls Tryz.prog 46 #[v, .func (.func g) #[] caps] w fun e w' => e = .returned (.bool (ts.any p)) ∧ Below w.heap.size w w' := by
  have HI := Lib.hid (indexTerm_calls v ts g caps p w hT eg hf)
  clear hf eg hT
  go_enter Tryz.func46, Tryz.ntmps46
  go_wp2_with fail
  refine HI.out.mono ?_
  rintro e w1 ⟨k, rfl, hk, hb⟩
  have HK := Lib.hid hk
  clear hk HI
  go_wp2_with fail
  go_ret
  exact ⟨ret_bool HK.out, hb⟩

/-- slices.IndexFunc at Off: is there one, and where. -/
theorem indexOff_calls (v : Value) (ts : List OffD) (g : FuncId) (caps : Array Value) (p : OffD → Bool) (w : World) (hT : Offs w v ts)
    (eg : ∀ args w, (callFunc g args).run Tryz.prog w = .ok (.enter g args) w)
    (hf : ∀ t ∈ ts, ∀ w', Below w.heap.size w w' → Calls Tryz.prog g (#[.agg #[.string t.name, .int .i64 t.ep, .string t.up, .string t.rv, t.pv]] ++ caps) w' fun e w'' => e = .returned (.bool (p t)) ∧ Below w'.heap.size w' w'') :
    Calls Tryz.prog 55 #[v, .func (.func g) #[] caps] w fun e w' => ∃ k : Int, e = .returned (.int .i64 k) ∧ decide (0 ≤ k) = ts.any p ∧ Below w.heap.size w w' := by
  obtain ⟨⟨a, cap, rfl, hcap, hmax, hcell⟩, -⟩ := hT
  unfold maxLen at hmax
  obtain ⟨n, hn⟩ : ∃ n, ts.length = n := ⟨_, rfl⟩
  have Hcell := Lib.hid hcell
  have Hf := Lib.hid hf
  clear hcell hf
  rw [hn] at hcap Hcell ⊢
  have Hn := Lib.hid hn
  clear hn
  refine Calls.mono (?_ : Calls _ _ _ _ (FoundOff ts p w)) (fun e w' h => h)
  go_enter Tryz.func55, Tryz.ntmps55
  go_wp2_with fail
  go_loopg [8] n (fun k v8 wr => ∃ i : Nat, v8 = .int .i64 i ∧ i ≤ n ∧ k = n - i ∧ (ts.take i).any p = false ∧ Below w.heap.size w wr)
  case atStart => exact ⟨0, rfl, Nat.zero_le _, rfl, rfl, Below.refl _ _⟩
  case round =>
    obtain ⟨i, rfl, hi, hk, hall, hB⟩ := hrel
    have Hk := Lib.hid hk
    have Hall := Lib.hid hall
    clear hk hall
    by_cases hlt : i < n
    · obtain ⟨b, o, rfl, hb, hc⟩ := Hcell.out.resolve_left (by omega)
      obtain ⟨t, ht⟩ : ∃ t, ts.getD i default = t := ⟨_, rfl⟩
      have HM : Hid (t ∈ ts) := by
        show t ∈ ts
        rw [← ht]
        exact mem_getD _ (by rw [Hn.out]; exact hlt)
      have c0 : wr.cell? ⟨b, o + i * 5, none⟩ = some (.string t.name) := (hB.cell (p := ⟨b, o + i * 5, none⟩) hb).trans (by have := hc i 0 hlt (by decide); rw [ht] at this; exact this)
      have c1 : wr.cell? ⟨b, o + i * 5 + 1, none⟩ = some (.int .i64 t.ep) := (hB.cell (p := ⟨b, o + i * 5 + 1, none⟩) hb).trans (by have := hc i 1 hlt (by decide); rw [ht] at this; exact this)
      have c2 : wr.cell? ⟨b, o + i * 5 + 2, none⟩ = some (.string t.up) := (hB.cell (p := ⟨b, o + i * 5 + 2, none⟩) hb).trans (by have := hc i 2 hlt (by decide); rw [ht] at this; exact this)
      have c3 : wr.cell? ⟨b, o + i * 5 + 3, none⟩ = some (.string t.rv) := (hB.cell (p := ⟨b, o + i * 5 + 3, none⟩) hb).trans (by have := hc i 3 hlt (by decide); rw [ht] at this; exact this)
      have c4 : wr.cell? ⟨b, o + i * 5 + 4, none⟩ = some (t.pv) := (hB.cell (p := ⟨b, o + i * 5 + 4, none⟩) hb).trans (by have := hc i 4 hlt (by decide); rw [ht] at this; exact this)
      have HT := Lib.hid ht
      clear hc ht hb
      go_wp2_with fail
      refine (Hf.out t HM.out _ hB).mono ?_
      rintro e w1 ⟨rfl, hb1⟩
      have hB1 := hB.trans (hb1.mono hB.size)
      clear hB hb1
      cases hp : p t
      · have HS : Hid ((ts.take (i + 1)).any p = false) := by
          show _ = _
          exact any_step default (by rw [Hn.out]; exact hlt) Hall.out (by rw [show ts.getD i default = t from HT.out]; exact hp)
        clear hp
        go_wp2_with fail
        go_roundg (n - (i + 1))
        case rel => exact ⟨i + 1, by go_num, by omega, rfl, HS.out, hB1⟩
        case measure => have := Hk.out; omega
      · have HF : Hid (ts.any p = true) := by
          show _ = _
          rw [List.any_eq_true]
          exact ⟨t, HM.out, hp⟩
        clear hp
        go_wp2_with fail
        go_ret
        exact ⟨_, rfl, by rw [HF.out]; exact decide_eq_true (by omega), hB1⟩
    · have HF : Hid (ts.any p = false) := by
        have := Hall.out
        rwa [List.take_of_length_le (by rw [Hn.out]; omega)] at this
      go_wp2_with fail
      go_ret
      exact ⟨-1, rfl, by rw [HF.out]; rfl, hB⟩

/-- slices.ContainsFunc at Off. -/
theorem containsOff_calls (v : Value) (ts : List OffD) (g : FuncId) (caps : Array Value) (p : OffD → Bool) (w : World) (hT : Offs w v ts)
    (eg : ∀ args w, (callFunc g args).run Tryz.prog w = .ok (.enter g args) w)
    (hf : ∀ t ∈ ts, ∀ w', Below w.heap.size w w' → Calls Tryz.prog g (#[.agg #[.string t.name, .int .i64 t.ep, .string t.up, .string t.rv, t.pv]] ++ caps) w' fun e w'' => e = .returned (.bool (p t)) ∧ Below w'.heap.size w' w'') :
    Calls Tryz.prog 57 #[v, .func (.func g) #[] caps] w fun e w' => e = .returned (.bool (ts.any p)) ∧ Below w.heap.size w w' := by
  have HI := Lib.hid (indexOff_calls v ts g caps p w hT eg hf)
  clear hf eg hT
  go_enter Tryz.func57, Tryz.ntmps57
  go_wp2_with fail
  refine HI.out.mono ?_
  rintro e w1 ⟨k, rfl, hk, hb⟩
  have HK := Lib.hid hk
  clear hk HI
  go_wp2_with fail
  go_ret
  exact ⟨ret_bool HK.out, hb⟩
end Go.Proofs.YtnfnebfioibndaaGreatDoor
