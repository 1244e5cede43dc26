/- order.right: whether edges are of so many. -/
import Derived.Test.YtnfnebfioibndaaErr
import Derived.Test.YtnfnebfioibndaaVisit
namespace Go.Proofs.Ytnfnebfioibndaa
open Go.RowKit
set_option maxRecDepth 100000
set_option maxHeartbeats 4000000

abbrev EdgeD := Int × Int
def edgeCell (e : EdgeD) : Nat → Value
  | 0 => .int .i64 e.1
  | _ => .int .i64 e.2
def Edges (w : World) (v : Value) (l : List EdgeD) : Prop := Sl w v l.length 2 (fun i j => edgeCell (l.getD i (0, 0)) j)
theorem Edges.below {w w' : World} {v : Value} {l : List EdgeD} (h : Edges w v l) {B : Nat} (hb : Below B w w') (hB : w.heap.size ≤ B) : Edges w' v l := Sl.below h hb hB
def badE (n : Int) (e : EdgeD) : Bool := decide (e.1 < 0) || (decide (n ≤ e.1) || (decide (e.2 < 0) || decide (n ≤ e.2)))
def firstBad (n : Int) : List EdgeD → Int → Int × Int
  | [], _ => (0, -1)
  | e :: l, i => if badE n e then (2, i) else firstBad n l (i + 1)
def rightR (n : Int) (l : List EdgeD) : Int × Int := if n < 0 ∨ 40 < n then (4, -1) else firstBad n l 0
theorem firstBad_step {n : Int} {l : List EdgeD} {i : Nat} (h : i < l.length) {e : EdgeD} (he : l.getD i (0, 0) = e) (hc : badE n e = false) : firstBad n (l.drop i) i = firstBad n (l.drop (i + 1)) ((i + 1 : Nat) : Int) := by
  have e1 : l[i] = e := by rw [← he]; simp [List.getD, List.getElem?_eq_getElem h]
  rw [List.drop_eq_getElem_cons h, firstBad, e1, hc]
  rfl
theorem firstBad_at {n : Int} {l : List EdgeD} {i : Nat} (h : i < l.length) {e : EdgeD} (he : l.getD i (0, 0) = e) (hc : badE n e = true) : firstBad n (l.drop i) i = (2, (i : Int)) := by
  have e1 : l[i] = e := by rw [← he]; simp [List.getD, List.getElem?_eq_getElem h]
  rw [List.drop_eq_getElem_cons h, firstBad, e1, hc]
  rfl
theorem firstBad_end {n : Int} {l : List EdgeD} {i : Nat} (h : l.length ≤ i) : firstBad n (l.drop i) i = (0, -1) := by
  rw [List.drop_eq_nil_of_le h, firstBad]

/-- An error value, that is nil just where nothing is wrong. -/
inductive ErrN (w : World) : Value → Int × Int → Prop
  | nil : ErrN w .nilIface (0, -1)
  | no (e : Int) (he : e ≠ 0) : ErrN w (.iface 55 (.int .i64 e)) (e, -1)
  | at (b o : Nat) (e p : Int) (h0 : w.cell? ⟨b, o, none⟩ = some (.int .i64 e)) (h1 : w.cell? ⟨b, o + 1, none⟩ = some (.int .i64 p)) (hb : b < w.heap.size) (hp : p ≠ -1) : ErrN w (.iface 56 (.pointer (some ⟨b, o, none⟩))) (e, p)
theorem ErrN.v {w : World} {v : Value} {r : Int × Int} (h : ErrN w v r) : ErrV w v r.1 r.2 := by
  cases h with
  | nil => exact .nil
  | no e he => exact .no e
  | «at» b o e p h0 h1 hb hp => exact .at b o e p h0 h1 hb
theorem ErrN.below {w w' : World} {v : Value} {r : Int × Int} (h : ErrN w v r) (hb : Below w.heap.size w w') : ErrN w' v r := by
  cases h with
  | nil => exact .nil
  | no e he => exact .no e he
  | «at» b o e p h0 h1 hlt hp => exact .at b o e p ((hb.cell (p := ⟨b, o, none⟩) hlt).trans h0) ((hb.cell (p := ⟨b, o + 1, none⟩) hlt).trans h1) (Nat.lt_of_lt_of_le hlt hb.size) hp
theorem ErrN.fine {w : World} {v : Value} {r : Int × Int} (h : ErrN w v r) (hr : r = (0, -1)) : v = .nilIface := by
  cases h with
  | nil => rfl
  | no e he => exact absurd (congrArg Prod.fst hr) he
  | «at» b o e p h0 h1 hb hp => exact absurd (congrArg Prod.snd hr) hp
theorem ErrN.bad {w : World} {v : Value} {r : Int × Int} (h : ErrN w v r) (hr : r ≠ (0, -1)) : ∃ t x, v = .iface t x := by
  cases h with
  | nil => exact absurd rfl hr
  | no e he => exact ⟨_, _, rfl⟩
  | «at» b o e p h0 h1 hb hp => exact ⟨_, _, rfl⟩
def ErrE (w : World) (r : Int × Int) (e : Ending) (w' : World) : Prop := ∃ v, e = .returned v ∧ ErrN w' v r ∧ Below w.heap.size w w'

theorem right_calls (v : Value) (l : List EdgeD) (n : Int) (w : World) (hE : Edges w v l) :
    Calls Try.prog 13 #[.int .i64 n, v] w (ErrE w (rightR n l)) := by
  obtain ⟨a, cap, rfl, hcap, hmax, hcell⟩ := hE
  unfold maxLen at hmax
  obtain ⟨m, hm⟩ : ∃ m, l.length = m := ⟨_, rfl⟩
  rw [hm] at hcap hcell ⊢
  have Hcell := Lib.hid hcell
  have Hm := Lib.hid hm
  clear hcell hm
  by_cases h0 : n < 0
  · have HJ : Hid (rightR n l = (4, -1)) := by show _ = _; unfold rightR; rw [if_pos (Or.inl h0)]
    have e0 : decide (n < 0) = true := decide_eq_true h0
    clear h0
    go_enter Try.func13, Try.ntmps13
    go_wp2_with fail
    go_ret
    exact ⟨_, rfl, by rw [HJ.out]; exact .no 4 (by decide), Below.refl _ _⟩
  have e0 : decide (n < 0) = false := decide_eq_false h0
  by_cases h40 : 40 < n
  · have HJ : Hid (rightR n l = (4, -1)) := by show _ = _; unfold rightR; rw [if_pos (Or.inr h40)]
    have e4 : decide (40 < n) = true := decide_eq_true h40
    clear h0 h40
    go_enter Try.func13, Try.ntmps13
    go_wp2_with fail
    go_ret
    exact ⟨_, rfl, by rw [HJ.out]; exact .no 4 (by decide), Below.refl _ _⟩
  have e4 : decide (40 < n) = false := decide_eq_false h40
  have HJ : Hid (rightR n l = firstBad n l 0) := by show _ = _; unfold rightR; rw [if_neg (by omega)]
  clear h0 h40
  go_enter Try.func13, Try.ntmps13
  go_wp2_with fail
  go_loopg [16] m (fun k v16 wr => ∃ i : Nat, v16 = .int .i64 i ∧ i ≤ m ∧ k = m - i ∧ firstBad n l 0 = firstBad n (l.drop i) i ∧ Below w.heap.size w wr)
  case atStart => exact ⟨0, rfl, Nat.zero_le _, rfl, rfl, Below.refl _ _⟩
  case round =>
    obtain ⟨i, rfl, hi, hk, hf, hB⟩ := hrel
    have Hk := Lib.hid hk
    have Hf := Lib.hid hf
    clear hk hf
    by_cases hlt : i < m
    · obtain ⟨b, o, rfl, hb, hc⟩ := Hcell.out.resolve_left (by omega)
      obtain ⟨e, he⟩ : ∃ e, l.getD i (0, 0) = e := ⟨_, rfl⟩
      obtain ⟨x, y⟩ := e
      have c0 : wr.cell? ⟨b, o + i * 2, none⟩ = some (.int .i64 x) := (hB.cell (p := ⟨b, o + i * 2, none⟩) hb).trans (by have h1 := hc i 0 hlt (by decide); rw [he] at h1; exact h1)
      have c1 : wr.cell? ⟨b, o + i * 2 + 1, none⟩ = some (.int .i64 y) := (hB.cell (p := ⟨b, o + i * 2 + 1, none⟩) hb).trans (by have h1 := hc i 1 hlt (by decide); rw [he] at h1; exact h1)
      have hsz := hB.size
      have HN : Hid (badE n (x, y) = false → firstBad n l 0 = firstBad n (l.drop (i + 1)) ((i + 1 : Nat) : Int)) := fun h => Hf.out.trans (firstBad_step (by rw [Hm.out]; exact hlt) he h)
      have HY : Hid (badE n (x, y) = true → rightR n l = (2, (i : Int))) := fun h => HJ.out.trans (Hf.out.trans (firstBad_at (by rw [Hm.out]; exact hlt) he h))
      clear hc he hb
      by_cases k1 : x < 0
      · have d1 : decide (x < 0) = true := decide_eq_true k1
        have HZ := Lib.hid (HY.out (by unfold badE; rw [d1]; rfl))
        clear k1
        go_wp2_with fail
        go_ret
        exact ⟨_, rfl, by rw [HZ.out]; exact .at _ 0 _ _ (by simp [go_sem]) (by simp [go_sem]) (by simp) (by omega), by go_grown⟩
      have d1 : decide (x < 0) = false := decide_eq_false k1
      by_cases k2 : n ≤ x
      · have d2 : decide (n ≤ x) = true := decide_eq_true k2
        have HZ := Lib.hid (HY.out (by unfold badE; rw [d1, d2]; rfl))
        clear k1 k2
        go_wp2_with fail
        go_ret
        exact ⟨_, rfl, by rw [HZ.out]; exact .at _ 0 _ _ (by simp [go_sem]) (by simp [go_sem]) (by simp) (by omega), by go_grown⟩
      have d2 : decide (n ≤ x) = false := decide_eq_false k2
      by_cases k3 : y < 0
      · have d3 : decide (y < 0) = true := decide_eq_true k3
        have HZ := Lib.hid (HY.out (by unfold badE; rw [d1, d2, d3]; rfl))
        clear k1 k2 k3
        go_wp2_with fail
        go_ret
        exact ⟨_, rfl, by rw [HZ.out]; exact .at _ 0 _ _ (by simp [go_sem]) (by simp [go_sem]) (by simp) (by omega), by go_grown⟩
      have d3 : decide (y < 0) = false := decide_eq_false k3
      by_cases k4 : n ≤ y
      · have d4 : decide (n ≤ y) = true := decide_eq_true k4
        have HZ := Lib.hid (HY.out (by unfold badE; rw [d1, d2, d3, d4]; rfl))
        clear k1 k2 k3 k4
        go_wp2_with fail
        go_ret
        exact ⟨_, rfl, by rw [HZ.out]; exact .at _ 0 _ _ (by simp [go_sem]) (by simp [go_sem]) (by simp) (by omega), by go_grown⟩
      have d4 : decide (n ≤ y) = false := decide_eq_false k4
      have HZ := Lib.hid (HN.out (by unfold badE; rw [d1, d2, d3, d4]; rfl))
      clear k1 k2 k3 k4
      go_wp2_with fail
      go_roundg (m - (i + 1))
      case rel => exact ⟨i + 1, by go_num, by omega, rfl, HZ.out, by go_grown⟩
      case measure => have := Hk.out; omega
    · obtain rfl : m = i := by omega
      have HZ : Hid (rightR n l = (0, -1)) := HJ.out.trans (Hf.out.trans (firstBad_end (by rw [Hm.out]; exact Nat.le_refl _)))
      go_wp2_with fail
      go_ret
      exact ⟨_, rfl, by rw [HZ.out]; exact .nil, hB⟩
end Go.Proofs.Ytnfnebfioibndaa
