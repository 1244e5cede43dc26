/- order.right: whether edges are of so many. · stevedorelaw.edges: the document's edges, as the program's. · slices.Grow at nil, slices.Concat of two, at order.Edge. · slices.Grow at nil, slices.Concat of two, at what is asked for: lists of lists of terms. -/
import Derived.Test.YtnfnebfioibndaaGreatDoorM08
import Derived.Test.YtnfnebfioibndaaGreatDoorM16
import Derived.Lib.AppendZeros
import Derived.Test.YtnfnebfioibndaaGreatDoorM11
namespace Go.Proofs.YtnfnebfioibndaaGreatDoor
open Go.RowKit
set_option maxRecDepth 100000
set_option maxHeartbeats 4000000

abbrev EdgeD := Int × Int
def edgeCell (e : EdgeD) : Nat → Value
  | 0 => .int .i64 e.1
  | _ => .int .i64 e.2
def Edges (w : World) (v : Value) (l : List EdgeD) : Prop := Sl w v l.length 2 (fun i j => edgeCell (l.getD i (0, 0)) j)
theorem Edges.below {w w' : World} {v : Value} {l : List EdgeD} (h : Edges w v l) {B : Nat} (hb : Below B w w') (hB : w.heap.size ≤ B) : Edges w' v l := Sl.below h hb hB
def badE (n : Int) (e : EdgeD) : Bool := decide (e.1 < 0) || (decide (n ≤ e.1) || (decide (e.2 < 0) || decide (n ≤ e.2)))
def firstBad (n : Int) : List EdgeD → Int → Int × Int
  | [], _ => (0, -1)
  | e :: l, i => if badE n e then (2, i) else firstBad n l (i + 1)
def rightR (n : Int) (l : List EdgeD) : Int × Int := if n < 0 ∨ 40 < n then (4, -1) else firstBad n l 0
theorem firstBad_step {n : Int} {l : List EdgeD} {i : Nat} (h : i < l.length) {e : EdgeD} (he : l.getD i (0, 0) = e) (hc : badE n e = false) : firstBad n (l.drop i) i = firstBad n (l.drop (i + 1)) ((i + 1 : Nat) : Int) := by
  have e1 : l[i] = e := by rw [← he]; simp [List.getD, List.getElem?_eq_getElem h]
  rw [List.drop_eq_getElem_cons h, firstBad, e1, hc]
  rfl
theorem firstBad_at {n : Int} {l : List EdgeD} {i : Nat} (h : i < l.length) {e : EdgeD} (he : l.getD i (0, 0) = e) (hc : badE n e = true) : firstBad n (l.drop i) i = (2, (i : Int)) := by
  have e1 : l[i] = e := by rw [← he]; simp [List.getD, List.getElem?_eq_getElem h]
  rw [List.drop_eq_getElem_cons h, firstBad, e1, hc]
  rfl
theorem firstBad_end {n : Int} {l : List EdgeD} {i : Nat} (h : l.length ≤ i) : firstBad n (l.drop i) i = (0, -1) := by
  rw [List.drop_eq_nil_of_le h, firstBad]

/-- An error value, that is nil just where nothing is wrong. -/
inductive ErrN (w : World) : Value → Int × Int → Prop
  | nil : ErrN w .nilIface (0, -1)
  | no (e : Int) (he : e ≠ 0) : ErrN w (.iface 40 (.int .i64 e)) (e, -1)
  | at (b o : Nat) (e p : Int) (h0 : w.cell? ⟨b, o, none⟩ = some (.int .i64 e)) (h1 : w.cell? ⟨b, o + 1, none⟩ = some (.int .i64 p)) (hb : b < w.heap.size) (hp : p ≠ -1) : ErrN w (.iface 79 (.pointer (some ⟨b, o, none⟩))) (e, p)
theorem ErrN.v {w : World} {v : Value} {r : Int × Int} (h : ErrN w v r) : ErrV w v r.1 r.2 := by
  cases h with
  | nil => exact .nil
  | no e he => exact .no e
  | «at» b o e p h0 h1 hb hp => exact .at b o e p h0 h1 hb
theorem ErrN.below {w w' : World} {v : Value} {r : Int × Int} (h : ErrN w v r) (hb : Below w.heap.size w w') : ErrN w' v r := by
  cases h with
  | nil => exact .nil
  | no e he => exact .no e he
  | «at» b o e p h0 h1 hlt hp => exact .at b o e p ((hb.cell (p := ⟨b, o, none⟩) hlt).trans h0) ((hb.cell (p := ⟨b, o + 1, none⟩) hlt).trans h1) (Nat.lt_of_lt_of_le hlt hb.size) hp
theorem ErrN.fine {w : World} {v : Value} {r : Int × Int} (h : ErrN w v r) (hr : r = (0, -1)) : v = .nilIface := by
  cases h with
  | nil => rfl
  | no e he => exact absurd (congrArg Prod.fst hr) he
  | «at» b o e p h0 h1 hb hp => exact absurd (congrArg Prod.snd hr) hp
theorem ErrN.bad {w : World} {v : Value} {r : Int × Int} (h : ErrN w v r) (hr : r ≠ (0, -1)) : ∃ t x, v = .iface t x := by
  cases h with
  | nil => exact absurd rfl hr
  | no e he => exact ⟨_, _, rfl⟩
  | «at» b o e p h0 h1 hb hp => exact ⟨_, _, rfl⟩
def ErrE (w : World) (r : Int × Int) (e : Ending) (w' : World) : Prop := ∃ v, e = .returned v ∧ ErrN w' v r ∧ Below w.heap.size w w'

theorem right_calls (v : Value) (l : List EdgeD) (n : Int) (w : World) (hE : Edges w v l) :
    Calls Tryz.prog 70 #[.int .i64 n, v] w (ErrE w (rightR n l)) := by
  obtain ⟨a, cap, rfl, hcap, hmax, hcell⟩ := hE
  unfold maxLen at hmax
  obtain ⟨m, hm⟩ : ∃ m, l.length = m := ⟨_, rfl⟩
  rw [hm] at hcap hcell ⊢
  have Hcell := Lib.hid hcell
  have Hm := Lib.hid hm
  clear hcell hm
  by_cases h0 : n < 0
  · have HJ : Hid (rightR n l = (4, -1)) := by show _ = _; unfold rightR; rw [if_pos (Or.inl h0)]
    have e0 : decide (n < 0) = true := decide_eq_true h0
    clear h0
    go_enter Tryz.func70, Tryz.ntmps70
    go_wp2_with fail
    go_ret
    exact ⟨_, rfl, by rw [HJ.out]; exact .no 4 (by decide), Below.refl _ _⟩
  have e0 : decide (n < 0) = false := decide_eq_false h0
  by_cases h40 : 40 < n
  · have HJ : Hid (rightR n l = (4, -1)) := by show _ = _; unfold rightR; rw [if_pos (Or.inr h40)]
    have e4 : decide (40 < n) = true := decide_eq_true h40
    clear h0 h40
    go_enter Tryz.func70, Tryz.ntmps70
    go_wp2_with fail
    go_ret
    exact ⟨_, rfl, by rw [HJ.out]; exact .no 4 (by decide), Below.refl _ _⟩
  have e4 : decide (40 < n) = false := decide_eq_false h40
  have HJ : Hid (rightR n l = firstBad n l 0) := by show _ = _; unfold rightR; rw [if_neg (by omega)]
  clear h0 h40
  go_enter Tryz.func70, Tryz.ntmps70
  go_wp2_with fail
  go_loopg [16] m (fun k v16 wr => ∃ i : Nat, v16 = .int .i64 i ∧ i ≤ m ∧ k = m - i ∧ firstBad n l 0 = firstBad n (l.drop i) i ∧ Below w.heap.size w wr)
  case atStart => exact ⟨0, rfl, Nat.zero_le _, rfl, rfl, Below.refl _ _⟩
  case round =>
    obtain ⟨i, rfl, hi, hk, hf, hB⟩ := hrel
    have Hk := Lib.hid hk
    have Hf := Lib.hid hf
    clear hk hf
    by_cases hlt : i < m
    · obtain ⟨b, o, rfl, hb, hc⟩ := Hcell.out.resolve_left (by omega)
      obtain ⟨e, he⟩ : ∃ e, l.getD i (0, 0) = e := ⟨_, rfl⟩
      obtain ⟨x, y⟩ := e
      have c0 : wr.cell? ⟨b, o + i * 2, none⟩ = some (.int .i64 x) := (hB.cell (p := ⟨b, o + i * 2, none⟩) hb).trans (by have h1 := hc i 0 hlt (by decide); rw [he] at h1; exact h1)
      have c1 : wr.cell? ⟨b, o + i * 2 + 1, none⟩ = some (.int .i64 y) := (hB.cell (p := ⟨b, o + i * 2 + 1, none⟩) hb).trans (by have h1 := hc i 1 hlt (by decide); rw [he] at h1; exact h1)
      have hsz := hB.size
      have HN : Hid (badE n (x, y) = false → firstBad n l 0 = firstBad n (l.drop (i + 1)) ((i + 1 : Nat) : Int)) := fun h => Hf.out.trans (firstBad_step (by rw [Hm.out]; exact hlt) he h)
      have HY : Hid (badE n (x, y) = true → rightR n l = (2, (i : Int))) := fun h => HJ.out.trans (Hf.out.trans (firstBad_at (by rw [Hm.out]; exact hlt) he h))
      clear hc he hb
      by_cases k1 : x < 0
      · have d1 : decide (x < 0) = true := decide_eq_true k1
        have HZ := Lib.hid (HY.out (by unfold badE; rw [d1]; rfl))
        clear k1
        go_wp2_with fail
        go_ret
        exact ⟨_, rfl, by rw [HZ.out]; exact .at _ 0 _ _ (by simp [go_sem]) (by simp [go_sem]) (by simp) (by omega), by go_grown⟩
      have d1 : decide (x < 0) = false := decide_eq_false k1
      by_cases k2 : n ≤ x
      · have d2 : decide (n ≤ x) = true := decide_eq_true k2
        have HZ := Lib.hid (HY.out (by unfold badE; rw [d1, d2]; rfl))
        clear k1 k2
        go_wp2_with fail
        go_ret
        exact ⟨_, rfl, by rw [HZ.out]; exact .at _ 0 _ _ (by simp [go_sem]) (by simp [go_sem]) (by simp) (by omega), by go_grown⟩
      have d2 : decide (n ≤ x) = false := decide_eq_false k2
      by_cases k3 : y < 0
      · have d3 : decide (y < 0) = true := decide_eq_true k3
        have HZ := Lib.hid (HY.out (by unfold badE; rw [d1, d2, d3]; rfl))
        clear k1 k2 k3
        go_wp2_with fail
        go_ret
        exact ⟨_, rfl, by rw [HZ.out]; exact .at _ 0 _ _ (by simp [go_sem]) (by simp [go_sem]) (by simp) (by omega), by go_grown⟩
      have d3 : decide (y < 0) = false := decide_eq_false k3
      by_cases k4 : n ≤ y
      · have d4 : decide (n ≤ y) = true := decide_eq_true k4
        have HZ := Lib.hid (HY.out (by unfold badE; rw [d1, d2, d3, d4]; rfl))
        clear k1 k2 k3 k4
        go_wp2_with fail
        go_ret
        exact ⟨_, rfl, by rw [HZ.out]; exact .at _ 0 _ _ (by simp [go_sem]) (by simp [go_sem]) (by simp) (by omega), by go_grown⟩
      have d4 : decide (n ≤ y) = false := decide_eq_false k4
      have HZ := Lib.hid (HN.out (by unfold badE; rw [d1, d2, d3, d4]; rfl))
      clear k1 k2 k3 k4
      go_wp2_with fail
      go_roundg (m - (i + 1))
      case rel => exact ⟨i + 1, by go_num, by omega, rfl, HZ.out, by go_grown⟩
      case measure => have := Hk.out; omega
    · obtain rfl : m = i := by omega
      have HZ : Hid (rightR n l = (0, -1)) := HJ.out.trans (Hf.out.trans (firstBad_end (by rw [Hm.out]; exact Nat.le_refl _)))
      go_wp2_with fail
      go_ret
      exact ⟨_, rfl, by rw [HZ.out]; exact .nil, hB⟩
end Go.Proofs.YtnfnebfioibndaaGreatDoor
namespace Go.Proofs.YtnfnebfioibndaaGreatDoor
open Go.RowKit
set_option maxRecDepth 100000
set_option maxHeartbeats 4000000

theorem info_edge : (Tryz.prog.info? 102).map (fun i => (i.zero, i.size, i.bytes)) = some (some (.agg #[.int .i64 0, .int .i64 0]), 2, 16) := by kernel_rfl
def edgeRows (l : List EdgeD) : List Value := l.flatMap fun e => [.int .i64 e.1, .int .i64 e.2]
theorem edgeRows_snoc (l : List EdgeD) (e : EdgeD) : edgeRows (l ++ [e]) = edgeRows l ++ [.int .i64 e.1, .int .i64 e.2] := by simp [edgeRows]
theorem edgeRows_at (l : List EdgeD) (i j : Nat) (hi : i < l.length) (hj : j < 2) : (edgeRows l)[i * 2 + j]? = some (edgeCell (l.getD i (0, 0)) j) := by
  induction l generalizing i with
  | nil => simp at hi
  | cons e l ih =>
    have e1 : edgeRows (e :: l) = [.int .i64 e.1, .int .i64 e.2] ++ edgeRows l := rfl
    rw [e1]
    cases i with
    | zero =>
      match j, hj with
      | 0, _ => rfl
      | 1, _ => rfl
    | succ i =>
      rw [List.getElem?_append_right (by simp; omega)]
      have : (i + 1) * 2 + j - ([.int .i64 e.1, .int .i64 e.2] : List Value).length = i * 2 + j := by simp; omega
      rw [this, ih i (by simpa using hi)]
      simp [List.getD]
theorem edges_owned {w : World} {base : Nat} {e : TypeId} {v : Value} {l : List EdgeD} (h : w.ownsRow base e 2 v l.length (edgeRows l)) : Edges w v l := by
  rcases id h.2 with ⟨rfl, h0⟩ | ⟨g, cap, cur, rfl, _, hg, h1, h2, _⟩
  · refine ⟨none, 0, by rw [h0], by omega, by decide, Or.inl h0⟩
  · refine ⟨_, cap, rfl, h1, h2, Or.inr ⟨g, 0, rfl, lt_of_block hg, fun i j hi hj => ?_⟩⟩
    have := h.cellAt (i * 2 + j) (by omega)
    rw [edgeRows_at l i j hi hj] at this
    rw [Nat.zero_add]
    exact this
end Go.Proofs.YtnfnebfioibndaaGreatDoor
namespace Go.Proofs.YtnfnebfioibndaaGreatDoor
open Go.RowKit
set_option maxRecDepth 100000
set_option maxHeartbeats 4000000

theorem run_append_zero {P : Program} (w : World) (base : Nat) (t ty e : TypeId) (i : TypeInfo) (size : Nat) (ht : P.underlying t = some (.slice e)) (hi : P.info? e = some i) (v : Value) (n : Nat) (xs : List Value) (hown : w.ownsRow base e size v n xs) (A : Option Addr) (c : Nat) :
    (Builtin.append_ #[t, t] ty #[v, .slice A 0 c]).run P w = .ok v w := by
  rcases hown.2 with ⟨rfl, _⟩ | ⟨g, cap, cur, rfl, _, hg, hnc, _⟩
  · cases A <;> simp [Builtin.append_, run_underlying ht, sizeOf, typeInfo, hi, Builtin.lenOf, Builtin.firstCells, loadCells, loadCellsFrom]
  · cases A <;> simp [Builtin.append_, run_underlying ht, sizeOf, typeInfo, hi, Builtin.lenOf, Builtin.firstCells, loadCells, loadCellsFrom, hnc, storeCells]

theorem grow_calls (n : Nat) (hn : n ≤ 200000) (w : World) :
    Calls Tryz.prog 97 #[.slice none 0 0, .int .i64 ((n : Nat) : Int)] w fun e w' => ∃ ov, e = .returned ov ∧ w'.ownsRow w.heap.size 102 2 ov 0 [] ∧ Below w.heap.size w w' := by
  obtain ⟨i0, hi0, hz0, hz1, hz2⟩ := info_parts info_edge
  have Hi0 := Lib.hid (And.intro hi0 (And.intro hz0 (And.intro hz1 hz2)))
  clear hi0 hz0 hz1 hz2
  by_cases h0 : n = 0
  · subst h0
    go_enter Tryz.func97, Tryz.ntmps97
    go_wp2_with fail
    go_ret
    exact ⟨_, rfl, World.ownsRow_nil _ _ _ _, Below.refl _ _⟩
  · have hpos : 0 < n := by omega
    clear h0
    have hown : (w.drew.alloc (.cells (Builtin.zeroCells (Value.agg #[.int .i64 0, .int .i64 0]).cells n ++ Builtin.zeroCells (Value.agg #[.int .i64 0, .int .i64 0]).cells (grownCap w n 0 102 - n)) 102)).ownsRow w.heap.size 102 2 (.slice (some ⟨w.heap.size, 0, none⟩) 0 (grownCap w n 0 102)) 0 [] := by
      have hge := grownCap_ge w n 0 102
      have hcm : grownCap w n 0 102 ≤ maxLen := grownCap_le_maxLen w n 0 102 (by unfold maxLen; omega)
      refine ⟨rfl, .inr ⟨w.heap.size, _, _, rfl, Nat.le_refl _, heap_alloc_new w.drew _, Nat.zero_le _, hcm, ?_, by simp⟩⟩
      rw [Array.size_append, size_zeroCells, size_zeroCells]
      show n * 2 + _ * 2 = _
      omega
    have hge := grownCap_ge w n 0 102
    obtain ⟨cp, hcp⟩ : ∃ cp, grownCap w n 0 102 = cp := ⟨_, rfl⟩
    have hcm : grownCap w n 0 102 ≤ 9223372036854775807 := by have := grownCap_le_maxLen w n 0 102 (by unfold maxLen; omega); unfold maxLen at this; omega
    rw [hcp] at hge hcm
    have Hcp := Lib.hid hcp
    have Hown := Lib.hid hown
    clear hcp hown
    go_enter Tryz.func97, Tryz.ntmps97
    go_wp2_with (at_builtin; refine Lib.wpList_append_run _ rfl _ _ 95 3 rfl _ _ rfl rfl _ _ (Lib.run_append_nil_zeros _ 95 3 _ 102 i0 _ .i64 .i64 Tryz.underlying95 Tryz.underlying3 Hi0.out.1 Hi0.out.2.1 n hpos (by rw [Hi0.out.2.2.1]; decide) (by omega) (by rw [Hi0.out.2.2.2]; omega)) ?_)
    rw [Hcp.out]
    go_wp2_with fail
    go_ret
    refine ⟨_, rfl, ?_, ((Below.refl _ _).drew).alloc (by simp) _⟩
    have := Hown.out
    rw [Hcp.out] at this
    exact this

theorem edgeRows_len (l : List EdgeD) : (edgeRows l).length = l.length * 2 := by
  induction l with
  | nil => rfl
  | cons e l ih =>
    have : edgeRows (e :: l) = [.int .i64 e.1, .int .i64 e.2] ++ edgeRows l := rfl
    rw [this, List.length_append, ih]
    simp
    omega
theorem edgeRows_append (a b : List EdgeD) : edgeRows (a ++ b) = edgeRows a ++ edgeRows b := by simp [edgeRows]
theorem edgeRows_one {l : List EdgeD} : ∀ u ∈ edgeRows l, u.oneCell' = true := by
  intro u hu
  obtain ⟨e, _, he⟩ := List.mem_flatMap.1 hu
  rcases List.mem_cons.1 he with rfl | he
  · rfl
  · rw [List.mem_singleton.1 he]; rfl
/-- append(row, edges...), whatever the edges' address. -/
theorem append_edges {i0 : TypeInfo} (h0 : Tryz.prog.info? 102 = some i0 ∧ i0.zero = some (.agg #[.int .i64 0, .int .i64 0]) ∧ i0.size = 2 ∧ i0.bytes = 16) {w : World} {base : Nat} {ov v : Value} {L l : List EdgeD} (hown : w.ownsRow base 102 2 ov L.length (edgeRows L)) (hE : Edges w v l) (hL : L.length + l.length ≤ 1000000) (hb : base ≤ w.heap.size) (ty : TypeId) :
    ∃ v' w', (Builtin.append_ #[95, 95] ty #[ov, v]).run Tryz.prog w = .ok v' w' ∧ w'.ownsRow base 102 2 v' (L ++ l).length (edgeRows (L ++ l)) ∧ w.grownBy w' ov.ownBlock := by
  obtain ⟨a, c, rfl, h1, h2, h3⟩ := hE
  rcases Nat.eq_zero_or_pos l.length with hz | hp
  · have hl : l = [] := List.length_eq_zero_iff.1 hz
    subst hl
    refine ⟨ov, w, ?_, by simpa using hown, World.grownBy.refl w _⟩
    exact run_append_zero w base _ ty 102 i0 2 Tryz.underlying95 h0.1 ov _ _ hown a c
  · obtain ⟨b, o, rfl, hlt, hc⟩ := h3.resolve_left (by omega)
    have hnews : ∀ j u, (edgeRows l)[j]? = some u → w.cell? ((⟨b, o, none⟩ : Addr).add j) = some u := by
      intro j u hu
      have hj : j < l.length * 2 := by
        rcases Nat.lt_or_ge j (l.length * 2) with h | h
        · exact h
        · rw [List.getElem?_eq_none (by rw [edgeRows_len]; exact h)] at hu; cases hu
      have e := edgeRows_at l (j / 2) (j % 2) (by omega) (by omega)
      rw [show j / 2 * 2 + j % 2 = j by omega, hu] at e
      have := hc (j / 2) (j % 2) (by omega) (by omega)
      rw [addr_add, show o + j = o + j / 2 * 2 + j % 2 by omega, this, e]
    obtain ⟨v', w', hr, q1, q2, _⟩ := run_append_own_at (P := Tryz.prog) w base 95 ty 102 i0 _ 2 16 Tryz.underlying95 h0.1 h0.2.1 h0.2.2.1 h0.2.2.2 rfl (by decide) ov L.length (edgeRows L) hown ⟨b, o, none⟩ l.length c (edgeRows l) (edgeRows_len l) hnews edgeRows_one (by unfold maxLen; omega) (by omega) hb
    refine ⟨v', w', hr, ?_, q2⟩
    rw [List.length_append, edgeRows_append]
    exact q1

theorem concat_calls (P : Nat) (v1 v2 : Value) (l1 l2 : List EdgeD) (w : World) (c1 : w.cell? ⟨P, 0, none⟩ = some v1) (c2 : w.cell? ⟨P, 1, none⟩ = some v2) (h1 : Edges w v1 l1) (h2 : Edges w v2 l2) (hl1 : l1.length ≤ 50000) (hl2 : l2.length ≤ 50000) :
    Calls Tryz.prog 72 #[.slice (some ⟨P, 0, none⟩) 2 2] w fun e w' => ∃ ov, e = .returned ov ∧ Edges w' ov (l1 ++ l2) ∧ Below w.heap.size w w' := by
  have hP : P < w.heap.size := World.block_lt_of_cell? w _ c1
  have HE1 := Lib.hid h1
  have HE2 := Lib.hid h2
  obtain ⟨n1, hn1⟩ : ∃ n, l1.length = n := ⟨_, rfl⟩
  obtain ⟨n2, hn2⟩ : ∃ n, l2.length = n := ⟨_, rfl⟩
  obtain ⟨a1, p1, rfl, hp1, hm1, -⟩ := h1
  obtain ⟨a2, p2, rfl, hp2, hm2, -⟩ := h2
  unfold maxLen at hm1 hm2
  rw [hn1] at hp1 hl1 c1 HE1
  rw [hn2] at hp2 hl2 c2 HE2
  obtain ⟨s, hs⟩ : ∃ s, n1 + n2 = s := ⟨_, rfl⟩
  have eS : ((n1 : Nat) : Int) + ((n2 : Nat) : Int) = ((s : Nat) : Int) := by omega
  have hs2 : s ≤ 100000 := by omega
  obtain ⟨i0, hi0, hz0, hz1, hz2⟩ := info_parts info_edge
  have Hi0 := Lib.hid (And.intro hi0 (And.intro hz0 (And.intro hz1 hz2)))
  have Hn1 := Lib.hid hn1
  have Hn2 := Lib.hid hn2
  have HS := Lib.hid eS
  have HC1 := Lib.hid c1
  have HC2 := Lib.hid c2
  clear hi0 hz0 hz1 hz2 hn1 hn2 hs eS
  go_enter Tryz.func72, Tryz.ntmps72
  go_wp2_with fail
  go_loopg [3, 11] 2 (fun k v3 v11 wr => ∃ (i : Nat) (c : Nat), v11 = .int .i64 i ∧ i ≤ 2 ∧ k = 2 - i ∧ v3 = .int .i64 ((c : Nat) : Int) ∧ (i = 0 ∧ c = 0 ∨ i = 1 ∧ c = n1 ∨ i = 2 ∧ c = s) ∧ w = wr)
  case atStart => exact ⟨0, 0, rfl, Nat.zero_le _, rfl, rfl, Or.inl ⟨rfl, rfl⟩, rfl⟩
  case round =>
    obtain ⟨i, c, rfl, hi, hk, rfl, hic, rfl⟩ := hrel
    have Hk := Lib.hid hk
    clear hk
    rcases hic with ⟨rfl, rfl⟩ | ⟨rfl, rfl⟩ | ⟨rfl, rfl⟩
    · go_wp2_with fail
      go_roundg 1
      case rel => exact ⟨1, n1, rfl, by omega, rfl, by go_num, Or.inr (Or.inl ⟨rfl, rfl⟩), rfl⟩
      case measure => have := Hk.out; omega
    · go_wp2_with fail
      go_roundg 0
      case rel => exact ⟨2, s, rfl, by omega, rfl, by rw [← HS.out], Or.inr (Or.inr ⟨rfl, rfl⟩), rfl⟩
      case measure => have := Hk.out; omega
    · go_wp2_with fail
      refine (grow_calls c (by omega) w).mono ?_
      rintro e w1 ⟨ov, rfl, hown, hB⟩
      have Hown := Lib.hid hown
      have HB := Lib.hid hB
      clear hown hB
      go_wp2_with fail
      go_loopg [6, 27] 2 (fun k v6 v27 wr => ∃ (i : Nat) (L : List EdgeD) (ov : Value), ov = v6 ∧ v27 = .int .i64 i ∧ i ≤ 2 ∧ k = 2 - i ∧ (i = 0 ∧ L = [] ∨ i = 1 ∧ L = l1 ∨ i = 2 ∧ L = l1 ++ l2) ∧ wr.ownsRow w.heap.size 102 2 ov L.length (edgeRows L) ∧ Below w.heap.size w wr)
      case atStart => exact ⟨0, [], _, rfl, rfl, Nat.zero_le _, rfl, Or.inl ⟨rfl, rfl⟩, Hown.out, HB.out⟩
      case round =>
        obtain ⟨i, L, ov, rfl, rfl, hi, hk, hiL, hown, hB⟩ := hrel
        have Hk2 := Lib.hid hk
        have Hown2 := Lib.hid hown
        have HB2 := Lib.hid hB
        clear hk hown hB
        rcases hiL with ⟨rfl, rfl⟩ | ⟨rfl, rfl⟩ | ⟨rfl, rfl⟩
        · have d1 := (HB2.out.cell (p := ⟨P, 0, none⟩) hP).trans HC1.out
          obtain ⟨v', w', hr, q1, q2⟩ := append_edges Hi0.out Hown2.out (HE1.out.below HB2.out (Nat.le_refl _)) (by have := Hn1.out; simp; omega) HB2.out.size 95
          have Hr := Lib.hid hr
          have HBn := Lib.hid (HB2.out.grown q2 HB2.out.size (fun k e => (Hown2.out.lt k e).1))
          have Hq1 := Lib.hid q1
          clear hr q1 q2
          go_wp2_with (at_builtin; refine Lib.wpList_append_run _ rfl _ _ 95 95 rfl _ _ rfl rfl _ _ Hr.out ?_)
          go_wp2_with fail
          go_roundg 1
          case rel => exact ⟨1, l1, _, rfl, rfl, by omega, rfl, Or.inr (Or.inl ⟨rfl, rfl⟩), Hq1.out, HBn.out⟩
          case measure => have := Hk2.out; omega
        · have d2 := (HB2.out.cell (p := ⟨P, 1, none⟩) hP).trans HC2.out
          obtain ⟨v', w', hr, q1, q2⟩ := append_edges Hi0.out Hown2.out (HE2.out.below HB2.out (Nat.le_refl _)) (by have := Hn1.out; have := Hn2.out; omega) HB2.out.size 95
          have Hr := Lib.hid hr
          have HBn := Lib.hid (HB2.out.grown q2 HB2.out.size (fun k e => (Hown2.out.lt k e).1))
          have Hq1 := Lib.hid q1
          clear hr q1 q2
          go_wp2_with (at_builtin; refine Lib.wpList_append_run _ rfl _ _ 95 95 rfl _ _ rfl rfl _ _ Hr.out ?_)
          go_wp2_with fail
          go_roundg 0
          case rel => exact ⟨2, _, _, rfl, rfl, by omega, rfl, Or.inr (Or.inr ⟨rfl, rfl⟩), Hq1.out, HBn.out⟩
          case measure => have := Hk2.out; omega
        · have HE := Lib.hid (edges_owned Hown2.out)
          go_wp2_with fail
          go_ret
          exact ⟨_, rfl, HE.out, HB2.out⟩
end Go.Proofs.YtnfnebfioibndaaGreatDoor
namespace Go.Proofs.YtnfnebfioibndaaGreatDoor
open Go.RowKit
set_option maxRecDepth 100000
set_option maxHeartbeats 4000000

theorem info_terms : (Tryz.prog.info? 26).map (fun i => (i.zero, i.size, i.bytes)) = some (some (.slice none 0 0), 1, 24) := by kernel_rfl

/-- A slice of values of one cell. -/
def Vals (w : World) (v : Value) (vs : List Value) : Prop := Sl w v vs.length 1 (fun i _ => vs.getD i .nilFunc) ∧ ∀ u ∈ vs, u.oneCell' = true
theorem Vals.below {w w' : World} {v : Value} {vs : List Value} (h : Vals w v vs) {B : Nat} (hb : Below B w w') (hB : w.heap.size ≤ B) : Vals w' v vs := ⟨h.1.below hb hB, h.2⟩
theorem Vals.slice {w : World} {v : Value} {vs : List Value} (h : Vals w v vs) : ∃ a c, v = .slice a vs.length c := by
  obtain ⟨a, c, e, -⟩ := h.1
  exact ⟨a, c, e⟩
structure AskedV (w : World) (vs : List Value) (ls : List (List TermD)) : Prop where
  len : vs.length = ls.length
  ok : ∀ i, i < ls.length → Terms w (vs.getD i .nilFunc) (ls.getD i [])
theorem AskedV.below {w w' : World} {vs : List Value} {ls : List (List TermD)} (h : AskedV w vs ls) {B : Nat} (hb : Below B w w') (hB : w.heap.size ≤ B) : AskedV w' vs ls := ⟨h.len, fun i hi => (h.ok i hi).below hb hB⟩
theorem AskedV.append {w : World} {vs us : List Value} {ls ms : List (List TermD)} (h : AskedV w vs ls) (h' : AskedV w us ms) : AskedV w (vs ++ us) (ls ++ ms) := by
  refine ⟨by rw [List.length_append, List.length_append, h.len, h'.len], fun i hi => ?_⟩
  rw [List.length_append] at hi
  simp only [List.getD, List.getElem?_append, h.len]
  by_cases hl : i < ls.length
  · rw [if_pos hl, if_pos hl]
    exact h.ok i hl
  · rw [if_neg hl, if_neg hl]
    exact h'.ok (i - ls.length) (by omega)
theorem Lists.vals {w : World} {v : Value} {ls : List (List TermD)} (h : Lists w v ls) : ∃ vs, Vals w v vs ∧ AskedV w vs ls := by
  obtain ⟨V, h1, h2⟩ := h
  have hl : ((List.range ls.length).map V).length = ls.length := by simp
  have hg : ∀ i, i < ls.length → ((List.range ls.length).map V).getD i .nilFunc = V i := fun i hi => by simp [List.getD, hi]
  refine ⟨(List.range ls.length).map V, ⟨?_, fun u hu => ?_⟩, hl, fun i hi => by rw [hg i hi]; exact h2 i hi⟩
  · rw [hl]
    exact h1.congr fun i j hi _ => (hg i hi).symm
  · obtain ⟨i, hi, rfl⟩ := List.mem_map.1 hu
    obtain ⟨a, n, c, e⟩ := (h2 i (List.mem_range.1 hi)).1.slice
    rw [e]
    rfl
theorem lists_of_vals {w : World} {v : Value} {vs : List Value} {ls : List (List TermD)} (h : Vals w v vs) (h' : AskedV w vs ls) : Lists w v ls := by
  refine ⟨fun i => vs.getD i .nilFunc, ?_, h'.ok⟩
  have := h.1
  rwa [h'.len] at this
theorem vals_owned {w : World} {base : Nat} {e : TypeId} {v : Value} {vs : List Value} (h : w.ownsRow base e 1 v vs.length vs) (h1 : ∀ u ∈ vs, u.oneCell' = true) : Vals w v vs := by
  refine ⟨?_, h1⟩
  rcases id h.2 with ⟨rfl, h0⟩ | ⟨g, cap, cur, rfl, _, hg, h1, h2, _⟩
  · rw [h0]
    exact Sl.nil _ _ _
  · refine ⟨_, cap, rfl, h1, h2, Or.inr ⟨g, 0, rfl, ?_, fun i j hi hj => ?_⟩⟩
    · rcases Nat.lt_or_ge g w.heap.size with hlt | hge
      · exact hlt
      · rw [Array.getElem?_eq_none hge] at hg; cases hg
    · obtain rfl : j = 0 := by omega
      have := h.cellAt i (by omega)
      rw [Nat.zero_add, Nat.mul_one, Nat.add_zero, this]
      simp [List.getD, List.getElem?_eq_getElem hi]

theorem growL_calls (n : Nat) (hn : n ≤ 200000) (w : World) :
    Calls Tryz.prog 64 #[.slice none 0 0, .int .i64 ((n : Nat) : Int)] w fun e w' => ∃ ov, e = .returned ov ∧ w'.ownsRow w.heap.size 26 1 ov 0 [] ∧ Below w.heap.size w w' := by
  obtain ⟨i0, hi0, hz0, hz1, hz2⟩ := info_parts info_terms
  have Hi0 := Lib.hid (And.intro hi0 (And.intro hz0 (And.intro hz1 hz2)))
  clear hi0 hz0 hz1 hz2
  by_cases h0 : n = 0
  · subst h0
    go_enter Tryz.func64, Tryz.ntmps64
    go_wp2_with fail
    go_ret
    exact ⟨_, rfl, World.ownsRow_nil _ _ _ _, Below.refl _ _⟩
  · have hpos : 0 < n := by omega
    clear h0
    have hown : (w.drew.alloc (.cells (Builtin.zeroCells (Value.slice none 0 0).cells n ++ Builtin.zeroCells (Value.slice none 0 0).cells (grownCap w n 0 26 - n)) 26)).ownsRow w.heap.size 26 1 (.slice (some ⟨w.heap.size, 0, none⟩) 0 (grownCap w n 0 26)) 0 [] := by
      have hge := grownCap_ge w n 0 26
      have hcm : grownCap w n 0 26 ≤ maxLen := grownCap_le_maxLen w n 0 26 (by unfold maxLen; omega)
      refine ⟨rfl, .inr ⟨w.heap.size, _, _, rfl, Nat.le_refl _, heap_alloc_new w.drew _, Nat.zero_le _, hcm, ?_, by simp⟩⟩
      rw [Array.size_append, size_zeroCells, size_zeroCells]
      show n * 1 + _ * 1 = _
      omega
    have hge := grownCap_ge w n 0 26
    obtain ⟨cp, hcp⟩ : ∃ cp, grownCap w n 0 26 = cp := ⟨_, rfl⟩
    have hcm : grownCap w n 0 26 ≤ 9223372036854775807 := by have := grownCap_le_maxLen w n 0 26 (by unfold maxLen; omega); unfold maxLen at this; omega
    rw [hcp] at hge hcm
    have Hcp := Lib.hid hcp
    have Hown := Lib.hid hown
    clear hcp hown
    go_enter Tryz.func64, Tryz.ntmps64
    go_wp2_with (at_builtin; refine Lib.wpList_append_run _ rfl _ _ 25 3 rfl _ _ rfl rfl _ _ (Lib.run_append_nil_zeros _ 25 3 _ 26 i0 _ .i64 .i64 Tryz.underlying25 Tryz.underlying3 Hi0.out.1 Hi0.out.2.1 n hpos (by rw [Hi0.out.2.2.1]; decide) (by omega) (by rw [Hi0.out.2.2.2]; omega)) ?_)
    rw [Hcp.out]
    go_wp2_with fail
    go_ret
    refine ⟨_, rfl, ?_, ((Below.refl _ _).drew).alloc (by simp) _⟩
    have := Hown.out
    rw [Hcp.out] at this
    exact this

/-- append(row, lists...), whatever the lists' address. -/
theorem append_vals {i0 : TypeInfo} (h0 : Tryz.prog.info? 26 = some i0 ∧ i0.zero = some (.slice none 0 0) ∧ i0.size = 1 ∧ i0.bytes = 24) {w : World} {base : Nat} {ov v : Value} {L l : List Value} (hown : w.ownsRow base 26 1 ov L.length L) (hE : Vals w v l) (hL : L.length + l.length ≤ 1000000) (hb : base ≤ w.heap.size) (ty : TypeId) :
    ∃ v' w', (Builtin.append_ #[25, 25] ty #[ov, v]).run Tryz.prog w = .ok v' w' ∧ w'.ownsRow base 26 1 v' (L ++ l).length (L ++ l) ∧ w.grownBy w' ov.ownBlock := by
  obtain ⟨⟨a, c, rfl, h1, h2, h3⟩, h4⟩ := hE
  rcases Nat.eq_zero_or_pos l.length with hz | hp
  · have hl : l = [] := List.length_eq_zero_iff.1 hz
    subst hl
    refine ⟨ov, w, ?_, by simpa using hown, World.grownBy.refl w _⟩
    exact run_append_zero w base _ ty 26 i0 1 Tryz.underlying25 h0.1 ov _ _ hown a c
  · obtain ⟨b, o, rfl, hlt, hc⟩ := h3.resolve_left (by omega)
    have hnews : ∀ j u, l[j]? = some u → w.cell? ((⟨b, o, none⟩ : Addr).add j) = some u := by
      intro j u hu
      have hj : j < l.length := by
        rcases Nat.lt_or_ge j l.length with h | h
        · exact h
        · rw [List.getElem?_eq_none h] at hu; cases hu
      have := hc j 0 hj (by decide)
      rw [Nat.mul_one, Nat.add_zero] at this
      rw [addr_add, this]
      simp [List.getD, hu]
    obtain ⟨v', w', hr, q1, q2, _⟩ := run_append_own_at (P := Tryz.prog) w base 25 ty 26 i0 _ 1 24 Tryz.underlying25 h0.1 h0.2.1 h0.2.2.1 h0.2.2.2 rfl (by decide) ov L.length L hown ⟨b, o, none⟩ l.length c l (by rw [Nat.mul_one]) hnews h4 (by unfold maxLen; omega) (by omega) hb
    refine ⟨v', w', hr, ?_, q2⟩
    rw [List.length_append]
    exact q1

theorem concatL_calls (P : Nat) (v1 v2 : Value) (l1 l2 : List Value) (w : World) (c1 : w.cell? ⟨P, 0, none⟩ = some v1) (c2 : w.cell? ⟨P, 1, none⟩ = some v2) (h1 : Vals w v1 l1) (h2 : Vals w v2 l2) (hl1 : l1.length ≤ 50000) (hl2 : l2.length ≤ 50000) :
    Calls Tryz.prog 42 #[.slice (some ⟨P, 0, none⟩) 2 2] w fun e w' => ∃ ov, e = .returned ov ∧ Vals w' ov (l1 ++ l2) ∧ Below w.heap.size w w' := by
  have hP : P < w.heap.size := World.block_lt_of_cell? w _ c1
  have HE1 := Lib.hid h1
  have HE2 := Lib.hid h2
  obtain ⟨n1, hn1⟩ : ∃ n, l1.length = n := ⟨_, rfl⟩
  obtain ⟨n2, hn2⟩ : ∃ n, l2.length = n := ⟨_, rfl⟩
  obtain ⟨⟨a1, p1, rfl, hp1, hm1, -⟩, ho1⟩ := h1
  obtain ⟨⟨a2, p2, rfl, hp2, hm2, -⟩, ho2⟩ := h2
  have HO : Hid (∀ u ∈ l1 ++ l2, u.oneCell' = true) := fun u hu => (List.mem_append.1 hu).elim (ho1 u) (ho2 u)
  unfold maxLen at hm1 hm2
  rw [hn1] at hp1 hl1 c1 HE1
  rw [hn2] at hp2 hl2 c2 HE2
  obtain ⟨s, hs⟩ : ∃ s, n1 + n2 = s := ⟨_, rfl⟩
  have eS : ((n1 : Nat) : Int) + ((n2 : Nat) : Int) = ((s : Nat) : Int) := by omega
  have hs2 : s ≤ 100000 := by omega
  obtain ⟨i0, hi0, hz0, hz1, hz2⟩ := info_parts info_terms
  have Hi0 := Lib.hid (And.intro hi0 (And.intro hz0 (And.intro hz1 hz2)))
  have Hn1 := Lib.hid hn1
  have Hn2 := Lib.hid hn2
  have HS := Lib.hid eS
  have HC1 := Lib.hid c1
  have HC2 := Lib.hid c2
  clear hi0 hz0 hz1 hz2 hn1 hn2 hs eS ho1 ho2
  go_enter Tryz.func42, Tryz.ntmps42
  go_wp2_with fail
  go_loopg [3, 11] 2 (fun k v3 v11 wr => ∃ (i : Nat) (c : Nat), v11 = .int .i64 i ∧ i ≤ 2 ∧ k = 2 - i ∧ v3 = .int .i64 ((c : Nat) : Int) ∧ (i = 0 ∧ c = 0 ∨ i = 1 ∧ c = n1 ∨ i = 2 ∧ c = s) ∧ w = wr)
  case atStart => exact ⟨0, 0, rfl, Nat.zero_le _, rfl, rfl, Or.inl ⟨rfl, rfl⟩, rfl⟩
  case round =>
    obtain ⟨i, c, rfl, hi, hk, rfl, hic, rfl⟩ := hrel
    have Hk := Lib.hid hk
    clear hk
    rcases hic with ⟨rfl, rfl⟩ | ⟨rfl, rfl⟩ | ⟨rfl, rfl⟩
    · go_wp2_with fail
      go_roundg 1
      case rel => exact ⟨1, n1, rfl, by omega, rfl, by go_num, Or.inr (Or.inl ⟨rfl, rfl⟩), rfl⟩
      case measure => have := Hk.out; omega
    · go_wp2_with fail
      go_roundg 0
      case rel => exact ⟨2, s, rfl, by omega, rfl, by rw [← HS.out], Or.inr (Or.inr ⟨rfl, rfl⟩), rfl⟩
      case measure => have := Hk.out; omega
    · go_wp2_with fail
      refine (growL_calls c (by omega) w).mono ?_
      rintro e w1 ⟨ov, rfl, hown, hB⟩
      have Hown := Lib.hid hown
      have HB := Lib.hid hB
      clear hown hB
      go_wp2_with fail
      go_loopg [6, 27] 2 (fun k v6 v27 wr => ∃ (i : Nat) (L : List Value) (ov : Value), ov = v6 ∧ v27 = .int .i64 i ∧ i ≤ 2 ∧ k = 2 - i ∧ (i = 0 ∧ L = [] ∨ i = 1 ∧ L = l1 ∨ i = 2 ∧ L = l1 ++ l2) ∧ wr.ownsRow w.heap.size 26 1 ov L.length L ∧ Below w.heap.size w wr)
      case atStart => exact ⟨0, [], _, rfl, rfl, Nat.zero_le _, rfl, Or.inl ⟨rfl, rfl⟩, Hown.out, HB.out⟩
      case round =>
        obtain ⟨i, L, ov, rfl, rfl, hi, hk, hiL, hown, hB⟩ := hrel
        have Hk2 := Lib.hid hk
        have Hown2 := Lib.hid hown
        have HB2 := Lib.hid hB
        clear hk hown hB
        rcases hiL with ⟨rfl, rfl⟩ | ⟨rfl, rfl⟩ | ⟨rfl, rfl⟩
        · have d1 := (HB2.out.cell (p := ⟨P, 0, none⟩) hP).trans HC1.out
          obtain ⟨v', w', hr, q1, q2⟩ := append_vals Hi0.out Hown2.out (HE1.out.below HB2.out (Nat.le_refl _)) (by have := Hn1.out; simp; omega) HB2.out.size 25
          have Hr := Lib.hid hr
          have HBn := Lib.hid (HB2.out.grown q2 HB2.out.size (fun k e => (Hown2.out.lt k e).1))
          have Hq1 := Lib.hid q1
          clear hr q1 q2
          go_wp2_with (at_builtin; refine Lib.wpList_append_run _ rfl _ _ 25 25 rfl _ _ rfl rfl _ _ Hr.out ?_)
          go_wp2_with fail
          go_roundg 1
          case rel => exact ⟨1, l1, _, rfl, rfl, by omega, rfl, Or.inr (Or.inl ⟨rfl, rfl⟩), Hq1.out, HBn.out⟩
          case measure => have := Hk2.out; omega
        · have d2 := (HB2.out.cell (p := ⟨P, 1, none⟩) hP).trans HC2.out
          obtain ⟨v', w', hr, q1, q2⟩ := append_vals Hi0.out Hown2.out (HE2.out.below HB2.out (Nat.le_refl _)) (by have := Hn1.out; have := Hn2.out; omega) HB2.out.size 25
          have Hr := Lib.hid hr
          have HBn := Lib.hid (HB2.out.grown q2 HB2.out.size (fun k e => (Hown2.out.lt k e).1))
          have Hq1 := Lib.hid q1
          clear hr q1 q2
          go_wp2_with (at_builtin; refine Lib.wpList_append_run _ rfl _ _ 25 25 rfl _ _ rfl rfl _ _ Hr.out ?_)
          go_wp2_with fail
          go_roundg 0
          case rel => exact ⟨2, _, _, rfl, rfl, by omega, rfl, Or.inr (Or.inr ⟨rfl, rfl⟩), Hq1.out, HBn.out⟩
          case measure => have := Hk2.out; omega
        · have HE := Lib.hid (vals_owned Hown2.out HO.out)
          go_wp2_with fail
          go_ret
          exact ⟨_, rfl, HE.out, HB2.out⟩
end Go.Proofs.YtnfnebfioibndaaGreatDoor
