/- Who would miss whom, in plain lists: a step of the closure, and that its end is one. · append(numbers, numbers...), whatever the second ones' address; what a sort leaves in place; the law at a step of a region that draws. · check.Needs' closure: who works, and is not gone. -/
import Derived.Test.YtnfnebfioibndaaGreatDoorM11
import Derived.Test.YtnfnebfioibndaaGreatDoorM15
import Derived.Test.YtnfnebfioibndaaGreatDoorM17
import Derived.Test.YtnfnebfioibndaaGreatDoorM03
import Derived.Sort.OwnSortedInts
namespace Go.Proofs.YtnfnebfioibndaaGreatDoor
open Go.RowKit
set_option maxRecDepth 10000

def needOf (k : KnownD) : List (List TermD) := k.pack.depends ++ k.pack.ahead
/-- The offers of those that work, but some. -/
def leftK (ks : List KnownD) (gone : List Int) (n : Nat) : List BareD := ((List.range n).filter (keepsW ks gone)).map fun i => (ks.getD i KnownD.none).bare
theorem leftK_no {ks : List KnownD} {gone : List Int} {i : Nat} (h : keepsW ks gone i = false) : leftK ks gone (i + 1) = leftK ks gone i := rangeF_no h
theorem leftK_yes {ks : List KnownD} {gone : List Int} {i : Nat} (h : keepsW ks gone i = true) : leftK ks gone (i + 1) = leftK ks gone i ++ [(ks.getD i KnownD.none).bare] := rangeF_yes h
def worksK (ks : List KnownD) : List BareD := (ks.filter (fun k => worksV k.state)).map KnownD.bare
theorem picks_bare (ks : List KnownD) (gone : List Int) (n : Nat) : (picksW ks gone n).map PackD.bare = leftK ks gone n := by
  unfold picksW leftK
  rw [List.map_map]
  rfl
theorem oneP_left (ks : List KnownD) (gone : List Int) : oneP (picksW ks gone ks.length) = oneK (leftK ks gone ks.length) := by rw [oneP_K, picks_bare]
theorem oneP_works (ks : List KnownD) : oneP (picksW ks [] ks.length) = oneK (worksK ks) := by
  rw [oneP_K]
  refine oneK_congr fun b => ?_
  unfold picksW worksK
  refine mem_pairs (fun i hi => ?_) b
  simp [keepsW]
/-- It would miss one of those that are gone. -/
def missB (ks : List KnownD) (gone : List Int) (i : Nat) : Bool :=
  keepsW ks gone i && ((metR (oneK (worksK ks)) (needOf (ks.getD i KnownD.none))).2 && !(metR (oneK (leftK ks gone ks.length)) (needOf (ks.getD i KnownD.none))).2)
def nextG (ks : List KnownD) (gone : List Int) : Option Nat := (List.range ks.length).find? (missB ks gone)
def stepN (ks : List KnownD) (gone : List Int) : List Int :=
  match nextG ks gone with
  | none => gone
  | some i => gone ++ [((i : Nat) : Int)]
def iterN (ks : List KnownD) : Nat → List Int → List Int
  | 0, g => g
  | k + 1, g => stepN ks (iterN ks k g)
theorem stepN_none {ks : List KnownD} {g : List Int} (h : nextG ks g = none) : stepN ks g = g := by unfold stepN; rw [h]
theorem stepN_some {ks : List KnownD} {g : List Int} {i : Nat} (h : nextG ks g = some i) : stepN ks g = g ++ [((i : Nat) : Int)] := by unfold stepN; rw [h]
theorem iterN_stop {ks : List KnownD} {g : List Int} {k : Nat} (h : nextG ks (iterN ks k g) = none) (m : Nat) : iterN ks (k + m) g = iterN ks k g := by
  induction m with
  | zero => rfl
  | succ m ih =>
    show stepN ks (iterN ks (k + m) g) = _
    rw [ih, stepN_none h]
/-- All that are gone when this one is. -/
structure GoneD (ks : List KnownD) (which : Int) (g : List Int) : Prop where
  steps : ∃ k, g = iterN ks k [which]
  lens : g.length + (leftK ks g ks.length).length ≤ ks.length + 1
  pos : 0 < g.length
theorem leftK_le (ks : List KnownD) (g : List Int) : (leftK ks g ks.length).length ≤ ks.length := by
  unfold leftK
  rw [List.length_map]
  exact Nat.le_trans (List.length_filter_le _ _) (by rw [List.length_range]; exact Nat.le_refl _)
theorem GoneD.start (ks : List KnownD) (which : Int) : GoneD ks which [which] := ⟨⟨0, rfl⟩, by have := leftK_le ks [which]; rw [List.length_singleton]; omega, Nat.zero_lt_one⟩
theorem flen_lt {α : Type} {p q : α → Bool} {l : List α} (h : ∀ x ∈ l, p x = true → q x = true) {y : α} (hy : y ∈ l) (hq : q y = true) (hp : p y = false) : (l.filter p).length < (l.filter q).length := by
  induction l with
  | nil => cases hy
  | cons a l ih =>
    have h' : ∀ x ∈ l, p x = true → q x = true := fun x hx => h x (List.mem_cons_of_mem _ hx)
    have hle : (l.filter p).length ≤ (l.filter q).length := by
      clear ih hy h
      induction l with
      | nil => exact Nat.le_refl _
      | cons b l ih2 =>
        have := ih2 (fun x hx => h' x (List.mem_cons_of_mem _ hx))
        have hb := h' b (List.mem_cons_self ..)
        rw [List.filter_cons, List.filter_cons]
        cases e1 : p b
        · cases q b <;> simp <;> omega
        · rw [hb e1]; simp; exact this
    rw [List.filter_cons, List.filter_cons]
    rcases List.mem_cons.1 hy with rfl | hy'
    · rw [hq, hp]
      simp
      omega
    · have := ih h' hy'
      have ha := h a (List.mem_cons_self ..)
      cases e1 : p a
      · cases q a <;> simp <;> omega
      · rw [ha e1]; simp; exact this
theorem keepsW_more {ks : List KnownD} {g : List Int} {i x : Nat} (h : keepsW ks (g ++ [((i : Nat) : Int)]) x = true) : keepsW ks g x = true := by
  unfold keepsW at h ⊢
  rw [List.any_append, Bool.not_or] at h
  simp only [Bool.and_eq_true] at h ⊢
  exact ⟨h.1, h.2.1⟩
theorem missB_at {ks : List KnownD} {g : List Int} {i : Nat} (h : nextG ks g = some i) : i < ks.length ∧ missB ks g i = true := by
  unfold nextG at h
  exact ⟨List.mem_range.1 (List.mem_of_find?_eq_some h), List.find?_some h⟩
theorem left_lt {ks : List KnownD} {g : List Int} {i : Nat} (h : nextG ks g = some i) : (leftK ks (g ++ [((i : Nat) : Int)]) ks.length).length < (leftK ks g ks.length).length := by
  obtain ⟨h1, h2⟩ := missB_at h
  unfold leftK
  rw [List.length_map, List.length_map]
  refine flen_lt (fun x _ hx => keepsW_more hx) (List.mem_range.2 h1) ?_ ?_
  · unfold missB at h2
    rw [Bool.and_eq_true] at h2
    exact h2.1
  · unfold keepsW
    simp
theorem GoneD.next {ks : List KnownD} {which : Int} {g : List Int} (h : GoneD ks which g) {i : Nat} (hi : nextG ks g = some i) : GoneD ks which (g ++ [((i : Nat) : Int)]) := by
  obtain ⟨k, hk⟩ := h.steps
  refine ⟨⟨k + 1, ?_⟩, ?_, by simp⟩
  · show _ = stepN ks (iterN ks k [which])
    rw [← hk, stepN_some hi]
  · have := left_lt hi
    have := h.lens
    rw [List.length_append, List.length_singleton]
    omega
theorem GoneD.eq {ks : List KnownD} {which : Int} {g g' : List Int} (h : GoneD ks which g) (h' : GoneD ks which g') (e : nextG ks g = none) (e' : nextG ks g' = none) : g = g' := by
  obtain ⟨k, rfl⟩ := h.steps
  obtain ⟨l, rfl⟩ := h'.steps
  rcases Nat.le_total k l with hl | hl
  · obtain ⟨m, rfl⟩ := Nat.exists_eq_add_of_le hl
    exact (iterN_stop e m).symm
  · obtain ⟨m, rfl⟩ := Nat.exists_eq_add_of_le hl
    exact iterN_stop e' m

/-! ### the first, from ahead; the first, from behind -/
theorem next_at {ks : List KnownD} {g : List Int} {i : Nat} (hi : i < ks.length) (h : (List.range i).any (missB ks g) = false) (hm : missB ks g i = true) : nextG ks g = some i := by
  unfold nextG
  have e : List.range ks.length = List.range i ++ i :: (List.range' (i + 1) (ks.length - (i + 1))) := by
    obtain ⟨d, hd⟩ : ∃ d, ks.length = i + (d + 1) := ⟨ks.length - (i + 1), by omega⟩
    rw [hd, List.range_eq_range', List.range_eq_range', ← List.range'_append_1, List.range'_succ, show i + (d + 1) - (i + 1) = d by omega]
    simp
  rw [e, List.find?_append]
  have e1 : (List.range i).find? (missB ks g) = none := by
    rw [List.find?_eq_none]
    intro x hx
    rw [List.any_eq_false] at h
    exact h x hx
  rw [e1, List.find?_cons, hm]
  rfl
theorem next_no {ks : List KnownD} {g : List Int} (h : (List.range ks.length).any (missB ks g) = false) : nextG ks g = none := by
  unfold nextG
  rw [List.find?_eq_none]
  intro x hx
  rw [List.any_eq_false] at h
  exact h x hx
theorem anyR_step {p : Nat → Bool} {i : Nat} (h : (List.range i).any p = false) (hp : p i = false) : (List.range (i + 1)).any p = false := by
  rw [List.range_succ, List.any_append, h]
  simp [hp]
/-- Of those from i on, the least that would miss one: -1, if there is none. -/
def LeastN (ks : List KnownD) (g : List Int) (i : Nat) (next : Int) : Prop :=
  (next = -1 ∧ ∀ j, i ≤ j → j < ks.length → missB ks g j = false) ∨ ∃ b : Nat, next = ((b : Nat) : Int) ∧ i ≤ b ∧ b < ks.length ∧ missB ks g b = true ∧ ∀ j, i ≤ j → j < b → missB ks g j = false
theorem LeastN.start (ks : List KnownD) (g : List Int) : LeastN ks g ks.length (-1) := Or.inl ⟨rfl, fun j h1 h2 => by omega⟩
theorem LeastN.keep {ks : List KnownD} {g : List Int} {i : Nat} {x : Int} (h : LeastN ks g (i + 1) x) (hm : missB ks g i = false) : LeastN ks g i x := by
  rcases h with ⟨e, h1⟩ | ⟨b, e, h1, h2, h3, h4⟩
  · refine Or.inl ⟨e, fun j hj hl => ?_⟩
    rcases Nat.eq_or_lt_of_le hj with rfl | hj'
    · exact hm
    · exact h1 j hj' hl
  · refine Or.inr ⟨b, e, by omega, h2, h3, fun j hj hl => ?_⟩
    rcases Nat.eq_or_lt_of_le hj with rfl | hj'
    · exact hm
    · exact h4 j hj' hl
theorem LeastN.take {ks : List KnownD} {g : List Int} {i : Nat} (hi : i < ks.length) (hm : missB ks g i = true) : LeastN ks g i ((i : Nat) : Int) :=
  Or.inr ⟨i, rfl, Nat.le_refl _, hi, hm, fun j h1 h2 => by omega⟩
theorem LeastN.none {ks : List KnownD} {g : List Int} {x : Int} (h : LeastN ks g 0 x) (hx : x < 0) : nextG ks g = Option.none := by
  rcases h with ⟨_, h1⟩ | ⟨b, e, _⟩
  · refine next_no ?_
    rw [List.any_eq_false]
    intro j hj
    rw [h1 j (Nat.zero_le _) (List.mem_range.1 hj)]
    exact Bool.false_ne_true
  · omega
theorem LeastN.some {ks : List KnownD} {g : List Int} {x : Int} (h : LeastN ks g 0 x) (hx : 0 ≤ x) : ∃ b : Nat, x = ((b : Nat) : Int) ∧ b < ks.length ∧ nextG ks g = Option.some b := by
  rcases h with ⟨e, _⟩ | ⟨b, e, _, h2, h3, h4⟩
  · omega
  · refine ⟨b, e, h2, next_at h2 ?_ h3⟩
    rw [List.any_eq_false]
    intro j hj
    rw [h4 j (Nat.zero_le _) (List.mem_range.1 hj)]
    exact Bool.false_ne_true

/-! ### what known leaves out -/
theorem keepsW_strip (ks : List KnownD) (g : List Int) (i : Nat) : keepsW (ks.map KnownD.strip) g i = keepsW ks g i := by
  unfold keepsW
  rw [strip_at]
  rfl
theorem leftK_strip (ks : List KnownD) (g : List Int) (n : Nat) : leftK (ks.map KnownD.strip) g n = leftK ks g n := by
  unfold leftK
  rw [show keepsW (ks.map KnownD.strip) g = keepsW ks g from funext fun i => keepsW_strip ks g i]
  congr 1
  funext i
  rw [strip_at]
  rfl
theorem worksK_strip (ks : List KnownD) : worksK (ks.map KnownD.strip) = worksK ks := filter_strip ks _ (fun _ => rfl)
theorem missB_strip (ks : List KnownD) (g : List Int) (i : Nat) : missB (ks.map KnownD.strip) g i = missB ks g i := by
  unfold missB
  rw [keepsW_strip, worksK_strip, leftK_strip, strip_at, List.length_map]
  rfl
theorem nextG_strip (ks : List KnownD) (g : List Int) : nextG (ks.map KnownD.strip) g = nextG ks g := by
  unfold nextG
  rw [List.length_map, show missB (ks.map KnownD.strip) g = missB ks g from funext fun i => missB_strip ks g i]
theorem iterN_strip (ks : List KnownD) (k : Nat) (g : List Int) : iterN (ks.map KnownD.strip) k g = iterN ks k g := by
  induction k with
  | zero => rfl
  | succ k ih =>
    show stepN _ (iterN _ k g) = stepN _ (iterN _ k g)
    rw [ih]
    unfold stepN
    rw [nextG_strip]
theorem GoneD.strip {ks : List KnownD} {which : Int} {g : List Int} (h : GoneD (ks.map KnownD.strip) which g) : GoneD ks which g := by
  obtain ⟨k, hk⟩ := h.steps
  refine ⟨⟨k, by rw [hk, iterN_strip]⟩, ?_, h.pos⟩
  have := h.lens
  rwa [List.length_map, leftK_strip] at this
end Go.Proofs.YtnfnebfioibndaaGreatDoor
namespace Go.Proofs.YtnfnebfioibndaaGreatDoor
open Go.RowKit Go.Sort
set_option maxRecDepth 100000
set_option maxHeartbeats 2000000

def sortZ (l : List Int) : List Int := l.mergeSort fun x y => decide (x ≤ y)
theorem sortZ_len (l : List Int) : (sortZ l).length = l.length := by simp [sortZ]
theorem append_ints {i0 : TypeInfo} (h0 : Tryz.prog.info? 3 = some i0 ∧ i0.zero = some (.int .i64 0) ∧ i0.size = 1 ∧ i0.bytes = 8) {w : World} {base : Nat} {ov v : Value} {L l : List Int} (hown : w.ownsRow base 3 1 ov L.length (L.map (Value.int .i64))) (hE : Ints w v l) (hL : L.length + l.length ≤ 1000000) (hb : base ≤ w.heap.size) (ty : TypeId) :
    ∃ v' w', (Builtin.append_ #[31, 31] ty #[ov, v]).run Tryz.prog w = .ok v' w' ∧ w'.ownsRow base 3 1 v' (L ++ l).length ((L ++ l).map (Value.int .i64)) ∧ w.grownBy w' ov.ownBlock := by
  obtain ⟨⟨a, c, rfl, h1, h2, h3⟩, -⟩ := hE
  rcases Nat.eq_zero_or_pos l.length with hz | hp
  · have hl : l = [] := List.length_eq_zero_iff.1 hz
    subst hl
    refine ⟨ov, w, ?_, by simpa using hown, World.grownBy.refl w _⟩
    exact run_append_zero w base _ ty 3 i0 1 Tryz.underlying31 h0.1 ov _ _ hown a c
  · obtain ⟨b, o, rfl, hlt, hc⟩ := h3.resolve_left (by omega)
    have hnews : ∀ j u, (l.map (Value.int .i64))[j]? = some u → w.cell? ((⟨b, o, none⟩ : Addr).add j) = some u := by
      intro j u hu
      have hj : j < l.length := by
        rcases Nat.lt_or_ge j l.length with h | h
        · exact h
        · rw [List.getElem?_eq_none (by simpa using h)] at hu; cases hu
      have := hc j 0 hj (by decide)
      rw [Nat.mul_one, Nat.add_zero] at this
      rw [addr_add, this]
      rw [List.getElem?_map, List.getElem?_eq_getElem hj] at hu
      simp [List.getD, List.getElem?_eq_getElem hj] at hu ⊢
      exact hu
    obtain ⟨v', w', hr, q1, q2, _⟩ := run_append_own_at (P := Tryz.prog) w base 31 ty 3 i0 _ 1 8 Tryz.underlying31 h0.1 h0.2.1 h0.2.2.1 h0.2.2.2 rfl (by decide) ov L.length (L.map (Value.int .i64)) hown ⟨b, o, none⟩ l.length c (l.map (Value.int .i64)) (by simp) hnews (fun u hu => by obtain ⟨x, _, rfl⟩ := List.mem_map.1 hu; rfl) (by unfold maxLen; omega) (by omega) hb
    refine ⟨v', w', hr, ?_, q2⟩
    rw [List.length_append, List.map_append]
    exact q1

theorem step_append_run {P : Program} {w : World} {ops : Array Oper} {o : Oper} {a : Act} {K : Act → World → Prop} {Q : Exit → Act → World → Prop} {E : Prop} (hgd : o.guard = none) (s x : Operand) (t : TypeId)
    (ho : o.op = .call { callee := .builtin .append, args := #[s, x], argTypes := #[t, t] }) (vs vx : Value) (hs : a.eval s = vs) (hx : a.eval x = vx)
    (v' : Value) (w' : World) (hr : (Builtin.append_ #[t, t] o.type #[vs, vx]).run P w = .ok v' w') (h : K (a.put o.dst v') w') :
    if Region.wanted o (yielded ops a.tmps) = true then Oper.wp P o a w K Q else E := by
  have hw : Region.wanted o (yielded ops a.tmps) = true := by simp [Region.wanted, hgd]
  rw [if_pos hw]
  exact Lib.wp_append_run w s x t t ho vs vx hs hx v' w' hr h

/-- Numbers of a block of the call's own, sorted where they lie. -/
structure OwnI (base : Nat) (w : World) (g o : Nat) (l : List Int) : Prop where
  le : base ≤ g
  lt : g < w.heap.size
  hold : Holds (Value.int .i64) w g o l.toArray
theorem OwnI.of_row {base : Nat} {w : World} {g n cap o : Nat} {l : List Int} (h : w.ownsRow base 3 1 (.slice (some ⟨g, 0, none⟩) n cap) n (l.map (Value.int .i64))) (ho : o ≤ n) : OwnI base w g o (l.drop o) := by
  rcases h.2 with ⟨e, _⟩ | ⟨g', cap', cur, e, hbase, hg, h1, h2, h3, h4⟩
  · cases e
  · injection e with e1 e2 e3
    injection e1 with e1
    injection e1 with e1
    subst e1 e3
    have hn : l.length = n := by have := h.1; simpa using this
    have hgl : g < w.heap.size := by
      rcases Nat.lt_or_ge g w.heap.size with h' | h'
      · exact h'
      · rw [Array.getElem?_eq_none h'] at hg; cases hg
    refine ⟨hbase, hgl, fun j hj => ?_⟩
    have hj' : o + j < l.length := by
      have : j < l.length - o := by simpa using hj
      omega
    refine ⟨?_, by simp [World.frozen?, hg]⟩
    have h5 := h.cellAt (o + j) (by omega)
    rw [h5]
    simp [List.getElem?_map, List.getElem?_eq_getElem hj']
theorem OwnI.sorted {base : Nat} {w : World} {g o c : Nat} {l : List Int} (h : OwnI base w g o l) (hc : l.length ≤ c) (hm : c ≤ maxLen) {n : Nat} {os : Array Obj} {w' : World} (hw : w' = grow (putRow (Value.int .i64) (Sort.ahead w n) g o (sortZ l).toArray) os) :
    Ints w' (.slice (some ⟨g, o, none⟩) l.length c) (sortZ l) ∧ w.grownBy w' (some g) := by
  subst hw
  have hg : w.grownBy (grow (putRow (Value.int .i64) (Sort.ahead w n) g o (sortZ l).toArray) os) (some g) := by
    refine ⟨rfl, rfl, rfl, by simp, fun k hk hne => ?_⟩
    rw [heap_grow_old _ _ (by simpa using hk)]
    have : g ≠ k := fun e => hne (by rw [e])
    simp [putRow, mapBlock, Sort.ahead, Array.getElem?_modify, this]
  refine ⟨⟨⟨some ⟨g, o, none⟩, c, by rw [sortZ_len], by rw [sortZ_len]; exact hc, hm, Or.inr ⟨g, o, rfl, Nat.lt_of_lt_of_le h.lt hg.size, fun i j hi hj => ?_⟩⟩, trivial⟩, hg⟩
  obtain rfl : j = 0 := by omega
  rw [Nat.mul_one, Nat.add_zero]
  have hh : Holds (Value.int .i64) (Sort.ahead w n) g o l.toArray := h.hold
  have h1 := cell?_putRow (Value.int .i64) (Sort.ahead w n) g o l.toArray (sortZ l).toArray hh (by simp [sortZ_len]) i (by simpa using hi)
  have h2 : (grow (putRow (Value.int .i64) (Sort.ahead w n) g o (sortZ l).toArray) os).cell? ⟨g, o + i, none⟩ = (putRow (Value.int .i64) (Sort.ahead w n) g o (sortZ l).toArray).cell? ⟨g, o + i, none⟩ :=
    World.cell?_of_block (a := ⟨g, o + i, none⟩) (heap_grow_old _ _ (by simpa using h.lt))
  rw [h2, h1]
  simp [List.getD, List.getElem?_eq_getElem hi]
def NeedsR (w : World) (ks : List KnownD) (which : Nat) (e : Ending) (w' : World) : Prop :=
  ∃ (ov : Value) (g : List Int), e = .returned ov ∧ GoneD ks ((which : Nat) : Int) g ∧ nextG ks g = none ∧ Ints w' ov (sortZ g.tail) ∧ Below w.heap.size w w'
theorem leftK_mem {ks : List KnownD} {g : List Int} {n : Nat} (hn : n ≤ ks.length) {b : BareD} (h : b ∈ leftK ks g n) : ∃ k ∈ ks, k.bare = b := by
  unfold leftK at h
  obtain ⟨i, hi, rfl⟩ := List.mem_map.1 h
  have := List.mem_range.1 (List.mem_filter.1 hi).1
  exact ⟨_, mem_getD _ (by omega), rfl⟩
theorem worksK_mem {ks : List KnownD} {b : BareD} (h : b ∈ worksK ks) : ∃ k ∈ ks, k.bare = b := by
  unfold worksK at h
  obtain ⟨k, hk, rfl⟩ := List.mem_map.1 h
  exact ⟨k, (List.mem_filter.1 hk).1, rfl⟩
/-- gone[1:]. -/
theorem tail_ints {base : Nat} {w : World} {g n cap : Nat} {l : List Int} (h : w.ownsRow base 3 1 (.slice (some ⟨g, 0, none⟩) n cap) n (l.map (Value.int .i64))) (hn : 0 < n) : l.length = n ∧ n ≤ cap ∧ cap ≤ 9223372036854775807 ∧ (n = cap → n = 1 → l.tail = []) ∧ Ints w (.slice (some ⟨g, 1, none⟩) (n - 1) (cap - 1)) l.tail := by
  have h0 := h
  rcases h.2 with ⟨e, _⟩ | ⟨g', cap', cur, e, hbase, hg, h1, h2, h3, h4⟩
  · cases e
  · injection e with e1 e2 e3
    injection e1 with e1
    injection e1 with e1
    subst e1 e3
    have hl : l.length = n := by have := h.1; simpa using this
    have hgl : g < w.heap.size := by
      rcases Nat.lt_or_ge g w.heap.size with h' | h'
      · exact h'
      · rw [Array.getElem?_eq_none h'] at hg; cases hg
    have hc := h2
    unfold maxLen at hc
    refine ⟨hl, h1, hc, fun _ hn1 => List.eq_nil_of_length_eq_zero (by simp; omega), ⟨⟨_, cap - 1, by simp [hl], by simp; omega, by omega, Or.inr ⟨g, 1, rfl, hgl, fun i j hi hj => ?_⟩⟩, trivial⟩⟩
    obtain rfl : j = 0 := by omega
    have hi' : i + 1 < l.length := by simp at hi; omega
    have h5 := h0.cellAt (i + 1) (by omega)
    rw [Nat.mul_one, Nat.add_zero, Nat.add_comm 1 i, h5]
    simp [List.getElem?_map, List.getElem?_eq_getElem hi', List.getD]
end Go.Proofs.YtnfnebfioibndaaGreatDoor
namespace Go.Proofs.YtnfnebfioibndaaGreatDoor
open Go.RowKit
set_option maxRecDepth 100000
set_option maxHeartbeats 4000000

theorem contains_ints (v : Value) (xs : List Int) (x : Int) (w : World) (h : Ints w v xs) (hl : xs.length ≤ 100000) :
    Calls Tryz.prog 41 #[v, .int .i64 x] w fun e w' => e = .returned (.bool (xs.any (· == x))) ∧ w' = w := by
  have hx : xs.any (· == x) = xs.contains x := by
    rw [Bool.eq_iff_iff, List.any_eq_true, List.contains_iff_mem]
    exact ⟨fun ⟨y, h1, h2⟩ => by rw [← beq_iff_eq.1 h2]; exact h1, fun h => ⟨x, h, by simp⟩⟩
  rw [hx]
  obtain ⟨⟨a, c, rfl, h1, h2, h3⟩, -⟩ := h
  rcases Nat.eq_zero_or_pos xs.length with hz | hp
  · have hx : xs = [] := List.length_eq_zero_iff.1 hz
    subst hx
    exact Tryz.slices_Contains_int_empty a c x w
  · obtain ⟨b, o, rfl, hb, hc⟩ := h3.resolve_left (by omega)
    have := Tryz.slices_Contains_int b o xs.length c xs x w (Nat.le_refl _) (by omega) (fun j hj => by
      have := hc j 0 hj (by decide)
      rw [Nat.mul_one, Nat.add_zero] at this
      exact this)
    rwa [List.take_of_length_le (Nat.le_refl _)] at this

theorem left_calls (i : Nat) (ks : List KnownD) (gone : List Int) (gv kv : Value) (Bg Bl : Nat) (w : World) (hg : w.cell? ⟨Bg, 0, none⟩ = some gv) (hl : w.cell? ⟨Bl, 0, none⟩ = some kv) (hG : Ints w gv gone) (hK : Knowns w kv ks) (hi : i < ks.length) (hlen : gone.length ≤ 100000) :
    Calls Tryz.prog 40 #[.int .i64 ((i : Nat) : Int), .pointer (some ⟨Bg, 0, none⟩), .pointer (some ⟨Bl, 0, none⟩)] w fun e w' => e = .returned (.bool (keepsW ks gone i)) ∧ Below w.heap.size w w' := by
  have lBg := World.block_lt_of_cell? w _ hg
  have lBl := World.block_lt_of_cell? w _ hl
  obtain ⟨R, ⟨a, cap, rfl, hcap, hmax, hcell⟩, hO⟩ := hK
  obtain ⟨b, o, rfl, hb, hc⟩ := hcell.resolve_left (by omega)
  obtain ⟨q, hq⟩ : ∃ q, ks.getD i KnownD.none = q := ⟨_, rfl⟩
  have hkn := hO i hi
  rw [hq] at hkn
  have c0 : w.cell? ⟨b, o + i * 20, none⟩ = some (.int .i64 q.state) := by
    have := hc i 0 hi (by decide)
    rw [hkn.state] at this
    exact this
  have CC := Lib.hid (contains_ints gv gone ((i : Nat) : Int) w hG hlen)
  obtain ⟨ga, gm, gc, rfl⟩ : ∃ a m c, gv = .slice a m c := hG.1.slice
  obtain ⟨m, hm⟩ : ∃ m, ks.length = m := ⟨_, rfl⟩
  rw [hm] at hi hcap hl
  unfold maxLen at hmax
  have CW := fun W => works_calls q.state W
  have HC := Lib.hid CW
  have HE : Hid (keepsW ks gone i = (!(gone.any (· == ((i : Nat) : Int))) && worksV q.state)) := by
    show _ = _
    unfold keepsW
    rw [hq, Bool.and_comm]
  clear hG hc hO hcell hkn hq hm CW
  cases hn : gone.any (· == ((i : Nat) : Int))
  · rw [hn] at CC
    have HN := Lib.hid hn
    clear hn
    go_enter Tryz.func40, Tryz.ntmps40
    go_wp2_with fail
    refine CC.out.mono ?_
    rintro e w1 ⟨rfl, rfl⟩
    go_wp2_with fail
    refine (HC.out _).mono ?_
    rintro e w2 ⟨rfl, rfl⟩
    go_wp2_with fail
    go_ret
    exact ⟨ret_bool (by rw [HE.out, HN.out]; rfl), by go_grown⟩
  · rw [hn] at CC
    have HN := Lib.hid hn
    clear hn
    go_enter Tryz.func40, Tryz.ntmps40
    go_wp2_with fail
    refine CC.out.mono ?_
    rintro e w1 ⟨rfl, rfl⟩
    go_wp2_with fail
    go_ret
    exact ⟨ret_bool (by rw [HE.out, HN.out]; rfl), by go_grown⟩
end Go.Proofs.YtnfnebfioibndaaGreatDoor
