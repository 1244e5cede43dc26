/- Who comes ahead stands ahead: in plain Lean. · The edges of those that are about to do what they are there for: the program's list and the document's have the same members; so the rings, and the lines, are the same. -/
import Derived.Test.YtnfnebfioibndaaGreatDoorM22
import Derived.Test.YtnfnebfioibndaaGreatDoorM18
import Derived.Test.YtnfnebfioibndaaGreatDoorM26
namespace Go.Proofs.YtnfnebfioibndaaGreatDoor
set_option maxRecDepth 10000

section
variable {E : Nat → Nat → Prop} {n : Nat} {rings : List (List Nat)}
theorem ord_lt (h : InOrder E n rings) {i : Nat} {S : List Nat} (hS : rings[i]? = some S) {a : Nat} (ha : a ∈ S) : a < n := ((h i S hS).free a ha).lt
theorem ord_nodup (h : InOrder E n rings) {i : Nat} {S : List Nat} (hS : rings[i]? = some S) : S.Nodup := (h i S hS).ring.sorted.imp (fun h e => by rw [e] at h; omega)
theorem ord_apart (h : InOrder E n rings) {i j : Nat} {S T : List Nat} {a : Nat} (hi : rings[i]? = some S) (hj : rings[j]? = some T) (hij : i < j) (ha : a ∈ S) (hb : a ∈ T) : False := by
  refine ((h j T hj).free a hb).un ⟨S, ?_, ha⟩
  refine List.mem_of_getElem? (i := i) ?_
  rw [List.getElem?_take_of_lt hij, hi]
theorem flat_nodup (h : InOrder E n rings) : rings.flatten.Nodup := by
  unfold List.Nodup
  rw [List.pairwise_flatten]
  refine ⟨fun S hS => ?_, ?_⟩
  · obtain ⟨i, hi, rfl⟩ := List.getElem_of_mem hS
    exact ord_nodup h (List.getElem?_eq_getElem hi)
  · rw [List.pairwise_iff_getElem]
    intro i j hi hj hij x hx y hy e
    subst e
    exact ord_apart h (List.getElem?_eq_getElem hi) (List.getElem?_eq_getElem hj) hij hx hy
theorem flat_mem (h : InOrder E n rings) (hA : AllTold n rings) (v : Nat) : v ∈ rings.flatten ↔ v < n := by
  rw [List.mem_flatten]
  constructor
  · rintro ⟨S, hS, hv⟩
    obtain ⟨i, hi, rfl⟩ := List.getElem_of_mem hS
    exact ord_lt h (List.getElem?_eq_getElem hi) hv
  · intro hv
    exact hA v hv
theorem flat_len (h : InOrder E n rings) (hA : AllTold n rings) : rings.flatten.length = n := by
  have := (List.perm_ext_iff_of_nodup (flat_nodup h) List.nodup_range).2 fun v => (flat_mem h hA v).trans List.mem_range.symm
  rw [this.length_eq, List.length_range]
theorem lines_perm (strong : List EdgeD) (rings : List (List Nat)) : (linesOf strong rings).Perm rings.flatten := by
  induction rings with
  | nil => exact List.Perm.refl _
  | cons r rs ih =>
    have : linesOf strong (r :: rs) = lineOf strong r ++ linesOf strong rs := by simp [linesOf]
    rw [this, List.flatten_cons]
    exact (lineOf_perm strong r).append ih
theorem lines_nodup (h : InOrder E n rings) (strong : List EdgeD) : (linesOf strong rings).Nodup := (lines_perm strong rings).nodup_iff.2 (flat_nodup h)
theorem lines_len (h : InOrder E n rings) (hA : AllTold n rings) (strong : List EdgeD) : (linesOf strong rings).length = n := (lines_perm strong rings).length_eq.trans (flat_len h hA)
theorem lines_mem (h : InOrder E n rings) (hA : AllTold n rings) (strong : List EdgeD) (v : Nat) : v ∈ linesOf strong rings ↔ v < n := ((lines_perm strong rings).mem_iff).trans (flat_mem h hA v)

theorem edge_le (h : InOrder E n rings) {x y : Nat} (he : E x y) {i j : Nat} {S T : List Nat} (hS : rings[i]? = some S) (hx : x ∈ S) (hT : rings[j]? = some T) (hy : y ∈ T) : i ≤ j := by
  rcases Nat.lt_or_ge j i with hji | hge
  · exfalso
    have hun : ¬ ToldIn (rings.take j) x := by
      rintro ⟨S', hS', hx'⟩
      obtain ⟨k, hk, rfl⟩ := List.getElem_of_mem hS'
      rw [List.length_take] at hk
      have e : rings[k]? = some (rings.take j)[k] := by
        rw [List.getElem_take]
        exact List.getElem?_eq_getElem (by omega)
      exact ord_apart h e hS (by omega) hx' hx
    have hN := h j T hT
    have hr := (hN.free y hy).ahead x (ord_lt h hS hx) hun (Rch.one he)
    have hxT : x ∈ T := (hN.ring.mem y hy x).2 ⟨hr, Rch.one he⟩
    exact ord_apart h hT hS hji hxT hx
  · exact hge

/-- x stands ahead of y. -/
def Before (xs : List Nat) (x y : Nat) : Prop := ∃ p q : Nat, xs[p]? = some x ∧ xs[q]? = some y ∧ p < q
theorem Before.cons {xs : List Nat} {x y : Nat} (h : Before xs x y) (v : Nat) : Before (v :: xs) x y := by
  obtain ⟨p, q, h1, h2, h3⟩ := h
  exact ⟨p + 1, q + 1, by simpa using h1, by simpa using h2, by omega⟩
theorem Before.head {xs : List Nat} {x y : Nat} (h : y ∈ xs) : Before (x :: xs) x y := by
  obtain ⟨q, hq, e⟩ := List.getElem_of_mem h
  exact ⟨0, q + 1, rfl, by simp [List.getElem?_eq_getElem hq, e], by omega⟩
theorem Before.left {xs : List Nat} {x y : Nat} (h : Before xs x y) (us : List Nat) : Before (us ++ xs) x y := by
  obtain ⟨p, q, h1, h2, h3⟩ := h
  exact ⟨us.length + p, us.length + q, by rw [List.getElem?_append_right (by omega)]; simpa using h1, by rw [List.getElem?_append_right (by omega)]; simpa using h2, by omega⟩
theorem Before.right {xs : List Nat} {x y : Nat} (h : Before xs x y) (bs : List Nat) : Before (xs ++ bs) x y := by
  obtain ⟨p, q, h1, h2, h3⟩ := h
  have hp := (List.getElem?_eq_some_iff.1 h1).1
  have hq := (List.getElem?_eq_some_iff.1 h2).1
  exact ⟨p, q, by rw [List.getElem?_append_left hp]; exact h1, by rw [List.getElem?_append_left hq]; exact h2, h3⟩
theorem Before.cross {us bs : List Nat} {x y : Nat} (hx : x ∈ us) (hy : y ∈ bs) : Before (us ++ bs) x y := by
  obtain ⟨p, hp, e1⟩ := List.getElem_of_mem hx
  obtain ⟨q, hq, e2⟩ := List.getElem_of_mem hy
  exact ⟨p, us.length + q, by rw [List.getElem?_append_left hp, List.getElem?_eq_getElem hp, e1], by rw [List.getElem?_append_right (by omega)]; simp [List.getElem?_eq_getElem hq, e2], by omega⟩

theorem linesOf_append (strong : List EdgeD) (us bs : List (List Nat)) : linesOf strong (us ++ bs) = linesOf strong us ++ linesOf strong bs := by simp [linesOf]
theorem mem_lines {strong : List EdgeD} {rings : List (List Nat)} {S : List Nat} (hS : S ∈ rings) {x : Nat} (hx : x ∈ S) : x ∈ linesOf strong rings := (lines_perm strong rings).mem_iff.2 (List.mem_flatten.2 ⟨S, hS, hx⟩)
theorem rings_before (strong : List EdgeD) {i j : Nat} {S T : List Nat} (hS : rings[i]? = some S) (hT : rings[j]? = some T) (hij : i < j) {x y : Nat} (hx : x ∈ S) (hy : y ∈ T) : Before (linesOf strong rings) x y := by
  rw [show rings = rings.take j ++ rings.drop j from (List.take_append_drop j rings).symm, linesOf_append]
  refine Before.cross (mem_lines (S := S) ?_ hx) (mem_lines (S := T) ?_ hy)
  · exact List.mem_of_getElem? (i := i) (by rw [List.getElem?_take_of_lt hij, hS])
  · exact List.mem_of_getElem? (i := 0) (by rw [List.getElem?_drop]; simpa using hT)
theorem ring_before (strong : List EdgeD) {i : Nat} {S : List Nat} (hS : rings[i]? = some S) {x y : Nat} (h : Before (lineOf strong S) x y) : Before (linesOf strong rings) x y := by
  have hi := (List.getElem?_eq_some_iff.1 hS).1
  have e : rings = rings.take i ++ (S :: rings.drop (i + 1)) := by
    have h2 := (List.getElem?_eq_some_iff.1 hS).2
    rw [← h2, ← List.drop_eq_getElem_cons hi, List.take_append_drop]
  rw [e, linesOf_append]
  refine Before.left ?_ _
  have : linesOf strong (S :: rings.drop (i + 1)) = lineOf strong S ++ linesOf strong (rings.drop (i + 1)) := by simp [linesOf]
  rw [this]
  exact h.right _
end

/-! ### no rings of strong edges -/
theorem ones_of_len : ∀ {L : List (List Nat)}, (∀ S ∈ L, S ≠ []) → L.flatten.length ≤ L.length → ∀ S ∈ L, S.length = 1
  | [], _, _ => fun _ h => by cases h
  | A :: L, hne, hl => by
    have hge : ∀ {M : List (List Nat)}, (∀ S ∈ M, S ≠ []) → M.length ≤ M.flatten.length := by
      intro M
      induction M with
      | nil => intro _; exact Nat.le_refl _
      | cons B M ih =>
        intro hM
        have h1 := ih (fun S hS => hM S (List.mem_cons_of_mem _ hS))
        have h2 := List.length_pos_iff.2 (hM B (List.mem_cons_self ..))
        rw [List.flatten_cons, List.length_append, List.length_cons]
        omega
    have h1 := hge (fun S hS => hne S (List.mem_cons_of_mem _ hS))
    have h2 := List.length_pos_iff.2 (hne A (List.mem_cons_self ..))
    rw [List.flatten_cons, List.length_append, List.length_cons] at hl
    intro S hS
    rcases List.mem_cons.1 hS with rfl | hS
    · omega
    · exact ones_of_len (fun S hS => hne S (List.mem_cons_of_mem _ hS)) (by omega) S hS
/-- Each has its height; strong edges go up. -/
def Heights (strong : List EdgeD) (n : Nat) (pos : Nat → Nat) : Prop := ∀ x y : Nat, EdL strong x y → x < n → y < n → x ≠ y → pos x < pos y
theorem heights_of {strong : List EdgeD} {n : Nat} {alone : List (List Nat)} (h : InOrder (EdL strong) n alone) (hA : AllTold n alone) (hl : n ≤ alone.length) : ∃ pos, Heights strong n pos := by
  have hone := ones_of_len (L := alone) (fun S hS => by
    obtain ⟨i, hi, rfl⟩ := List.getElem_of_mem hS
    exact (h i _ (List.getElem?_eq_getElem hi)).ring.ne) (by rw [flat_len h hA]; exact hl)
  refine ⟨fun v => (alone.findIdx fun S => decide (v ∈ S)), fun x y he hx hy hne => ?_⟩
  have key : ∀ v, v < n → ∃ S, alone[alone.findIdx fun S => decide (v ∈ S)]? = some S ∧ v ∈ S := by
    intro v hv
    obtain ⟨S, hS, hvS⟩ := hA v hv
    have hlt : (alone.findIdx fun S => decide (v ∈ S)) < alone.length := List.findIdx_lt_length_of_exists ⟨S, hS, by simpa using hvS⟩
    refine ⟨alone[alone.findIdx fun S => decide (v ∈ S)], List.getElem?_eq_getElem hlt, ?_⟩
    have := List.findIdx_getElem (w := hlt)
    simpa using this
  obtain ⟨S, hS, hxS⟩ := key x hx
  obtain ⟨T, hT, hyT⟩ := key y hy
  have hle := edge_le h he hS hxS hT hyT
  show (alone.findIdx fun S => decide (x ∈ S)) < (alone.findIdx fun S => decide (y ∈ S))
  rcases Nat.lt_or_ge (alone.findIdx fun S => decide (x ∈ S)) (alone.findIdx fun S => decide (y ∈ S)) with h' | h'
  · exact h'
  · exfalso
    have e := Nat.le_antisymm hle h'
    rw [e, hT] at hS
    injection hS with hS
    subst hS
    have h1 := hone T (List.mem_of_getElem? hT)
    obtain ⟨a, rfl⟩ := List.length_eq_one_iff.1 h1
    rw [List.mem_singleton] at hxS hyT
    exact hne (hxS.trans hyT.symm)
theorem exists_low (pos : Nat → Nat) : ∀ {L : List Nat}, L ≠ [] → ∃ v ∈ L, ∀ u ∈ L, pos v ≤ pos u
  | [], h => absurd rfl h
  | [a], _ => ⟨a, List.mem_singleton.2 rfl, fun u hu => by rw [List.mem_singleton.1 hu]; exact Nat.le_refl _⟩
  | a :: b :: L, _ => by
    obtain ⟨v, hv, hm⟩ := exists_low pos (L := b :: L) (by simp)
    by_cases h : pos a ≤ pos v
    · refine ⟨a, List.mem_cons_self .., fun u hu => ?_⟩
      rcases List.mem_cons.1 hu with rfl | hu
      · exact Nat.le_refl _
      · exact Nat.le_trans h (hm u hu)
    · refine ⟨v, List.mem_cons_of_mem _ hv, fun u hu => ?_⟩
      rcases List.mem_cons.1 hu with rfl | hu
      · omega
      · exact hm u hu
theorem badV_iff {strong : List EdgeD} {L : List Nat} {v : Nat} : badV strong L v = true ↔ ∃ u ∈ L, u ≠ v ∧ EdL strong u v := by
  unfold badV EdL
  simp only [List.any_eq_true, Bool.and_eq_true, beq_iff_eq, Bool.not_eq_true', beq_eq_false_iff_ne, List.contains_iff_mem, List.mem_map]
  constructor
  · rintro ⟨⟨a, b⟩, he, h1, h2, u, hu, h3⟩
    simp only at h1 h2 h3
    subst h1
    subst h3
    exact ⟨u, hu, by omega, he⟩
  · rintro ⟨u, hu, hne, he⟩
    exact ⟨_, he, rfl, by simp only; omega, u, hu, rfl⟩
theorem pick_good {strong : List EdgeD} {n : Nat} {pos : Nat → Nat} (hp : Heights strong n pos) {L : List Nat} (hL : L ≠ []) (hn : ∀ v ∈ L, v < n) : badV strong L (L.getD (pickK strong L) 0) = false := by
  obtain ⟨v, hv, hm⟩ := exists_low pos hL
  have hgood : badV strong L v = false := by
    cases hb : badV strong L v
    · rfl
    · obtain ⟨u, hu, hne, he⟩ := badV_iff.1 hb
      have := hp u v he (hn u hu) (hn v hv) hne
      have := hm u hu
      omega
  unfold pickK
  cases e : L.findIdx? fun v => !badV strong L v with
  | none =>
    have := List.findIdx?_eq_none_iff.1 e v hv
    rw [hgood] at this
    cases this
  | some k =>
    obtain ⟨hk, h1, _⟩ := List.findIdx?_eq_some_iff_getElem.1 e
    simp [List.getD, List.getElem?_eq_getElem hk]
    simpa using h1
theorem line_before {strong : List EdgeD} {n : Nat} {pos : Nat → Nat} (hp : Heights strong n pos) {x y : Nat} (he : EdL strong x y) (hne : x ≠ y) : ∀ {m : Nat} {L : List Nat}, L.length = m → L.Nodup → (∀ v ∈ L, v < n) → x ∈ L → y ∈ L → Before (lineOf strong L) x y
  | 0, L, hm, _, _, hx, _ => by rw [List.length_eq_zero_iff.1 hm] at hx; cases hx
  | m + 1, L, hm, hnd, hn, hx, hy => by
    have hL : L ≠ [] := by intro e; rw [e] at hx; cases hx
    have hK := pickK_lt strong hL
    have hg := pick_good hp hL hn
    rw [lineOf_step strong hL]
    have hget : L.getD (pickK strong L) 0 = L[pickK strong L] := by simp [List.getD, List.getElem?_eq_getElem hK]
    have hsub : ∀ v ∈ L.eraseIdx (pickK strong L), v ∈ L := fun v hv => (List.eraseIdx_sublist L _).subset hv
    have hrest : ∀ v ∈ L, v ≠ L.getD (pickK strong L) 0 → v ∈ L.eraseIdx (pickK strong L) := by
      intro v hv hvne
      obtain ⟨i, hi, e⟩ := List.getElem_of_mem hv
      refine List.mem_eraseIdx_iff_getElem.2 ⟨i, hi, fun e' => hvne ?_, e⟩
      subst e'
      rw [hget, e]
    have hyp : y ≠ L.getD (pickK strong L) 0 := by
      intro e
      have : badV strong L y = true := badV_iff.2 ⟨x, hx, hne, he⟩
      rw [e, hg] at this
      cases this
    by_cases hxp : x = L.getD (pickK strong L) 0
    · rw [← hxp]
      refine Before.head ((lineOf_perm strong _).mem_iff.2 ?_)
      exact hrest y hy hyp
    · refine Before.cons (line_before hp he hne (m := m) (by rw [List.length_eraseIdx, if_pos hK, hm]; rfl) (hnd.sublist (List.eraseIdx_sublist L _)) (fun v hv => hn v (hsub v hv)) (hrest x hx hxp) (hrest y hy hyp)) _

/-- In line, by strong edges without rings. -/
theorem strong_before {weak strong : List EdgeD} {n : Nat} {rings alone : List (List Nat)} (h : InOrder (EdL (weak ++ strong)) n rings) (hA : AllTold n rings) (k : InOrder (EdL strong) n alone) (kA : AllTold n alone) (hl : n ≤ alone.length) {x y : Nat} (he : EdL strong x y) (hx : x < n) (hy : y < n) (hne : x ≠ y) : Before (linesOf strong rings) x y := by
  obtain ⟨pos, hp⟩ := heights_of k kA hl
  obtain ⟨S, hS, hxS⟩ := hA x hx
  obtain ⟨T, hT, hyT⟩ := hA y hy
  obtain ⟨i, hi, e1⟩ := List.getElem_of_mem hS
  obtain ⟨j, hj, e2⟩ := List.getElem_of_mem hT
  have gi : rings[i]? = some S := by rw [List.getElem?_eq_getElem hi, e1]
  have gj : rings[j]? = some T := by rw [List.getElem?_eq_getElem hj, e2]
  have hle := edge_le h (show EdL (weak ++ strong) x y from List.mem_append_right _ he) gi hxS gj hyT
  rcases Nat.lt_or_ge i j with hij | hij
  · exact rings_before strong gi gj hij hxS hyT
  · have e := Nat.le_antisymm hle hij
    subst e
    rw [gi] at gj
    injection gj with gj
    subst gj
    exact ring_before strong gi (line_before hp he hne rfl (ord_nodup h gi) (fun v hv => ord_lt h gi hv) hxS hyT)
end Go.Proofs.YtnfnebfioibndaaGreatDoor
namespace Go.Proofs.YtnfnebfioibndaaGreatDoor
open Go.RowKit
set_option maxRecDepth 10000

def fm {α : Type} (n : Nat) (f : Nat → List α) : List α := (List.range n).flatMap f
theorem fm_zero {α : Type} (f : Nat → List α) : fm 0 f = [] := rfl
theorem fm_succ {α : Type} (n : Nat) (f : Nat → List α) : fm (n + 1) f = fm n f ++ f n := by
  unfold fm
  rw [List.range_succ, List.flatMap_append]
  simp
theorem fm_mem {α : Type} {n : Nat} {f : Nat → List α} {x : α} : x ∈ fm n f ↔ ∃ i, i < n ∧ x ∈ f i := by
  unfold fm
  simp [List.mem_flatMap]
theorem fm_len {α : Type} (n : Nat) (f : Nat → List α) (c : Nat) (h : ∀ i, i < n → (f i).length ≤ c) : (fm n f).length ≤ n * c := by
  induction n with
  | zero => simp [fm]
  | succ n ih =>
    rw [fm_succ, List.length_append, Nat.succ_mul]
    have := ih (fun i hi => h i (by omega))
    have := h n (by omega)
    omega

/-- Those that may do what they are there for. -/
def whichK (ks : List KnownD) (n : Nat) : List Nat := (List.range n).filter fun i => mayK (ks.getD i KnownD.none)
theorem whichK_no {ks : List KnownD} {i : Nat} (h : mayK (ks.getD i KnownD.none) = false) : whichK ks (i + 1) = whichK ks i := by
  unfold whichK
  rw [List.range_succ, List.filter_append, List.filter_cons, h]
  simp
theorem whichK_yes {ks : List KnownD} {i : Nat} (h : mayK (ks.getD i KnownD.none) = true) : whichK ks (i + 1) = whichK ks i ++ [i] := by
  unfold whichK
  rw [List.range_succ, List.filter_append, List.filter_cons, h]
  simp
theorem whichK_lt {ks : List KnownD} {n i : Nat} (h : i ∈ whichK ks n) : i < n := List.mem_range.1 (List.mem_filter.1 h).1
theorem whichK_len (ks : List KnownD) (n : Nat) : (whichK ks n).length ≤ n := Nat.le_trans (List.length_filter_le _ _) (by rw [List.length_range]; exact Nat.le_refl _)
def atW (ks : List KnownD) (W : List Nat) (a : Nat) : KnownD := ks.getD (W.getD a 0) KnownD.none
/-- The package is one of some. -/
def hitK (k : KnownD) (x : List TermD) : Bool := x.any fun t => bareB t k.bare
def edgeIf (c : Bool) (a b : Nat) : List EdgeD := if c then [(((a : Nat) : Int), ((b : Nat) : Int))] else []
/-- The program's: of one of what is asked for. -/
def rowE (ks : List KnownD) (W : List Nat) (b : Nat) (x : List TermD) (m : Nat) : List EdgeD := fm m fun a => edgeIf (hitK (atW ks W a) x) a b
def colE (ks : List KnownD) (W : List Nat) (b : Nat) (xs : List (List TermD)) (j : Nat) : List EdgeD := fm j fun j => rowE ks W b (xs.getD j []) W.length
def edgesE (ks : List KnownD) (W : List Nat) (sel : KnownD → List (List TermD)) (b : Nat) : List EdgeD := fm b fun b => colE ks W b (sel (atW ks W b)) (sel (atW ks W b)).length
/-- The document's. -/
def colR (ks : List KnownD) (W : List Nat) (a b : Nat) (xs : List (List TermD)) (j : Nat) : List EdgeD := fm j fun j => edgeIf (hitK (atW ks W a) (xs.getD j [])) a b
def rowR (ks : List KnownD) (W : List Nat) (sel : KnownD → List (List TermD)) (a : Nat) (b : Nat) : List EdgeD := fm b fun b => colR ks W a b (sel (atW ks W b)) (sel (atW ks W b)).length
def edgesR (ks : List KnownD) (W : List Nat) (sel : KnownD → List (List TermD)) (a : Nat) : List EdgeD := fm a fun a => rowR ks W sel a W.length
theorem edgeIf_mem {c : Bool} {a b : Nat} {e : EdgeD} : e ∈ edgeIf c a b ↔ c = true ∧ e = (((a : Nat) : Int), ((b : Nat) : Int)) := by
  unfold edgeIf
  cases c <;> simp
theorem edges_mem (ks : List KnownD) (W : List Nat) (sel : KnownD → List (List TermD)) (e : EdgeD) : e ∈ edgesE ks W sel W.length ↔ e ∈ edgesR ks W sel W.length := by
  unfold edgesE edgesR colE rowE rowR colR
  simp only [fm_mem, edgeIf_mem]
  constructor
  · rintro ⟨b, hb, j, hj, a, ha, h⟩
    exact ⟨a, ha, b, hb, j, hj, h⟩
  · rintro ⟨a, ha, b, hb, j, hj, h⟩
    exact ⟨b, hb, j, hj, a, ha, h⟩
theorem edgesE_in {ks : List KnownD} {W : List Nat} {sel : KnownD → List (List TermD)} {e : EdgeD} (h : e ∈ edgesE ks W sel W.length) : badE ((W.length : Nat) : Int) e = false := by
  unfold edgesE colE rowE at h
  simp only [fm_mem, edgeIf_mem] at h
  obtain ⟨b, hb, j, hj, a, ha, _, rfl⟩ := h
  unfold badE
  simp
  omega
theorem edgesE_right {ks : List KnownD} {W : List Nat} {sel : KnownD → List (List TermD)} (hW : W.length ≤ 20) : rightR ((W.length : Nat) : Int) (edgesE ks W sel W.length) = (0, -1) := by
  unfold rightR
  rw [if_neg (by omega)]
  exact firstBad_of_fine fun e he => edgesE_in he
theorem edgesR_right {ks : List KnownD} {W : List Nat} {sel : KnownD → List (List TermD)} (hW : W.length ≤ 20) : rightR ((W.length : Nat) : Int) (edgesR ks W sel W.length) = (0, -1) := by
  unfold rightR
  rw [if_neg (by omega)]
  exact firstBad_of_fine fun e he => edgesE_in ((edges_mem ks W sel e).2 he)
theorem edgeIf_len (c : Bool) (a b : Nat) : (edgeIf c a b).length ≤ 1 := by unfold edgeIf; cases c <;> simp
theorem edgesE_len {ks : List KnownD} {W : List Nat} {sel : KnownD → List (List TermD)} {b : Nat} (hW : W.length ≤ 20) (hs : ∀ a, (sel (atW ks W a)).length ≤ 40) (hb : b ≤ W.length) : (edgesE ks W sel b).length ≤ 16000 := by
  have h1 : ∀ b x m, (rowE ks W b x m).length ≤ m * 1 := fun b x m => fm_len _ _ 1 fun a _ => edgeIf_len _ _ _
  have h2 : ∀ b xs j, (colE ks W b xs j).length ≤ j * (W.length * 1) := fun b xs j => fm_len _ _ _ fun j _ => h1 _ _ _
  have h3 := fm_len b (fun b => colE ks W b (sel (atW ks W b)) (sel (atW ks W b)).length) (40 * (20 * 1)) fun i _ => Nat.le_trans (h2 _ _ _) (Nat.mul_le_mul (hs i) (by omega))
  unfold edgesE
  have : b * (40 * (20 * 1)) ≤ 20 * 800 := Nat.mul_le_mul (by omega) (by decide)
  omega
theorem edgesR_len {ks : List KnownD} {W : List Nat} {sel : KnownD → List (List TermD)} {a : Nat} (hW : W.length ≤ 20) (hs : ∀ a, (sel (atW ks W a)).length ≤ 40) (ha : a ≤ W.length) : (edgesR ks W sel a).length ≤ 16000 := by
  have h1 : ∀ a b xs j, (colR ks W a b xs j).length ≤ j * 1 := fun a b xs j => fm_len _ _ 1 fun a _ => edgeIf_len _ _ _
  have h2 : ∀ a b, (rowR ks W sel a b).length ≤ b * (40 * 1) := fun a b => fm_len _ _ _ fun j _ => Nat.le_trans (h1 _ _ _ _) (Nat.mul_le_mul (hs j) (Nat.le_refl _))
  have h3 := fm_len a (fun a => rowR ks W sel a W.length) (20 * (40 * 1)) fun i _ => Nat.le_trans (h2 _ _) (Nat.mul_le_mul hW (Nat.le_refl _))
  unfold edgesR
  have : a * (20 * (40 * 1)) ≤ 20 * 800 := Nat.mul_le_mul (by omega) (by decide)
  omega

/-! ### the same members, the same lines -/
theorem EdL_congr {l l' : List EdgeD} (h : ∀ e, e ∈ l ↔ e ∈ l') : EdL l = EdL l' := by
  funext a b
  exact propext (h _)
theorem badV_congr {l l' : List EdgeD} (h : ∀ e, e ∈ l ↔ e ∈ l') : badV l = badV l' := by
  funext left v
  unfold badV
  rw [Bool.eq_iff_iff, List.any_eq_true, List.any_eq_true]
  exact ⟨fun ⟨e, h1, h2⟩ => ⟨e, (h e).1 h1, h2⟩, fun ⟨e, h1, h2⟩ => ⟨e, (h e).2 h1, h2⟩⟩
theorem pickK_congr {l l' : List EdgeD} (h : ∀ e, e ∈ l ↔ e ∈ l') : pickK l = pickK l' := by
  funext left
  unfold pickK
  rw [badV_congr h]
theorem lineN_congr {l l' : List EdgeD} (h : ∀ e, e ∈ l ↔ e ∈ l') (m : Nat) (left : List Nat) : lineN l m left = lineN l' m left := by
  induction m generalizing left with
  | zero => rfl
  | succ m ih =>
    unfold lineN
    rw [pickK_congr h, ih]
theorem linesOf_congr {l l' : List EdgeD} (h : ∀ e, e ∈ l ↔ e ∈ l') (rings : List (List Nat)) : linesOf l rings = linesOf l' rings := by
  unfold linesOf
  congr 1
  funext left
  exact lineN_congr h _ _
/-- A line of those that are about to. -/
structure LineK (ks : List KnownD) (W : List Nat) (xs : List Nat) : Prop where
  it : ∃ rings, InOrder (EdL (edgesE ks W (fun k => k.pack.depends) W.length ++ edgesE ks W (fun k => k.pack.ahead) W.length)) W.length rings ∧ AllTold W.length rings ∧ xs = linesOf (edgesE ks W (fun k => k.pack.ahead) W.length) rings
theorem LineK.of_doc {ks : List KnownD} {W xs : List Nat} (h : ∃ rings, InOrder (EdL (edgesR ks W (fun k => k.pack.depends) W.length ++ edgesR ks W (fun k => k.pack.ahead) W.length)) W.length rings ∧ AllTold W.length rings ∧ xs = linesOf (edgesR ks W (fun k => k.pack.ahead) W.length) rings) : LineK ks W xs := by
  obtain ⟨rings, h1, h2, h3⟩ := h
  refine ⟨rings, ?_, h2, ?_⟩
  · rwa [EdL_congr (l' := edgesR ks W (fun k => k.pack.depends) W.length ++ edgesR ks W (fun k => k.pack.ahead) W.length)]
    intro e
    rw [List.mem_append, List.mem_append, edges_mem, edges_mem]
  · rw [linesOf_congr (edges_mem ks W (fun k => k.pack.ahead))]
    exact h3
theorem LineK.eq {ks : List KnownD} {W xs ys : List Nat} (h : LineK ks W xs) (h' : LineK ks W ys) : xs = ys := by
  obtain ⟨r1, a1, a2, rfl⟩ := h.it
  obtain ⟨r2, b1, b2, rfl⟩ := h'.it
  rw [a1.eq b1 a2 b2]
theorem LineK.lt {ks : List KnownD} {W xs : List Nat} (h : LineK ks W xs) : ∀ x ∈ xs, x < W.length := by
  obtain ⟨r1, a1, a2, rfl⟩ := h.it
  intro x hx
  unfold linesOf at hx
  obtain ⟨S, hS, hx⟩ := List.mem_flatMap.1 hx
  have hx2 := (lineOf_perm _ S).mem_iff.1 hx
  obtain ⟨i, hi, rfl⟩ := List.getElem_of_mem hS
  exact ((a1 i r1[i] (List.getElem?_eq_getElem hi)).free x hx2).lt

theorem line_len {ks : List KnownD} {W xs : List Nat} (h : LineK ks W xs) : xs.length ≤ W.length := by
  obtain ⟨r1, a1, a2, rfl⟩ := h.it
  exact Nat.le_of_eq (lines_len a1 a2 _)
theorem atW_strip (ks : List KnownD) (W : List Nat) (a : Nat) : atW (ks.map KnownD.strip) W a = (atW ks W a).strip := by
  unfold atW
  rw [strip_at]
theorem whichK_strip (ks : List KnownD) (n : Nat) : whichK (ks.map KnownD.strip) n = whichK ks n := by
  unfold whichK
  congr 1
  funext i
  rw [strip_at]
  rfl
theorem edgesE_strip (ks : List KnownD) (W : List Nat) (sel : KnownD → List (List TermD)) (hs : ∀ k, sel k.strip = sel k) (b : Nat) : edgesE (ks.map KnownD.strip) W sel b = edgesE ks W sel b := by
  unfold edgesE colE rowE
  simp only [atW_strip, hs]
  rfl
theorem LineK.strip {ks : List KnownD} {W xs : List Nat} (h : LineK (ks.map KnownD.strip) W xs) : LineK ks W xs := by
  have := h.it
  rw [edgesE_strip ks W _ (fun _ => rfl), edgesE_strip ks W _ (fun _ => rfl)] at this
  exact ⟨this⟩
end Go.Proofs.YtnfnebfioibndaaGreatDoor
