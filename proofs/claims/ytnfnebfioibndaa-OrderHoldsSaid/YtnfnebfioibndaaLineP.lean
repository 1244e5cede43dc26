/- A ring in line: which comes next, in plain Lean: the program's and the document's. -/
import Derived.Test.YtnfnebfioibndaaRingP
namespace Go.Proofs.Ytnfnebfioibndaa
set_option maxRecDepth 10000

/-- Of what is left, somebody comes ahead of it by a strong edge. -/
def badV (strong : List EdgeD) (left : List Nat) (v : Nat) : Bool := strong.any fun e => e.2 == ((v : Nat) : Int) && (!(e.1 == ((v : Nat) : Int)) && (left.map fun x => ((x : Nat) : Int)).contains e.1)
def pickK (strong : List EdgeD) (left : List Nat) : Nat := (left.findIdx? fun v => !badV strong left v).getD 0
def lineN (strong : List EdgeD) : Nat → List Nat → List Nat
  | 0, _ => []
  | m + 1, left => if left = [] then [] else left.getD (pickK strong left) 0 :: lineN strong m (left.eraseIdx (pickK strong left))
def lineOf (strong : List EdgeD) (left : List Nat) : List Nat := lineN strong left.length left
theorem pickK_lt (strong : List EdgeD) {left : List Nat} (h : left ≠ []) : pickK strong left < left.length := by
  unfold pickK
  cases e : left.findIdx? fun v => !badV strong left v with
  | none => exact List.length_pos_iff.2 h
  | some k => exact (List.findIdx?_eq_some_iff_getElem.1 e).1
theorem lineOf_step (strong : List EdgeD) {left : List Nat} (h : left ≠ []) : lineOf strong left = left.getD (pickK strong left) 0 :: lineOf strong (left.eraseIdx (pickK strong left)) := by
  have hl := pickK_lt strong h
  unfold lineOf
  have e : left.length = (left.eraseIdx (pickK strong left)).length + 1 := by
    rw [List.length_eraseIdx, if_pos hl]
    omega
  rw [e]
  show (if left = [] then [] else _) = _
  rw [if_neg h]
theorem lineOf_nil (strong : List EdgeD) : lineOf strong [] = [] := rfl
def linesOf (strong : List EdgeD) (rings : List (List Nat)) : List Nat := rings.flatMap (lineOf strong)
theorem linesOf_snoc (strong : List EdgeD) (rings : List (List Nat)) (r : List Nat) : linesOf strong (rings ++ [r]) = linesOf strong rings ++ lineOf strong r := by simp [linesOf]
theorem lineOf_len (strong : List EdgeD) (left : List Nat) : (lineOf strong left).length = left.length := by
  induction hm : left.length generalizing left with
  | zero => rw [List.length_eq_zero_iff.1 hm]; rfl
  | succ m ih =>
    have hne : left ≠ [] := by intro e; rw [e] at hm; cases hm
    have hl := pickK_lt strong hne
    rw [lineOf_step strong hne, List.length_cons, ih _ (by rw [List.length_eraseIdx, if_pos hl, hm]; omega)]
theorem lineOf_perm (strong : List EdgeD) (left : List Nat) : (lineOf strong left).Perm left := by
  induction hm : left.length generalizing left with
  | zero => rw [List.length_eq_zero_iff.1 hm]; exact List.Perm.refl _
  | succ m ih =>
    have hne : left ≠ [] := by intro e; rw [e] at hm; cases hm
    have hl := pickK_lt strong hne
    rw [lineOf_step strong hne]
    have h1 := ih (left.eraseIdx (pickK strong left)) (by rw [List.length_eraseIdx, if_pos hl, hm]; omega)
    refine (List.Perm.cons _ h1).trans ?_
    have e : left.getD (pickK strong left) 0 = left[pickK strong left] := by simp [List.getD, List.getElem?_eq_getElem hl]
    rw [e]
    rw [List.eraseIdx_eq_take_drop_succ]
    have h2 : left = left.take (pickK strong left) ++ left[pickK strong left] :: left.drop (pickK strong left + 1) := by rw [← List.drop_eq_getElem_cons hl, List.take_append_drop]
    exact List.perm_middle.symm.trans (by rw [← h2])

/-! ### the document's: r stays, what was told is counted -/
def freeV (strong : List EdgeD) (r : List Nat) (told : Nat → Nat) (v : Nat) : Bool := told v == 0 && !(strong.any fun e => r.any fun u => e.1 == ((u : Nat) : Int) && (e.2 == ((v : Nat) : Int) && (!(u == v) && told u == 0)))
def leftOf (r : List Nat) (told : Nat → Nat) : List Nat := r.filter fun v => told v == 0
theorem freeV_eq (strong : List EdgeD) (r : List Nat) (told : Nat → Nat) (v : Nat) : freeV strong r told v = (told v == 0 && !badV strong (leftOf r told) v) := by
  unfold freeV
  congr 2
  unfold badV
  congr 1
  funext e
  rw [Bool.eq_iff_iff]
  simp only [List.any_eq_true, Bool.and_eq_true, beq_iff_eq, Bool.not_eq_true', beq_eq_false_iff_ne, List.contains_iff_mem, List.mem_map, leftOf, List.mem_filter]
  constructor
  · rintro ⟨u, hu, h1, h2, h3, h4⟩
    exact ⟨h2, by omega, u, ⟨hu, h4⟩, h1.symm⟩
  · rintro ⟨h2, h3, u, ⟨hu, h4⟩, h1⟩
    exact ⟨u, hu, h1.symm, h2, by omega, h4⟩
/-- The best of the first k of r: the first that is free. -/
def BestV (c : Nat → Bool) (r : List Nat) (k : Nat) (best : Int) : Prop :=
  (best = -1 ∧ (r.take k).find? c = none) ∨ ∃ b : Nat, best = ((b : Nat) : Int) ∧ (r.take k).find? c = some b
theorem BestV.start (c : Nat → Bool) (r : List Nat) : BestV c r 0 (-1) := Or.inl ⟨rfl, rfl⟩
theorem BestV.keep {c : Nat → Bool} {r : List Nat} {k : Nat} {best : Int} (h : BestV c r k best) (hk : k < r.length) (hc : c (r.getD k 0) = false ∨ 0 ≤ best) : BestV c r (k + 1) best := by
  unfold BestV
  rw [take_snoc' 0 hk, List.find?_append]
  rcases h with ⟨rfl, h1⟩ | ⟨b, rfl, h1⟩
  · refine Or.inl ⟨rfl, ?_⟩
    rw [h1]
    rcases hc with hc | hc
    · rw [List.find?_cons, hc]; rfl
    · omega
  · exact Or.inr ⟨b, rfl, by rw [h1]; rfl⟩
theorem BestV.take {c : Nat → Bool} {r : List Nat} {k : Nat} {best : Int} (h : BestV c r k best) (hk : k < r.length) (hc : c (r.getD k 0) = true) (hb : best < 0) : BestV c r (k + 1) ((r.getD k 0 : Nat) : Int) := by
  unfold BestV
  rw [take_snoc' 0 hk, List.find?_append]
  rcases h with ⟨rfl, h1⟩ | ⟨b, rfl, h1⟩
  · refine Or.inr ⟨_, rfl, ?_⟩
    rw [h1, List.find?_cons, hc]
    rfl
  · omega
theorem BestV.end {c : Nat → Bool} {r : List Nat} {k : Nat} {best : Int} (h : BestV c r k best) (hk : r.length ≤ k) : (best = -1 ∧ r.find? c = none) ∨ ∃ b : Nat, best = ((b : Nat) : Int) ∧ r.find? c = some b := by
  unfold BestV at h
  rwa [List.take_of_length_le hk] at h
/-- The second time round: the first that is left, if there was none. -/
def BestW (b1 : Int) (told : Nat → Nat) (r : List Nat) (k : Nat) (best : Int) : Prop :=
  (0 ≤ b1 ∧ best = b1) ∨ (b1 < 0 ∧ BestV (fun v => told v == 0) r k best)

theorem find_left {p q : Nat → Bool} : ∀ {l : List Nat}, (l.filter q).find? p = l.find? fun v => q v && p v
  | [] => rfl
  | a :: l => by
    rw [List.filter_cons]
    cases hq : q a
    · simp [List.find?_cons, hq, find_left (l := l)]
    · cases hp : p a
      · simp [List.find?_cons, hq, hp, find_left (l := l)]
      · simp [List.find?_cons, hq, hp]
theorem find_getD {p : Nat → Bool} {l : List Nat} : l.find? p = (l.findIdx? p).map fun k => l.getD k 0 := by
  induction l with
  | nil => rfl
  | cons a l ih =>
    rw [List.find?_cons, List.findIdx?_cons]
    cases h : p a
    · simp only [ih]
      cases l.findIdx? p <;> simp [List.getD]
    · simp [List.getD]
/-- What the document tells next is what the program tells next. -/
theorem best_pick {strong : List EdgeD} {r : List Nat} {told : Nat → Nat} (hne : leftOf r told ≠ []) {b1 b2 : Int} (h1 : BestV (freeV strong r told) r r.length b1) (h2 : BestW b1 told r r.length b2) :
    b2 = (((leftOf r told).getD (pickK strong (leftOf r told)) 0 : Nat) : Int) := by
  have e1 : r.find? (freeV strong r told) = (leftOf r told).find? fun v => !badV strong (leftOf r told) v := by
    unfold leftOf
    rw [find_left]
    congr 1
    funext v
    rw [freeV_eq]
    rfl
  have e2 : r.find? (fun v => told v == 0) = (leftOf r told).head? := by
    unfold leftOf
    rw [List.head?_filter]
  have g1 := h1.end (Nat.le_refl _)
  rw [e1, find_getD] at g1
  unfold pickK
  cases e : (leftOf r told).findIdx? fun v => !badV strong (leftOf r told) v with
  | some k =>
    rw [e] at g1
    rcases g1 with ⟨rfl, g⟩ | ⟨b, rfl, g⟩
    · cases g
    · simp only [Option.map_some, Option.some.injEq] at g
      rcases h2 with ⟨_, rfl⟩ | ⟨h, _⟩
      · rw [← g]; rfl
      · omega
  | none =>
    rw [e] at g1
    rcases g1 with ⟨rfl, g⟩ | ⟨b, rfl, g⟩
    · rcases h2 with ⟨h, _⟩ | ⟨_, h2⟩
      · omega
      · have g2 := h2.end (Nat.le_refl _)
        rw [e2] at g2
        cases hL : leftOf r told with
        | nil => exact absurd hL hne
        | cons a L =>
          rw [hL] at g2
          rcases g2 with ⟨_, g⟩ | ⟨b, rfl, g⟩
          · cases g
          · simp only [List.head?_cons, Option.some.injEq] at g
            rw [← g]; rfl
    · cases g
theorem leftOf_told {r : List Nat} (hr : r.Nodup) {told : Nat → Nat} {k : Nat} (hk : k < (leftOf r told).length) : leftOf r (fun u => if u = (leftOf r told).getD k 0 then told u + 1 else told u) = (leftOf r told).eraseIdx k := by
  have hnd : (leftOf r told).Nodup := hr.filter _
  have e0 : (leftOf r told).getD k 0 = (leftOf r told)[k] := by simp [List.getD, List.getElem?_eq_getElem hk]
  have e1 : (leftOf r told).eraseIdx k = (leftOf r told).filter fun u => !(u == (leftOf r told).getD k 0) := by
    rw [e0]
    have e2 : (leftOf r told).erase (leftOf r told)[k] = (leftOf r told).filter (fun x => x != (leftOf r told)[k]) := hnd.erase_eq_filter _
    have e3 : (leftOf r told).erase (leftOf r told)[k] = (leftOf r told).eraseIdx k := by exact List.erase_eq_eraseIdx_of_idxOf (hnd.idxOf_getElem k hk)
    rw [← e3, e2]
    rfl
  rw [e1]
  unfold leftOf
  rw [List.filter_filter]
  apply List.filter_congr
  intro u _
  obtain ⟨z, hz⟩ : ∃ z, (r.filter fun v => told v == 0).getD k 0 = z := ⟨_, rfl⟩
  rw [hz]
  by_cases h : u = z
  · simp [h]
  · simp [h]
end Go.Proofs.Ytnfnebfioibndaa
