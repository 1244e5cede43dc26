/- One book, two books in one world: what comes new, what only reads (for the walk of BookKeeps). · BookKeeps: notes, cuts. -/
import Derived.Test.YtodmnogoacghpaaGreatDoorM38
namespace Go.Proofs.YtodmnogoacghpaaGreatDoor
open Go.RowKit
set_option maxRecDepth 100000

section
variable {w w' : World} {B : Nat} {X : List Nat} {a bb a2 b2 : Nat} {s s2 : BkS}
theorem OneB.push (h : OneB w B X a bb s) (o : Obj) : OneB (w.alloc o) B (w.heap.size :: X) a bb s := by
  obtain ⟨F, h1, h2, h3, h4, h5⟩ := h
  have hb : Below w.heap.size w (w.alloc o) := (Below.refl _ _).alloc (Nat.le_refl _) _
  have h1' : BkF w F a bb s.d s.m s.t s.dn := h1
  refine ⟨F, h1'.below hb, h2, fun k hk => ?_, h4.below hb, h5⟩
  rcases List.mem_cons.1 hk with rfl | hk
  · exact ⟨by simp, fun hk' => absurd (h1'.lt _ hk') (Nat.lt_irrefl _)⟩
  · exact ⟨Nat.lt_of_lt_of_le (h3 k hk).1 hb.size, (h3 k hk).2⟩
theorem OneB.less (h : OneB w B X a bb s) : OneB w B [] a bb s := by
  obtain ⟨F, h1, h2, h3, h4, h5⟩ := h
  exact ⟨F, h1, h2, fun k hk => (by cases hk), h4, h5⟩
theorem TwoB.xlt (h : TwoB w B X a bb s a2 b2 s2) : ∀ k ∈ X, k < w.heap.size := by
  obtain ⟨F, F2, h1, h2, h3, h4, h5, h6, h7⟩ := h
  exact fun k hk => (h6 k hk).1
theorem TwoB.names {v : Value} {ks : List ByteArray} (h : TwoB w B X a bb s a2 b2 s2) (hb : Below w.heap.size w w') (hS : Strs w' v ks) (hf : FreshV w.heap.size v) :
    ∃ X1, TwoB w' B (X1 ++ X) a bb s a2 b2 s2 ∧ ∀ W, w'.heap.size ≤ W.heap.size → (∀ k ∈ X1, W.heap[k]? = w'.heap[k]?) → Strs W v ks := by
  have h' := h.other hb
  obtain ⟨F, F2, h1, h2, h3, h4, h5, h6, h7, h8⟩ := h
  have h1' : BkF w F a bb s.d s.m s.t s.dn := h1
  have h2' : BkF w F2 a2 b2 s2.d s2.m s2.t s2.dn := h2
  rcases hf with rfl | ⟨g, n, c, rfl, hg⟩
  · exact ⟨[], h', fun W _ _ => ⟨by
      obtain ⟨aa, ca, e, h1, h3, h5⟩ := hS.1
      injection e with e1 e2 e3
      exact ⟨none, 0, by rw [e2], by omega, Nat.zero_le _, Or.inl e2.symm⟩, hS.2⟩⟩
  · obtain ⟨aa, ca, e, k1, k3, k5⟩ := hS.1
    injection e with e1 e2 e3
    rcases k5 with k5 | ⟨b, o, e4, hlt, hc⟩
    · exact ⟨[], h', fun W _ _ => ⟨⟨aa, ca, by rw [← e1, ← e2, ← e3], k1, k3, Or.inl k5⟩, hS.2⟩⟩
    · rw [← e1] at e4
      injection e4 with e4
      injection e4 with e5 e6
      subst e5 e6
      refine ⟨[g], ⟨F, F2, h1'.below hb, h2'.below hb, h3, h4, h5, fun k hk => ?_, h7.below hb, h8⟩, fun W hs hk => ⟨⟨aa, ca, by rw [← e1, ← e2, ← e3], k1, k3, Or.inr ⟨g, 0, by rw [← e1], ?_, fun i j hi hj => ?_⟩⟩, hS.2⟩⟩
      · rcases List.mem_append.1 hk with hk | hk
        · rw [List.mem_singleton.1 hk]
          exact ⟨hlt, fun hf => by have := h1'.lt _ hf; omega, fun hf => by have := h2'.lt _ hf; omega⟩
        · exact ⟨Nat.lt_of_lt_of_le (h6 k hk).1 hb.size, (h6 k hk).2⟩
      · exact Nat.lt_of_lt_of_le hlt hs
      · exact (World.cell?_of_block (a := ⟨g, 0 + i * 1 + j, none⟩) (hk g (by simp))).trans (hc i j hi hj)
theorem ob_lines (h : OneB w B X a bb s) (hok : LinesOk s.m) (hl : s.m.length ≤ 100) : Calls Tryz.prog 19 #[.pointer (some ⟨bb, 0, none⟩)] w fun e w' => e = .returned (.string (linesM s.m)) ∧ Below w.heap.size w w' := by
  obtain ⟨F, h1, h2, h3, h4, h5⟩ := h
  exact lines_calls w F a bb s h1 hok hl
/-- A book is opened anew on the first book's disk. -/
theorem tb_open (hB : B ≤ w.heap.size) (h : TwoB w B X a bb s a2 b2 s2) (hg : GoodD 1000 30000 s.d) :
    Calls Tryz.prog 5 #[.pointer (some ⟨a, 0, none⟩)] w fun e w' => e = .returned (.tuple #[.pointer (some ⟨w.heap.size + 1, 0, none⟩), .nilIface]) ∧ TwoB w' B X a bb s a2 b2 s2 ∧ OneB w' B X a (w.heap.size + 1) (openB s.d) ∧ Below w.heap.size w w' := by
  have hT := h
  obtain ⟨F, F2, h1, h2, h3, h4, h5, h6, h7, h8⟩ := h
  have h1' : BkF w F a bb s.d s.m s.t s.dn := h1
  obtain ⟨FD, bl, hPD, hA, rfl, q1, q2⟩ := h1'
  refine (open_calls w FD a s.d hPD h7 hg).mono ?_
  rintro e w' ⟨rfl, hb, hBk⟩
  refine ⟨rfl, hT.other hb, ⟨_, hBk, fun k hk => ?_, fun k hk => ⟨Nat.lt_of_lt_of_le (h6 k hk).1 hb.size, fun hk' => ?_⟩, h7.below hb, h8⟩, hb⟩
  · rcases List.mem_cons.1 hk with rfl | hk
    · omega
    · rcases List.mem_cons.1 hk with rfl | hk
      · exact hB
      · exact h4 k (by simp [hk])
  · have := (h6 k hk).1
    rcases List.mem_cons.1 hk' with rfl | hk'
    · omega
    · rcases List.mem_cons.1 hk' with rfl | hk'
      · omega
      · exact (h6 k hk).2.1 (by simp [hk'])
end
/-- The book with what would be written is opened, on a disk of its own. -/
theorem ob_openZ {w : World} {B : Nat} {X : List Nat} {a bb : Nat} {s : BkS} (hB : B ≤ w.heap.size) (h : OneB w B X a bb s) {w1 : World} (hw1 : w1 = w.alloc (.cells #[.map none, .map none, .int .i64 0, .bool false, .int .i64 0, .bool false] 26)) :
    Calls Tryz.prog 5 #[.pointer (some ⟨w.heap.size, 0, none⟩)] w1 fun e w' => e = .returned (.tuple #[.pointer (some ⟨w.heap.size + 2, 0, none⟩), .nilIface]) ∧ TwoB w' B X a bb s w.heap.size (w.heap.size + 2) (openB zeroD) ∧ Below w.heap.size w w' := by
  have hb1 : Below w.heap.size w w1 := by rw [hw1]; exact (Below.refl _ _).alloc (Nat.le_refl _) _
  have hs1 : w1.heap.size = w.heap.size + 1 := by rw [hw1]; simp
  have hP : PDisk w1 w.heap.size [w.heap.size] zeroD := ⟨_, _, 0, 0, ⟨by rw [hw1]; exact heap_alloc_new w _, (fun h => absurd h (by decide)), (fun h => absurd h (by decide))⟩, Or.inl ⟨rfl, rfl, rfl, rfl⟩⟩
  have h' := h
  obtain ⟨F, h1, h2, h3, h4, h5⟩ := h'
  refine (open_calls w1 [w.heap.size] w.heap.size zeroD hP (h4.below hb1) (GoodD.zero _ _)).mono ?_
  rintro e w' ⟨rfl, hb, hBk⟩
  rw [hs1] at hb hBk ⊢
  refine ⟨rfl, h.two (Nat.le_refl _) hB hb1 (hb.mono (by omega)) hBk (fun k hk => ?_), hb1.trans (hb.mono (by omega))⟩
  simp only [List.mem_cons, List.not_mem_nil, or_false] at hk
  omega
theorem tell_errV (k : Int) (w : World) (hv : ErrVar w) : Calls Tryz.prog 22 #[errV k] w fun e w' => e = .returned (.int .i64 k) ∧ Below w.heap.size w w' := by
  by_cases h : k = 0
  · subst h
    rw [errV_zero]
    exact tell_calls _ 0 (-1) w hv .nil
  · rw [errV_some h]
    exact tell_calls _ k (-1) w hv (.no k)
end Go.Proofs.YtodmnogoacghpaaGreatDoor
namespace Go.Proofs.YtodmnogoacghpaaGreatDoor
open Go.RowKit
set_option maxRecDepth 100000
set_option maxHeartbeats 8000000

abbrev NoteK := Int × (ByteArray × ByteArray)
def noteK (x : NoteK) : Nat → Value
  | 0 => .int .i64 x.1
  | 1 => .string x.2.1
  | _ => .string x.2.2
def noK2 : NoteK := (0, (⟨#[]⟩, ⟨#[]⟩))
def NoteKOk (x : NoteK) : Prop := InJ2 x.1 ∧ x.2.1.size ≤ maxLen ∧ x.2.2.size ≤ maxLen
def NotesK (w : World) (v : Value) (l : List NoteK) : Prop := Sl w v l.length 3 (fun i j => noteK (l.getD i noK2) j) ∧ ∀ x ∈ l, NoteKOk x
def IntsK (w : World) (v : Value) (cs : List Int) : Prop := Sl w v cs.length 1 (fun i _ => .int .i64 (cs.getD i 0)) ∧ ∀ x ∈ cs, InJ2 x
theorem NotesK.get {l : List NoteK} (h : ∀ x ∈ l, NoteKOk x) (i : Nat) : NoteKOk (l.getD i noK2) := by
  rcases Nat.lt_or_ge i l.length with h' | h'
  · rw [List.getD_eq_getElem?_getD, List.getElem?_eq_getElem h']
    exact h _ (List.getElem_mem h')
  · rw [List.getD_eq_getElem?_getD, List.getElem?_eq_none h']
    exact ⟨⟨by decide, by decide⟩, Nat.zero_le _, Nat.zero_le _⟩
theorem IntsK.get {l : List Int} (h : ∀ x ∈ l, InJ2 x) (i : Nat) : InJ2 (l.getD i 0) := by
  rcases Nat.lt_or_ge i l.length with h' | h'
  · rw [List.getD_eq_getElem?_getD, List.getElem?_eq_getElem h']
    exact h _ (List.getElem_mem h')
  · rw [List.getD_eq_getElem?_getD, List.getElem?_eq_none h']
    exact ⟨by decide, by decide⟩
theorem nk_cells {W : World} {b6 : Nat} {what : Int} {name v : ByteArray} (h : W.heap[b6]? = some (.cells #[.int .i64 what, .string name, .string v] 57)) :
    W.cell? ⟨b6, 0, none⟩ = some (.int .i64 what) ∧ W.cell? ⟨b6, 1, none⟩ = some (.string name) ∧ W.cell? ⟨b6, 2, none⟩ = some (.string v) ∧ b6 < W.heap.size := by
  refine ⟨by simp [World.cell?, h], by simp [World.cell?, h], by simp [World.cell?, h], ?_⟩
  rcases Nat.lt_or_ge b6 W.heap.size with h' | h'
  · exact h'
  · rw [Array.getElem?_eq_none h'] at h; cases h
/-- Where the power goes off, and how much is kept. -/
def cutAt (cs : List Int) (i : Nat) : Int := if cs.length = 0 then -1 else ((pickI (cs.getD (i % cs.length) 0) 9 : Nat) : Int) - 3
def keepAt (cs : List Int) (i : Nat) : Int := if cs.length = 0 then 0 else ((pickI ((cs.getD (i % cs.length) 0).tdiv 9) 60 : Nat) : Int)
theorem tdiv9 {c : Int} (h : InJ2 c) : InJ2 (c.tdiv 9) := by
  obtain ⟨h1, h2⟩ := h
  unfold InJ2
  by_cases h0 : 0 ≤ c
  · rw [Int.tdiv_eq_ediv_of_nonneg h0]; omega
  · have e : c.tdiv 9 = -((-c).tdiv 9) := by rw [Int.neg_tdiv, Int.neg_neg]
    rw [e, Int.tdiv_eq_ediv_of_nonneg (show 0 ≤ -c by omega)]
    omega

end Go.Proofs.YtodmnogoacghpaaGreatDoor
