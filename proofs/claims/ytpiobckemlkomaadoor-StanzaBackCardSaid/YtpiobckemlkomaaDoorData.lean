/- Data that lie in memory: slices whose elements are read cell by cell; terms, packages. What is read stays read where only new blocks are laid. -/
import Derived.Test.YtpiobckemlkomaaDoorBase
import Derived.Deep.Slices
import Derived.Lib.Strings
namespace Go.Proofs.YtpiobckemlkomaaDoor
open Go.RowKit Go.ChangeShapes Go.WideShapes Go.ChangeAt

/-- A slice of n elements of sz cells each: cell j of element i holds R i j. -/
def Sl (w : World) (v : Value) (n sz : Nat) (R : Nat → Nat → Value) : Prop :=
  ∃ (a : Option Addr) (cap : Nat), v = .slice a n cap ∧ n ≤ cap ∧ cap ≤ maxLen ∧
    (n = 0 ∨ ∃ b o, a = some ⟨b, o, none⟩ ∧ b < w.heap.size ∧ ∀ i j, i < n → j < sz → w.cell? ⟨b, o + i * sz + j, none⟩ = some (R i j))

theorem Sl.below {w w' : World} {v : Value} {n sz : Nat} {R : Nat → Nat → Value} (h : Sl w v n sz R) {B : Nat} (hb : Below B w w') (hB : w.heap.size ≤ B) : Sl w' v n sz R := by
  obtain ⟨a, cap, e, h1, h2, h3⟩ := h
  refine ⟨a, cap, e, h1, h2, ?_⟩
  rcases h3 with h3 | ⟨b, o, ea, hlt, hc⟩
  · exact Or.inl h3
  · exact Or.inr ⟨b, o, ea, Nat.lt_of_lt_of_le hlt hb.size, fun i j hi hj => (hb.cell (p := ⟨b, o + i * sz + j, none⟩) (Nat.lt_of_lt_of_le hlt hB)).trans (hc i j hi hj)⟩

theorem Sl.nil (w : World) (sz : Nat) (R : Nat → Nat → Value) : Sl w (.slice none 0 0) 0 sz R := ⟨none, 0, rfl, Nat.le_refl _, Nat.zero_le _, Or.inl rfl⟩

theorem Sl.congr {w : World} {v : Value} {n sz : Nat} {R R' : Nat → Nat → Value} (h : Sl w v n sz R) (he : ∀ i j, i < n → j < sz → R i j = R' i j) : Sl w v n sz R' := by
  obtain ⟨a, cap, e, h1, h2, h3⟩ := h
  refine ⟨a, cap, e, h1, h2, ?_⟩
  rcases h3 with h3 | ⟨b, o, ea, hlt, hc⟩
  · exact Or.inl h3
  · exact Or.inr ⟨b, o, ea, hlt, fun i j hi hj => by rw [← he i j hi hj]; exact hc i j hi hj⟩

/-- A package that is asked for. -/
structure TermD : Type where
  name : ByteArray
  op : Int
  ep : Int
  up : ByteArray
  rv : ByteArray

def TermD.none : TermD := ⟨⟨#[]⟩, 0, 0, ⟨#[]⟩, ⟨#[]⟩⟩

instance : Inhabited TermD := ⟨TermD.none⟩

def TermD.row (t : TermD) : Nat → Value
  | 0 => .string t.name
  | 1 => .int .i64 t.op
  | 2 => .int .i64 t.ep
  | 3 => .string t.up
  | _ => .string t.rv

def TermD.at (ts : List TermD) (i : Nat) : TermD := ts.getD i TermD.none

def Terms (w : World) (v : Value) (ts : List TermD) : Prop := Sl w v ts.length 5 (fun i j => (TermD.at ts i).row j) ∧ ∀ t ∈ ts, t.name.size ≤ maxLen ∧ t.up.size ≤ maxLen ∧ t.rv.size ≤ maxLen

theorem Terms.below {w w' : World} {v : Value} {ts : List TermD} (h : Terms w v ts) {B : Nat} (hb : Below B w w') (hB : w.heap.size ≤ B) : Terms w' v ts := ⟨h.1.below hb hB, h.2⟩

def Lists (w : World) (v : Value) (ls : List (List TermD)) : Prop :=
  ∃ V : Nat → Value, Sl w v ls.length 1 (fun i _ => V i) ∧ ∀ i, i < ls.length → Terms w (V i) (ls.getD i [])

theorem Lists.below {w w' : World} {v : Value} {ls : List (List TermD)} (h : Lists w v ls) {B : Nat} (hb : Below B w w') (hB : w.heap.size ≤ B) : Lists w' v ls := by
  obtain ⟨V, h1, h2⟩ := h
  exact ⟨V, h1.below hb hB, fun i hi => (h2 i hi).below hb hB⟩

def Strs (w : World) (v : Value) (ss : List ByteArray) : Prop := Sl w v ss.length 1 (fun i _ => .string (ss.getD i ⟨#[]⟩)) ∧ ∀ s ∈ ss, s.size ≤ maxLen
theorem Strs.below {w w' : World} {v : Value} {ss : List ByteArray} (h : Strs w v ss) {B : Nat} (hb : Below B w w') (hB : w.heap.size ≤ B) : Strs w' v ss := ⟨h.1.below hb hB, h.2⟩

def fileRow (f : ByteArray × ByteArray) : Nat → Value
  | 0 => .string f.1
  | _ => .string f.2
def Files (w : World) (v : Value) (fs : List (ByteArray × ByteArray)) : Prop := Sl w v fs.length 2 (fun i j => fileRow (fs.getD i (⟨#[]⟩, ⟨#[]⟩)) j) ∧ ∀ f ∈ fs, f.1.size ≤ maxLen ∧ f.2.size ≤ maxLen
theorem Files.below {w w' : World} {v : Value} {fs : List (ByteArray × ByteArray)} (h : Files w v fs) {B : Nat} (hb : Below B w w') (hB : w.heap.size ≤ B) : Files w' v fs := ⟨h.1.below hb hB, h.2⟩

/-- A package. -/
structure PackD where
  name : ByteArray
  ep : Int
  up : ByteArray
  rv : ByteArray
  depends : List (List TermD)
  ahead : List (List TermD)
  against : List TermD
  breaks : List TermD
  replaces : List TermD
  provides : List TermD
  settings : List ByteArray
  listens : List ByteArray
  files : List (ByteArray × ByteArray)

def PackD.none : PackD := ⟨⟨#[]⟩, 0, ⟨#[]⟩, ⟨#[]⟩, [], [], [], [], [], [], [], [], []⟩

instance : Inhabited PackD := ⟨PackD.none⟩

/-- A package's thirteen cells. -/
structure PackOk (w : World) (p : PackD) (R : Nat → Value) : Prop where
  name : R 0 = .string p.name
  ep : R 1 = .int .i64 p.ep
  up : R 2 = .string p.up
  rv : R 3 = .string p.rv
  depends : Lists w (R 4) p.depends
  ahead : Lists w (R 5) p.ahead
  against : Terms w (R 6) p.against
  breaks : Terms w (R 7) p.breaks
  replaces : Terms w (R 8) p.replaces
  provides : Terms w (R 9) p.provides
  settings : Strs w (R 10) p.settings
  listens : Strs w (R 11) p.listens
  files : Files w (R 12) p.files
  lens : p.name.size ≤ maxLen ∧ p.up.size ≤ maxLen ∧ p.rv.size ≤ maxLen

theorem PackOk.below {w w' : World} {p : PackD} {R : Nat → Value} (h : PackOk w p R) {B : Nat} (hb : Below B w w') (hB : w.heap.size ≤ B) : PackOk w' p R :=
  ⟨h.name, h.ep, h.up, h.rv, h.depends.below hb hB, h.ahead.below hb hB, h.against.below hb hB, h.breaks.below hb hB, h.replaces.below hb hB, h.provides.below hb hB, h.settings.below hb hB, h.listens.below hb hB, h.files.below hb hB, h.lens⟩

def Packs (w : World) (v : Value) (ps : List PackD) : Prop :=
  ∃ R : Nat → Nat → Value, Sl w v ps.length 13 R ∧ ∀ i, i < ps.length → PackOk w (ps.getD i PackD.none) (R i)

theorem Packs.below {w w' : World} {v : Value} {ps : List PackD} (h : Packs w v ps) {B : Nat} (hb : Below B w w') (hB : w.heap.size ≤ B) : Packs w' v ps := by
  obtain ⟨R, h1, h2⟩ := h
  exact ⟨R, h1.below hb hB, fun i hi => (h2 i hi).below hb hB⟩

/-! ### Down from the row's reading -/
section
variable {H : Type} {enc : TypeId × Value → H} {P : Program} {w : World} {base fuel : Nat} {sp : Nat → Bool} {held : Bool} {x : DataW H × List MemPlace}

theorem addr_add (b o n : Nat) : (⟨b, o, none⟩ : Addr).add n = ⟨b, o + n, none⟩ := by
  unfold Addr.add
  split
  · rename_i h; subst h; rfl
  · rfl

/-- Any slice, element by element: its cells, each element's own reading. -/
theorem open_sl {t e sz : Nat} {v : Value} (ht : P.underlying t = some (.slice e)) (hc : P.cellsOf e = sz) (hsz : 0 < sz) (h : DataW.trod enc P w base sp held fuel t [v] = some x) :
    ∃ (n m : Nat) (R : Nat → Nat → Value), Sl w v n sz R ∧ ∀ i, i < n → ∃ y, DataW.trod enc P w base sp held m e ((List.range sz).map (R i)) = some y := by
  rcases Deep.open_slice ht h with ⟨hv, _⟩ | ⟨a, len, cap, m, n, D, Pl, hv, _, hl, hm, hmm, _, hel⟩
  · obtain rfl : v = .slice none 0 0 := by simpa using hv
    exact ⟨0, 0, fun _ _ => .nilFunc, Sl.nil _ _ _, fun i hi => absurd hi (Nat.not_lt_zero _)⟩
  · obtain rfl : v = .slice (some a) len cap := by simpa using hv
    have hle : len ≤ m := by rw [hmm]; split <;> omega
    rw [hc] at hel
    obtain ⟨C, hC⟩ := Deep.choose_lt (α := List Value) (p := fun i cs => w.cells? base (a.add (i * sz)) sz = some cs ∧ DataW.trod enc P w base sp held n e cs = some (D i, Pl i)) (fun i (hi : i < m) => hel i hi)
    refine ⟨len, n, fun i j => (C i).getD j .nilFunc, ⟨some a, cap, rfl, hl, hm, ?_⟩, fun i hi => ?_⟩
    · rcases Nat.eq_zero_or_pos len with h0 | h0
      · exact Or.inl h0
      · right
        obtain ⟨h1, _⟩ := hC 0 (by omega)
        obtain ⟨_, _, g0⟩ := World.cells?_some h1
        have c0 := g0 0 hsz
        rw [Nat.zero_mul] at c0
        have hlen0 := (World.cells?_some h1).2.1
        have e0 : (a.add 0).add 0 = a := by simp [Addr.add]
        rw [e0, List.getElem?_eq_getElem (show 0 < (C 0).length by omega)] at c0
        obtain ⟨b, o, s⟩ := a
        have hs : s = none := by
          cases s with
          | none => rfl
          | some z =>
            exfalso
            unfold World.cell? at c0
            split at c0
            · simp at c0
            · simp at c0
        subst hs
        have hb : b < w.heap.size := by
          rcases Nat.lt_or_ge b w.heap.size with h' | h'
          · exact h'
          · simp [World.cell?, Array.getElem?_eq_none h'] at c0
        refine ⟨b, o, rfl, hb, fun i j hi hj => ?_⟩
        obtain ⟨h2, _⟩ := hC i (by omega)
        obtain ⟨_, hln, g⟩ := World.cells?_some h2
        have := g j hj
        rw [addr_add, addr_add] at this
        rw [this]
        simp [List.getD, List.getElem?_eq_getElem (show j < (C i).length by omega)]
    · obtain ⟨h1, h2⟩ := hC i (by omega)
      have hln := (World.cells?_some h1).2.1
      refine ⟨(D i, Pl i), ?_⟩
      · have e1 : (List.range sz).map (fun j => (C i).getD j .nilFunc) = C i := by
          apply List.ext_getElem?
          intro j
          by_cases hj : j < sz
          · simp [hj, List.getD, List.getElem?_eq_getElem (show j < (C i).length by omega)]
          · rw [List.getElem?_eq_none (by simp; omega), List.getElem?_eq_none (by omega)]
        rw [e1]
        exact h2
end
end Go.Proofs.YtpiobckemlkomaaDoor
