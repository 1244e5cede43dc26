/- Data that lie in memory: slices whose elements are read cell by cell; terms, packages. What is read stays read where only new blocks are laid. · YtodmnogoacghpaaGreatDoorLays -/
import Derived.Test.YtodmnogoacghpaaGreatDoorM01
import Derived.Deep.Slices
import Derived.Lib.Strings
import Derived.Shelf.SlIter.Nil
import Derived.Shelf.SortM.Plain
import Derived.Shelf.SortM.SortNone
import Derived.Shelf.SlMaps.Clone
import Derived.Ground.GgzProg
import Derived.Ground.SlgmProg
import Derived.Ground.SlmcProg
import Derived.Test.YtodmnogoacghpaaGreatDoorProg
namespace Go.Proofs.YtodmnogoacghpaaGreatDoor
open Go.RowKit Go.ChangeShapes Go.WideShapes Go.ChangeAt

/-- A slice of n elements of sz cells each: cell j of element i holds R i j. -/
def Sl (w : World) (v : Value) (n sz : Nat) (R : Nat → Nat → Value) : Prop :=
  ∃ (a : Option Addr) (cap : Nat), v = .slice a n cap ∧ n ≤ cap ∧ cap ≤ maxLen ∧
    (n = 0 ∨ ∃ b o, a = some ⟨b, o, none⟩ ∧ b < w.heap.size ∧ ∀ i j, i < n → j < sz → w.cell? ⟨b, o + i * sz + j, none⟩ = some (R i j))

theorem Sl.below {w w' : World} {v : Value} {n sz : Nat} {R : Nat → Nat → Value} (h : Sl w v n sz R) {B : Nat} (hb : Below B w w') (hB : w.heap.size ≤ B) : Sl w' v n sz R := by
  obtain ⟨a, cap, e, h1, h2, h3⟩ := h
  refine ⟨a, cap, e, h1, h2, ?_⟩
  rcases h3 with h3 | ⟨b, o, ea, hlt, hc⟩
  · exact Or.inl h3
  · exact Or.inr ⟨b, o, ea, Nat.lt_of_lt_of_le hlt hb.size, fun i j hi hj => (hb.cell (p := ⟨b, o + i * sz + j, none⟩) (Nat.lt_of_lt_of_le hlt hB)).trans (hc i j hi hj)⟩

theorem Sl.nil (w : World) (sz : Nat) (R : Nat → Nat → Value) : Sl w (.slice none 0 0) 0 sz R := ⟨none, 0, rfl, Nat.le_refl _, Nat.zero_le _, Or.inl rfl⟩

theorem Sl.congr {w : World} {v : Value} {n sz : Nat} {R R' : Nat → Nat → Value} (h : Sl w v n sz R) (he : ∀ i j, i < n → j < sz → R i j = R' i j) : Sl w v n sz R' := by
  obtain ⟨a, cap, e, h1, h2, h3⟩ := h
  refine ⟨a, cap, e, h1, h2, ?_⟩
  rcases h3 with h3 | ⟨b, o, ea, hlt, hc⟩
  · exact Or.inl h3
  · exact Or.inr ⟨b, o, ea, hlt, fun i j hi hj => by rw [← he i j hi hj]; exact hc i j hi hj⟩

/-- A package that is asked for. -/
structure TermD : Type where
  name : ByteArray
  op : Int
  ep : Int
  up : ByteArray
  rv : ByteArray

def TermD.none : TermD := ⟨⟨#[]⟩, 0, 0, ⟨#[]⟩, ⟨#[]⟩⟩

instance : Inhabited TermD := ⟨TermD.none⟩

def TermD.row (t : TermD) : Nat → Value
  | 0 => .string t.name
  | 1 => .int .i64 t.op
  | 2 => .int .i64 t.ep
  | 3 => .string t.up
  | _ => .string t.rv

def TermD.at (ts : List TermD) (i : Nat) : TermD := ts.getD i TermD.none

def Terms (w : World) (v : Value) (ts : List TermD) : Prop := Sl w v ts.length 5 (fun i j => (TermD.at ts i).row j) ∧ ∀ t ∈ ts, t.name.size ≤ maxLen ∧ t.up.size ≤ maxLen ∧ t.rv.size ≤ maxLen

theorem Terms.below {w w' : World} {v : Value} {ts : List TermD} (h : Terms w v ts) {B : Nat} (hb : Below B w w') (hB : w.heap.size ≤ B) : Terms w' v ts := ⟨h.1.below hb hB, h.2⟩

def Lists (w : World) (v : Value) (ls : List (List TermD)) : Prop :=
  ∃ V : Nat → Value, Sl w v ls.length 1 (fun i _ => V i) ∧ ∀ i, i < ls.length → Terms w (V i) (ls.getD i [])

theorem Lists.below {w w' : World} {v : Value} {ls : List (List TermD)} (h : Lists w v ls) {B : Nat} (hb : Below B w w') (hB : w.heap.size ≤ B) : Lists w' v ls := by
  obtain ⟨V, h1, h2⟩ := h
  exact ⟨V, h1.below hb hB, fun i hi => (h2 i hi).below hb hB⟩

def Strs (w : World) (v : Value) (ss : List ByteArray) : Prop := Sl w v ss.length 1 (fun i _ => .string (ss.getD i ⟨#[]⟩)) ∧ ∀ s ∈ ss, s.size ≤ maxLen
theorem Strs.below {w w' : World} {v : Value} {ss : List ByteArray} (h : Strs w v ss) {B : Nat} (hb : Below B w w') (hB : w.heap.size ≤ B) : Strs w' v ss := ⟨h.1.below hb hB, h.2⟩

def fileRow (f : ByteArray × ByteArray) : Nat → Value
  | 0 => .string f.1
  | _ => .string f.2
def Files (w : World) (v : Value) (fs : List (ByteArray × ByteArray)) : Prop := Sl w v fs.length 2 (fun i j => fileRow (fs.getD i (⟨#[]⟩, ⟨#[]⟩)) j) ∧ ∀ f ∈ fs, f.1.size ≤ maxLen ∧ f.2.size ≤ maxLen
theorem Files.below {w w' : World} {v : Value} {fs : List (ByteArray × ByteArray)} (h : Files w v fs) {B : Nat} (hb : Below B w w') (hB : w.heap.size ≤ B) : Files w' v fs := ⟨h.1.below hb hB, h.2⟩

/-- A package. -/
structure PackD where
  name : ByteArray
  ep : Int
  up : ByteArray
  rv : ByteArray
  depends : List (List TermD)
  ahead : List (List TermD)
  against : List TermD
  breaks : List TermD
  replaces : List TermD
  provides : List TermD
  settings : List ByteArray
  listens : List ByteArray
  files : List (ByteArray × ByteArray)

def PackD.none : PackD := ⟨⟨#[]⟩, 0, ⟨#[]⟩, ⟨#[]⟩, [], [], [], [], [], [], [], [], []⟩

instance : Inhabited PackD := ⟨PackD.none⟩

/-- A package's thirteen cells. -/
structure PackOk (w : World) (p : PackD) (R : Nat → Value) : Prop where
  name : R 0 = .string p.name
  ep : R 1 = .int .i64 p.ep
  up : R 2 = .string p.up
  rv : R 3 = .string p.rv
  depends : Lists w (R 4) p.depends
  ahead : Lists w (R 5) p.ahead
  against : Terms w (R 6) p.against
  breaks : Terms w (R 7) p.breaks
  replaces : Terms w (R 8) p.replaces
  provides : Terms w (R 9) p.provides
  settings : Strs w (R 10) p.settings
  listens : Strs w (R 11) p.listens
  files : Files w (R 12) p.files
  lens : p.name.size ≤ maxLen ∧ p.up.size ≤ maxLen ∧ p.rv.size ≤ maxLen

theorem PackOk.below {w w' : World} {p : PackD} {R : Nat → Value} (h : PackOk w p R) {B : Nat} (hb : Below B w w') (hB : w.heap.size ≤ B) : PackOk w' p R :=
  ⟨h.name, h.ep, h.up, h.rv, h.depends.below hb hB, h.ahead.below hb hB, h.against.below hb hB, h.breaks.below hb hB, h.replaces.below hb hB, h.provides.below hb hB, h.settings.below hb hB, h.listens.below hb hB, h.files.below hb hB, h.lens⟩

def Packs (w : World) (v : Value) (ps : List PackD) : Prop :=
  ∃ R : Nat → Nat → Value, Sl w v ps.length 13 R ∧ ∀ i, i < ps.length → PackOk w (ps.getD i PackD.none) (R i)

theorem Packs.below {w w' : World} {v : Value} {ps : List PackD} (h : Packs w v ps) {B : Nat} (hb : Below B w w') (hB : w.heap.size ≤ B) : Packs w' v ps := by
  obtain ⟨R, h1, h2⟩ := h
  exact ⟨R, h1.below hb hB, fun i hi => (h2 i hi).below hb hB⟩

/-! ### Down from the row's reading -/
section
variable {H : Type} {enc : TypeId × Value → H} {P : Program} {w : World} {base fuel : Nat} {sp : Nat → Bool} {held : Bool} {x : DataW H × List MemPlace}

theorem addr_add (b o n : Nat) : (⟨b, o, none⟩ : Addr).add n = ⟨b, o + n, none⟩ := by
  unfold Addr.add
  split
  · rename_i h; subst h; rfl
  · rfl

/-- Any slice, element by element: its cells, each element's own reading. -/
theorem open_sl {t e sz : Nat} {v : Value} (ht : P.underlying t = some (.slice e)) (hc : P.cellsOf e = sz) (hsz : 0 < sz) (h : DataW.trod enc P w base sp held fuel t [v] = some x) :
    ∃ (n m : Nat) (R : Nat → Nat → Value), Sl w v n sz R ∧ ∀ i, i < n → ∃ y, DataW.trod enc P w base sp held m e ((List.range sz).map (R i)) = some y := by
  rcases Deep.open_slice ht h with ⟨hv, _⟩ | ⟨a, len, cap, m, n, D, Pl, hv, _, hl, hm, hmm, _, hel⟩
  · obtain rfl : v = .slice none 0 0 := by simpa using hv
    exact ⟨0, 0, fun _ _ => .nilFunc, Sl.nil _ _ _, fun i hi => absurd hi (Nat.not_lt_zero _)⟩
  · obtain rfl : v = .slice (some a) len cap := by simpa using hv
    have hle : len ≤ m := by rw [hmm]; split <;> omega
    rw [hc] at hel
    obtain ⟨C, hC⟩ := Deep.choose_lt (α := List Value) (p := fun i cs => w.cells? base (a.add (i * sz)) sz = some cs ∧ DataW.trod enc P w base sp held n e cs = some (D i, Pl i)) (fun i (hi : i < m) => hel i hi)
    refine ⟨len, n, fun i j => (C i).getD j .nilFunc, ⟨some a, cap, rfl, hl, hm, ?_⟩, fun i hi => ?_⟩
    · rcases Nat.eq_zero_or_pos len with h0 | h0
      · exact Or.inl h0
      · right
        obtain ⟨h1, _⟩ := hC 0 (by omega)
        obtain ⟨_, _, g0⟩ := World.cells?_some h1
        have c0 := g0 0 hsz
        rw [Nat.zero_mul] at c0
        have hlen0 := (World.cells?_some h1).2.1
        have e0 : (a.add 0).add 0 = a := by simp [Addr.add]
        rw [e0, List.getElem?_eq_getElem (show 0 < (C 0).length by omega)] at c0
        obtain ⟨b, o, s⟩ := a
        have hs : s = none := by
          cases s with
          | none => rfl
          | some z =>
            exfalso
            unfold World.cell? at c0
            split at c0
            · simp at c0
            · simp at c0
        subst hs
        have hb : b < w.heap.size := by
          rcases Nat.lt_or_ge b w.heap.size with h' | h'
          · exact h'
          · simp [World.cell?, Array.getElem?_eq_none h'] at c0
        refine ⟨b, o, rfl, hb, fun i j hi hj => ?_⟩
        obtain ⟨h2, _⟩ := hC i (by omega)
        obtain ⟨_, hln, g⟩ := World.cells?_some h2
        have := g j hj
        rw [addr_add, addr_add] at this
        rw [this]
        simp [List.getD, List.getElem?_eq_getElem (show j < (C i).length by omega)]
    · obtain ⟨h1, h2⟩ := hC i (by omega)
      have hln := (World.cells?_some h1).2.1
      refine ⟨(D i, Pl i), ?_⟩
      · have e1 : (List.range sz).map (fun j => (C i).getD j .nilFunc) = C i := by
          apply List.ext_getElem?
          intro j
          by_cases hj : j < sz
          · simp [hj, List.getD, List.getElem?_eq_getElem (show j < (C i).length by omega)]
          · rw [List.getElem?_eq_none (by simp; omega), List.getElem?_eq_none (by omega)]
        rw [e1]
        exact h2
end
end Go.Proofs.YtodmnogoacghpaaGreatDoor
/-
  DERIVED: THE SHELF's CONTRACTS AT THIS DUMP, IN PLAIN WORDS (tools/lay-plain.mjs out of 'YtodmnogoacghpaaGreatDoorLays.lean', which tools/lay-shelf.mjs wrote): THE SAME DECLARATIONS UNDER THE SAME NAMES: 'import', 'namespace', 'open', 'def', 'theorem' AND NOTHING ELSE: no command of the shelf's: FOR A HAND-IN. Each laying: the table of numbers ('.._ren') and one theorem, a field a fact of the dump's own or the kernel's comparison; each contract: ONE APPLICATION.
-/
namespace Go.Proofs
open Go.Shelf
def Tryz.keysS_ren : Go.Shelf.Ren := ⟨fun | 7 => 37 | 10 => 52 | n => n, fun | 23 => 24 | 26 => 9 | 3 => 9 | 28 => 84 | 0 => 0 | 27 => 83 | 33 => 99 | 4 => 4 | n => n, fun | n => n⟩
theorem Tryz.keysS : Go.Proofs.SlLaysZ.n7 Tryz.prog Tryz.keysS_ren := {
  mixed := by kernel_rfl
  f7 := ⟨Tryz.f37.name, by decide, Tryz.func37.trans (congrArg some (by kernel_rfl))⟩
  f10 := ⟨Tryz.f52.name, by decide, Tryz.func52.trans (congrArg some (by kernel_rfl))⟩
  t0 := Tryz.underlying0
  a0 := Tryz.isAgg0
  z0 := Tryz.sizeOf0
  v0 := Tryz.zeroValue0
  t4 := Tryz.underlying4
  a4 := Tryz.isAgg4
  z4 := Tryz.sizeOf4
  v4 := Tryz.zeroValue4
  t23 := Tryz.underlying24
  a23 := Tryz.isAgg24
  z23 := Tryz.sizeOf24
  v23 := Tryz.zeroValue24
  t26 := Tryz.underlying9
  a26 := Tryz.isAgg9
  z26 := Tryz.sizeOf9
  v26 := Tryz.zeroValue9
  t27 := Tryz.underlying83
  a27 := Tryz.isAgg83
  z27 := Tryz.sizeOf83
  v27 := Tryz.zeroValue83
  t28 := Tryz.underlying84
  a28 := Tryz.isAgg84
  z28 := Tryz.sizeOf84
  v28 := Tryz.zeroValue84
  t33 := Tryz.underlying99
  a33 := Tryz.isAgg99
  z33 := Tryz.sizeOf99
  v33 := Tryz.zeroValue99 }
def Tryz.sortedS_ren : Go.Shelf.Ren := ⟨fun | 6 => 36 | 8 => 50 | 9 => 51 | 11 => 64 | 13 => 66 | 12 => 65 | 23 => 84 | 24 => 85 | 14 => 75 | 15 => 76 | 16 => 77 | 17 => 78 | 18 => 79 | 19 => 80 | 20 => 81 | 21 => 82 | 22 => 83 | 25 => 92 | 26 => 93 | 27 => 94 | 28 => 95 | 29 => 96 | 30 => 97 | 31 => 100 | n => n, fun | 26 => 9 | 28 => 84 | 24 => 52 | 0 => 0 | 3 => 3 | 37 => 87 | 48 => 152 | 50 => 154 | 4 => 4 | 40 => 145 | 39 => 144 | 45 => 149 | 5 => 5 | 9 => 9 | 51 => 158 | 55 => 162 | 57 => 166 | 58 => 167 | 33 => 99 | n => n, fun | n => n⟩
theorem Tryz.sortedS : Go.Proofs.SlLaysZ.n6 Tryz.prog Tryz.sortedS_ren := {
  mixed := by kernel_rfl
  f6 := ⟨Tryz.f36.name, by decide, Tryz.func36.trans (congrArg some (by kernel_rfl))⟩
  f8 := ⟨Tryz.f50.name, by decide, Tryz.func50.trans (congrArg some (by kernel_rfl))⟩
  f11 := ⟨Tryz.f64.name, by decide, Tryz.func64.trans (congrArg some (by kernel_rfl))⟩
  t0 := Tryz.underlying0
  a0 := Tryz.isAgg0
  z0 := Tryz.sizeOf0
  v0 := Tryz.zeroValue0
  t24 := Tryz.underlying52
  a24 := Tryz.isAgg52
  z24 := Tryz.sizeOf52
  v24 := Tryz.zeroValue52
  t26 := Tryz.underlying9
  a26 := Tryz.isAgg9
  z26 := Tryz.sizeOf9
  v26 := Tryz.zeroValue9
  t28 := Tryz.underlying84
  a28 := Tryz.isAgg84
  z28 := Tryz.sizeOf84
  v28 := Tryz.zeroValue84
  i26 := by kernel_rfl }
def Tryz.sortS_ren : Go.Shelf.Ren := ⟨fun | 6 => 51 | 8 => 66 | 9 => 65 | 19 => 84 | 20 => 85 | 21 => 75 | 22 => 76 | 23 => 77 | 24 => 78 | 25 => 79 | 26 => 80 | 27 => 81 | 28 => 82 | 29 => 83 | 36 => 92 | 31 => 93 | 32 => 94 | 37 => 95 | 38 => 96 | 39 => 97 | 41 => 100 | n => n, fun | 27 => 52 | 29 => 9 | 3 => 3 | 32 => 87 | 26 => 52 | 0 => 0 | 44 => 152 | 46 => 154 | 4 => 4 | 36 => 145 | 35 => 144 | 41 => 149 | 5 => 5 | 9 => 9 | 53 => 158 | 57 => 162 | 63 => 166 | 64 => 167 | n => n, fun | n => n⟩
theorem Tryz.sortS : Go.Proofs.SlLaysM.n6 Tryz.prog Tryz.sortS_ren := {
  mixed := by kernel_rfl
  f6 := ⟨Tryz.f51.name, by decide, Tryz.func51.trans (congrArg some (by kernel_rfl))⟩
  f8 := Tryz.func66.trans (congrArg some (by kernel_rfl))
  f9 := ⟨Tryz.f65.name, by decide, Tryz.func65.trans (congrArg some (by kernel_rfl))⟩
  f19 := Tryz.func84.trans (congrArg some (by kernel_rfl))
  f20 := Tryz.func85.trans (congrArg some (by kernel_rfl))
  f21 := ⟨Tryz.f75.name, by decide, Tryz.func75.trans (congrArg some (by kernel_rfl))⟩
  f22 := ⟨Tryz.f76.name, by decide, Tryz.func76.trans (congrArg some (by kernel_rfl))⟩
  f23 := ⟨Tryz.f77.name, by decide, Tryz.func77.trans (congrArg some (by kernel_rfl))⟩
  f24 := ⟨Tryz.f78.name, by decide, Tryz.func78.trans (congrArg some (by kernel_rfl))⟩
  f25 := ⟨Tryz.f79.name, by decide, Tryz.func79.trans (congrArg some (by kernel_rfl))⟩
  f26 := ⟨Tryz.f80.name, by decide, Tryz.func80.trans (congrArg some (by kernel_rfl))⟩
  f27 := ⟨Tryz.f81.name, by decide, Tryz.func81.trans (congrArg some (by kernel_rfl))⟩
  f28 := ⟨Tryz.f82.name, by decide, Tryz.func82.trans (congrArg some (by kernel_rfl))⟩
  f29 := ⟨Tryz.f83.name, by decide, Tryz.func83.trans (congrArg some (by kernel_rfl))⟩
  f31 := Tryz.func93.trans (congrArg some (by kernel_rfl))
  f32 := Tryz.func94.trans (congrArg some (by kernel_rfl))
  f36 := ⟨Tryz.f92.name, by decide, Tryz.func92.trans (congrArg some (by kernel_rfl))⟩
  f37 := ⟨Tryz.f95.name, by decide, Tryz.func95.trans (congrArg some (by kernel_rfl))⟩
  f38 := ⟨Tryz.f96.name, by decide, Tryz.func96.trans (congrArg some (by kernel_rfl))⟩
  f39 := ⟨Tryz.f97.name, by decide, Tryz.func97.trans (congrArg some (by kernel_rfl))⟩
  f41 := ⟨Tryz.f100.name, by decide, Tryz.func100.trans (congrArg some (by kernel_rfl))⟩
  t0 := Tryz.underlying0
  a0 := Tryz.isAgg0
  z0 := Tryz.sizeOf0
  v0 := Tryz.zeroValue0
  t3 := Tryz.underlying3
  a3 := Tryz.isAgg3
  z3 := Tryz.sizeOf3
  v3 := Tryz.zeroValue3
  t4 := Tryz.underlying4
  a4 := Tryz.isAgg4
  z4 := Tryz.sizeOf4
  v4 := Tryz.zeroValue4
  t5 := Tryz.underlying5
  a5 := Tryz.isAgg5
  z5 := Tryz.sizeOf5
  v5 := Tryz.zeroValue5
  t9 := Tryz.underlying9
  a9 := Tryz.isAgg9
  z9 := Tryz.sizeOf9
  v9 := Tryz.zeroValue9
  t26 := Tryz.underlying52
  a26 := Tryz.isAgg52
  z26 := Tryz.sizeOf52
  v26 := Tryz.zeroValue52
  t27 := Tryz.underlying52
  a27 := Tryz.isAgg52
  z27 := Tryz.sizeOf52
  v27 := Tryz.zeroValue52
  t29 := Tryz.underlying9
  a29 := Tryz.isAgg9
  z29 := Tryz.sizeOf9
  v29 := Tryz.zeroValue9
  t32 := Tryz.underlying87
  a32 := Tryz.isAgg87
  z32 := Tryz.sizeOf87
  v32 := Tryz.zeroValue87
  t35 := Tryz.underlying144
  a35 := Tryz.isAgg144
  z35 := Tryz.sizeOf144
  v35 := Tryz.zeroValue144
  t36 := Tryz.underlying145
  a36 := Tryz.isAgg145
  z36 := Tryz.sizeOf145
  v36 := Tryz.zeroValue145
  t41 := Tryz.underlying149
  a41 := Tryz.isAgg149
  z41 := Tryz.sizeOf149
  v41 := Tryz.zeroValue149
  t44 := Tryz.underlying152
  a44 := Tryz.isAgg152
  z44 := Tryz.sizeOf152
  v44 := Tryz.zeroValue152
  t46 := Tryz.underlying154
  a46 := Tryz.isAgg154
  z46 := Tryz.sizeOf154
  v46 := Tryz.zeroValue154
  t53 := Tryz.underlying158
  a53 := Tryz.isAgg158
  z53 := Tryz.sizeOf158
  v53 := Tryz.zeroValue158
  t57 := Tryz.underlying162
  a57 := Tryz.isAgg162
  z57 := Tryz.sizeOf162
  v57 := Tryz.zeroValue162
  t63 := Tryz.underlying166
  a63 := Tryz.isAgg166
  z63 := Tryz.sizeOf166
  v63 := Tryz.zeroValue166
  t64 := Tryz.underlying167
  a64 := Tryz.isAgg167
  z64 := Tryz.sizeOf167
  v64 := Tryz.zeroValue167 }
def Tryz.cloneS_ren : Go.Shelf.Ren := ⟨fun | 5 => 40 | 7 => 57 | n => n, fun | 23 => 24 | 25 => 9 | 3 => 9 | 4 => 4 | 20 => 20 | n => n, fun | n => n⟩
theorem Tryz.cloneS : Go.Proofs.SlLaysW.n5 Tryz.prog Tryz.cloneS_ren := {
  mixed := by kernel_rfl
  f5 := ⟨Tryz.f40.name, by decide, Tryz.func40.trans (congrArg some (by kernel_rfl))⟩
  f7 := Tryz.func57.trans (congrArg some (by kernel_rfl))
  t4 := Tryz.underlying4
  a4 := Tryz.isAgg4
  z4 := Tryz.sizeOf4
  v4 := Tryz.zeroValue4
  t20 := Tryz.underlying20
  a20 := Tryz.isAgg20
  z20 := Tryz.sizeOf20
  v20 := Tryz.zeroValue20
  t23 := Tryz.underlying24
  a23 := Tryz.isAgg24
  z23 := Tryz.sizeOf24
  v23 := Tryz.zeroValue24 }
end Go.Proofs
