/- The end of every law's proof: from 'returns true, and nothing old has turned' to the row's conclusion. · Data that lie in memory: slices whose elements are read cell by cell; terms, packages. What is read stays read where only new blocks are laid. · Down from the row's reading to terms, lists of terms, packages. · Packages that are known, and how they stand: both kinds, cell by cell. · The order of versions, in plain words: no Go in sight. -/
import Derived.Test.YtnfnebfioibndaaGreatDoorRows
import Derived.WalkKit
import Derived.ProofKit
import Derived.OpenShut
import Derived.Below
import Derived.Deep.Slices
import Derived.Lib.Strings
import Derived.Deep.Strs
import Derived.Lib.Bytealg
import Derived.Lib.Small
import Derived.Lib.SlTrimSet
namespace Go.Proofs.YtnfnebfioibndaaGreatDoor
open Go.RowKit Go.ChangeShapes Go.WideShapes Go.ChangeAt

section
variable {H : Type} {enc : TypeId × Value → H} {P : Program}

theorem trodAll_below (hl : laidOutB P = true) {W W' : World} (hb : Below W.heap.size W W') :
    ∀ {ts : List TypeId} {vs : List Value} {ds : List (DataW H)} {ps : List MemPlace}, (∀ t ∈ ts, P.readableRec t = true ∧ t < P.types.size) →
      DataW.TrodAll enc P W 0 (fun _ => true) true ts vs ds ps → (∀ x ∈ ps, x.block < W.heap.size) →
      DataW.TrodAll enc P W' 0 (fun b => decide (b < W.heap.size)) true ts vs ds ps
  | [], [], [], _, _, h, _ => h
  | [], [], _ :: _, _, _, h, _ => h.elim
  | [], _ :: _, _, _, _, h, _ => h.elim
  | _ :: _, [], _, _, _, h, _ => h.elim
  | _ :: _, _ :: _, [], _, _, h, _ => h.elim
  | t :: ts, v :: vs, d :: ds, ps, hr, ⟨p, q, h1, h2, e⟩, hlt => by
    have ht := hr t (List.mem_cons.2 (Or.inl rfl))
    exact ⟨p, q, Below.trod hl ht.1 ht.2 h1 hb (fun x hx => hlt x (by rw [e]; exact List.mem_append_left _ hx)),
      trodAll_below hl hb (fun t' h' => hr t' (List.mem_cons.2 (Or.inr h'))) h2 (fun x hx => hlt x (by rw [e]; exact List.mem_append_right _ hx)), e⟩

/-- The law returned true and left what was there: that is what the row says. -/
theorem law_post {f : Func} {s : ChangeSpec} {W W' : World} {args : Array Value} {ds gs : List (DataW H)} {before : List MemPlace} {tb : TypeId}
    (hl : laidOutB P = true) (hr : (f.params.toList.all fun t => P.readableRec t && decide (t < P.types.size)) = true)
    (hW : DataW.Whole enc P f.params.toList s.vars false W args.toList ds gs before) (hv : s.vars = [])
    (hfn : s.fn H (ds ++ gs) = { results := [.lit (.bool true)], args := ds })
    (hrt : f.resultTypes = #[tb]) (htb : P.underlying tb = some .bool) (hb : Below W.heap.size W W') :
    s.post enc P f false true false false W args (.bool true) W' := by
  have hlt := hW.lt
  have hW' := hW
  obtain ⟨p, q, hA, hV, rfl, _, _⟩ := hW
  rw [hv] at hV
  obtain ⟨rfl, rfl⟩ := trodVars_none hV
  refine ⟨ds, [], p ++ [], [], p, [], hW', ?_, ?_, ?_, hb.frame _, fun h => by cases h⟩
  · rw [hfn, hrt]
    exact trodAll_mk1 (shut_bool htb true)
  · rw [hfn]
    refine trodAll_below hl hb (fun t ht => ?_) hA (fun x hx => hlt x (by simpa using hx))
    have := List.all_eq_true.1 hr t ht
    simpa using this
  · rw [hfn, hv]
    rfl

end
end Go.Proofs.YtnfnebfioibndaaGreatDoor
namespace Go.Proofs.YtnfnebfioibndaaGreatDoor
open Go.RowKit Go.ChangeShapes Go.WideShapes Go.ChangeAt

/-- A slice of n elements of sz cells each: cell j of element i holds R i j. -/
def Sl (w : World) (v : Value) (n sz : Nat) (R : Nat → Nat → Value) : Prop :=
  ∃ (a : Option Addr) (cap : Nat), v = .slice a n cap ∧ n ≤ cap ∧ cap ≤ maxLen ∧
    (n = 0 ∨ ∃ b o, a = some ⟨b, o, none⟩ ∧ b < w.heap.size ∧ ∀ i j, i < n → j < sz → w.cell? ⟨b, o + i * sz + j, none⟩ = some (R i j))

theorem Sl.below {w w' : World} {v : Value} {n sz : Nat} {R : Nat → Nat → Value} (h : Sl w v n sz R) {B : Nat} (hb : Below B w w') (hB : w.heap.size ≤ B) : Sl w' v n sz R := by
  obtain ⟨a, cap, e, h1, h2, h3⟩ := h
  refine ⟨a, cap, e, h1, h2, ?_⟩
  rcases h3 with h3 | ⟨b, o, ea, hlt, hc⟩
  · exact Or.inl h3
  · exact Or.inr ⟨b, o, ea, Nat.lt_of_lt_of_le hlt hb.size, fun i j hi hj => (hb.cell (p := ⟨b, o + i * sz + j, none⟩) (Nat.lt_of_lt_of_le hlt hB)).trans (hc i j hi hj)⟩

theorem Sl.nil (w : World) (sz : Nat) (R : Nat → Nat → Value) : Sl w (.slice none 0 0) 0 sz R := ⟨none, 0, rfl, Nat.le_refl _, Nat.zero_le _, Or.inl rfl⟩

theorem Sl.congr {w : World} {v : Value} {n sz : Nat} {R R' : Nat → Nat → Value} (h : Sl w v n sz R) (he : ∀ i j, i < n → j < sz → R i j = R' i j) : Sl w v n sz R' := by
  obtain ⟨a, cap, e, h1, h2, h3⟩ := h
  refine ⟨a, cap, e, h1, h2, ?_⟩
  rcases h3 with h3 | ⟨b, o, ea, hlt, hc⟩
  · exact Or.inl h3
  · exact Or.inr ⟨b, o, ea, hlt, fun i j hi hj => by rw [← he i j hi hj]; exact hc i j hi hj⟩

/-- A package that is asked for. -/
structure TermD : Type where
  name : ByteArray
  op : Int
  ep : Int
  up : ByteArray
  rv : ByteArray

def TermD.none : TermD := ⟨⟨#[]⟩, 0, 0, ⟨#[]⟩, ⟨#[]⟩⟩

instance : Inhabited TermD := ⟨TermD.none⟩

def TermD.row (t : TermD) : Nat → Value
  | 0 => .string t.name
  | 1 => .int .i64 t.op
  | 2 => .int .i64 t.ep
  | 3 => .string t.up
  | _ => .string t.rv

def TermD.at (ts : List TermD) (i : Nat) : TermD := ts.getD i TermD.none

def Terms (w : World) (v : Value) (ts : List TermD) : Prop := Sl w v ts.length 5 (fun i j => (TermD.at ts i).row j) ∧ ∀ t ∈ ts, t.name.size ≤ maxLen ∧ t.up.size ≤ maxLen ∧ t.rv.size ≤ maxLen

theorem Terms.below {w w' : World} {v : Value} {ts : List TermD} (h : Terms w v ts) {B : Nat} (hb : Below B w w') (hB : w.heap.size ≤ B) : Terms w' v ts := ⟨h.1.below hb hB, h.2⟩

def Lists (w : World) (v : Value) (ls : List (List TermD)) : Prop :=
  ∃ V : Nat → Value, Sl w v ls.length 1 (fun i _ => V i) ∧ ∀ i, i < ls.length → Terms w (V i) (ls.getD i [])

theorem Lists.below {w w' : World} {v : Value} {ls : List (List TermD)} (h : Lists w v ls) {B : Nat} (hb : Below B w w') (hB : w.heap.size ≤ B) : Lists w' v ls := by
  obtain ⟨V, h1, h2⟩ := h
  exact ⟨V, h1.below hb hB, fun i hi => (h2 i hi).below hb hB⟩

def Strs (w : World) (v : Value) (ss : List ByteArray) : Prop := Sl w v ss.length 1 (fun i _ => .string (ss.getD i ⟨#[]⟩)) ∧ ∀ s ∈ ss, s.size ≤ maxLen
theorem Strs.below {w w' : World} {v : Value} {ss : List ByteArray} (h : Strs w v ss) {B : Nat} (hb : Below B w w') (hB : w.heap.size ≤ B) : Strs w' v ss := ⟨h.1.below hb hB, h.2⟩

def fileRow (f : ByteArray × ByteArray) : Nat → Value
  | 0 => .string f.1
  | _ => .string f.2
def Files (w : World) (v : Value) (fs : List (ByteArray × ByteArray)) : Prop := Sl w v fs.length 2 (fun i j => fileRow (fs.getD i (⟨#[]⟩, ⟨#[]⟩)) j) ∧ ∀ f ∈ fs, f.1.size ≤ maxLen ∧ f.2.size ≤ maxLen
theorem Files.below {w w' : World} {v : Value} {fs : List (ByteArray × ByteArray)} (h : Files w v fs) {B : Nat} (hb : Below B w w') (hB : w.heap.size ≤ B) : Files w' v fs := ⟨h.1.below hb hB, h.2⟩

/-- A package. -/
structure PackD where
  name : ByteArray
  ep : Int
  up : ByteArray
  rv : ByteArray
  depends : List (List TermD)
  ahead : List (List TermD)
  against : List TermD
  breaks : List TermD
  replaces : List TermD
  provides : List TermD
  settings : List ByteArray
  listens : List ByteArray
  files : List (ByteArray × ByteArray)

def PackD.none : PackD := ⟨⟨#[]⟩, 0, ⟨#[]⟩, ⟨#[]⟩, [], [], [], [], [], [], [], [], []⟩

instance : Inhabited PackD := ⟨PackD.none⟩

/-- A package's thirteen cells. -/
structure PackOk (w : World) (p : PackD) (R : Nat → Value) : Prop where
  name : R 0 = .string p.name
  ep : R 1 = .int .i64 p.ep
  up : R 2 = .string p.up
  rv : R 3 = .string p.rv
  depends : Lists w (R 4) p.depends
  ahead : Lists w (R 5) p.ahead
  against : Terms w (R 6) p.against
  breaks : Terms w (R 7) p.breaks
  replaces : Terms w (R 8) p.replaces
  provides : Terms w (R 9) p.provides
  settings : Strs w (R 10) p.settings
  listens : Strs w (R 11) p.listens
  files : Files w (R 12) p.files
  lens : p.name.size ≤ maxLen ∧ p.up.size ≤ maxLen ∧ p.rv.size ≤ maxLen

theorem PackOk.below {w w' : World} {p : PackD} {R : Nat → Value} (h : PackOk w p R) {B : Nat} (hb : Below B w w') (hB : w.heap.size ≤ B) : PackOk w' p R :=
  ⟨h.name, h.ep, h.up, h.rv, h.depends.below hb hB, h.ahead.below hb hB, h.against.below hb hB, h.breaks.below hb hB, h.replaces.below hb hB, h.provides.below hb hB, h.settings.below hb hB, h.listens.below hb hB, h.files.below hb hB, h.lens⟩

def Packs (w : World) (v : Value) (ps : List PackD) : Prop :=
  ∃ R : Nat → Nat → Value, Sl w v ps.length 13 R ∧ ∀ i, i < ps.length → PackOk w (ps.getD i PackD.none) (R i)

theorem Packs.below {w w' : World} {v : Value} {ps : List PackD} (h : Packs w v ps) {B : Nat} (hb : Below B w w') (hB : w.heap.size ≤ B) : Packs w' v ps := by
  obtain ⟨R, h1, h2⟩ := h
  exact ⟨R, h1.below hb hB, fun i hi => (h2 i hi).below hb hB⟩

/-! ### Down from the row's reading -/
section
variable {H : Type} {enc : TypeId × Value → H} {P : Program} {w : World} {base fuel : Nat} {sp : Nat → Bool} {held : Bool} {x : DataW H × List MemPlace}

theorem addr_add (b o n : Nat) : (⟨b, o, none⟩ : Addr).add n = ⟨b, o + n, none⟩ := by
  unfold Addr.add
  split
  · rename_i h; subst h; rfl
  · rfl

/-- Any slice, element by element: its cells, each element's own reading. -/
theorem open_sl {t e sz : Nat} {v : Value} (ht : P.underlying t = some (.slice e)) (hc : P.cellsOf e = sz) (hsz : 0 < sz) (h : DataW.trod enc P w base sp held fuel t [v] = some x) :
    ∃ (n m : Nat) (R : Nat → Nat → Value), Sl w v n sz R ∧ ∀ i, i < n → ∃ y, DataW.trod enc P w base sp held m e ((List.range sz).map (R i)) = some y := by
  rcases Deep.open_slice ht h with ⟨hv, _⟩ | ⟨a, len, cap, m, n, D, Pl, hv, _, hl, hm, hmm, _, hel⟩
  · obtain rfl : v = .slice none 0 0 := by simpa using hv
    exact ⟨0, 0, fun _ _ => .nilFunc, Sl.nil _ _ _, fun i hi => absurd hi (Nat.not_lt_zero _)⟩
  · obtain rfl : v = .slice (some a) len cap := by simpa using hv
    have hle : len ≤ m := by rw [hmm]; split <;> omega
    rw [hc] at hel
    obtain ⟨C, hC⟩ := Deep.choose_lt (α := List Value) (p := fun i cs => w.cells? base (a.add (i * sz)) sz = some cs ∧ DataW.trod enc P w base sp held n e cs = some (D i, Pl i)) (fun i (hi : i < m) => hel i hi)
    refine ⟨len, n, fun i j => (C i).getD j .nilFunc, ⟨some a, cap, rfl, hl, hm, ?_⟩, fun i hi => ?_⟩
    · rcases Nat.eq_zero_or_pos len with h0 | h0
      · exact Or.inl h0
      · right
        obtain ⟨h1, _⟩ := hC 0 (by omega)
        obtain ⟨_, _, g0⟩ := World.cells?_some h1
        have c0 := g0 0 hsz
        rw [Nat.zero_mul] at c0
        have hlen0 := (World.cells?_some h1).2.1
        have e0 : (a.add 0).add 0 = a := by simp [Addr.add]
        rw [e0, List.getElem?_eq_getElem (show 0 < (C 0).length by omega)] at c0
        obtain ⟨b, o, s⟩ := a
        have hs : s = none := by
          cases s with
          | none => rfl
          | some z =>
            exfalso
            unfold World.cell? at c0
            split at c0
            · simp at c0
            · simp at c0
        subst hs
        have hb : b < w.heap.size := by
          rcases Nat.lt_or_ge b w.heap.size with h' | h'
          · exact h'
          · simp [World.cell?, Array.getElem?_eq_none h'] at c0
        refine ⟨b, o, rfl, hb, fun i j hi hj => ?_⟩
        obtain ⟨h2, _⟩ := hC i (by omega)
        obtain ⟨_, hln, g⟩ := World.cells?_some h2
        have := g j hj
        rw [addr_add, addr_add] at this
        rw [this]
        simp [List.getD, List.getElem?_eq_getElem (show j < (C i).length by omega)]
    · obtain ⟨h1, h2⟩ := hC i (by omega)
      have hln := (World.cells?_some h1).2.1
      refine ⟨(D i, Pl i), ?_⟩
      · have e1 : (List.range sz).map (fun j => (C i).getD j .nilFunc) = C i := by
          apply List.ext_getElem?
          intro j
          by_cases hj : j < sz
          · simp [hj, List.getD, List.getElem?_eq_getElem (show j < (C i).length by omega)]
          · rw [List.getElem?_eq_none (by simp; omega), List.getElem?_eq_none (by omega)]
        rw [e1]
        exact h2
end
end Go.Proofs.YtnfnebfioibndaaGreatDoor
namespace Go.Proofs.YtnfnebfioibndaaGreatDoor
open Go.RowKit Go.ChangeShapes Go.WideShapes Go.ChangeAt

theorem r_cStr : Tryz.prog.cellsOf 9 = 1 := by kernel_rfl
theorem r_cInt : Tryz.prog.cellsOf 3 = 1 := by kernel_rfl
theorem r_cVer : Tryz.prog.cellsOf 24 = 3 := by kernel_rfl
theorem r_cTerm : Tryz.prog.cellsOf 98 = 5 := by kernel_rfl
theorem r_cTerms : Tryz.prog.cellsOf 26 = 1 := by kernel_rfl
theorem r_cLists : Tryz.prog.cellsOf 25 = 1 := by kernel_rfl
theorem r_cStrs : Tryz.prog.cellsOf 27 = 1 := by kernel_rfl
theorem r_cFiles : Tryz.prog.cellsOf 28 = 1 := by kernel_rfl
theorem r_cFile : Tryz.prog.cellsOf 65 = 2 := by kernel_rfl
theorem r_cPack : Tryz.prog.cellsOf 30 = 13 := by kernel_rfl

section
variable {H : Type} {enc : TypeId × Value → H} {w : World} {base fuel : Nat} {sp : Nat → Bool} {held : Bool} {x : DataW H × List MemPlace}

theorem rd_str {v : Value} (h : DataW.trod enc Tryz.prog w base sp held fuel 9 [v] = some x) : ∃ s : ByteArray, v = .string s ∧ s.size ≤ maxLen := by
  obtain ⟨s, h1, _, h2⟩ := DataW.trod_string Tryz.underlying9 h
  exact ⟨s, by simpa using h1, h2⟩
theorem rd_int {v : Value} (h : DataW.trod enc Tryz.prog w base sp held fuel 3 [v] = some x) : ∃ n : Int, v = .int .i64 n ∧ (Lit.int .i64 n).wf = true := by
  obtain ⟨n, h1, _, h2⟩ := DataW.trod_int Tryz.underlying3 h
  exact ⟨n, by simpa using h1, h2⟩
theorem rd_ver {c0 c1 c2 : Value} (h : DataW.trod enc Tryz.prog w base sp held fuel 24 [c0, c1, c2] = some x) :
    ∃ (e : Int) (u r : ByteArray), c0 = .int .i64 e ∧ c1 = .string u ∧ c2 = .string r ∧ u.size ≤ maxLen ∧ r.size ≤ maxLen := by
  obtain ⟨y0, y1, y2, n, _, _, h0, h1, h2⟩ := Deep.trod_struct3 Tryz.underlying24 h
  rw [r_cInt] at h0
  rw [r_cStr] at h1 h2
  obtain ⟨e, e0, _⟩ := rd_int h0
  obtain ⟨u, e1, l1⟩ := rd_str h1
  obtain ⟨r, e2, l2⟩ := rd_str h2
  exact ⟨e, u, r, e0, e1, e2, l1, l2⟩
theorem rd_term {R : Nat → Value} (h : DataW.trod enc Tryz.prog w base sp held fuel 98 ((List.range 5).map R) = some x) :
    ∃ t : TermD, (∀ j, j < 5 → R j = t.row j) ∧ t.name.size ≤ maxLen ∧ t.up.size ≤ maxLen ∧ t.rv.size ≤ maxLen := by
  obtain ⟨y0, y1, y2, n, _, _, h0, h1, h2⟩ := Deep.trod_struct3 Tryz.underlying98 h
  rw [r_cStr] at h0
  rw [r_cInt] at h1
  rw [r_cVer] at h2
  obtain ⟨s, e0, l0⟩ := rd_str (v := R 0) h0
  obtain ⟨o, e1, _⟩ := rd_int (v := R 1) h1
  obtain ⟨e, u, r, e2, e3, e4, l1, l2⟩ := rd_ver (c0 := R 2) (c1 := R 3) (c2 := R 4) h2
  refine ⟨⟨s, o, e, u, r⟩, fun j hj => ?_, l0, l1, l2⟩
  match j, hj with
  | 0, _ => exact e0
  | 1, _ => exact e1
  | 2, _ => exact e2
  | 3, _ => exact e3
  | 4, _ => exact e4
theorem rd_terms {v : Value} (h : DataW.trod enc Tryz.prog w base sp held fuel 26 [v] = some x) : ∃ ts, Terms w v ts := by
  obtain ⟨n, m, R, hS, hE⟩ := open_sl Tryz.underlying26 r_cTerm (by decide) h
  obtain ⟨T, hT⟩ := Deep.choose_lt (α := TermD) (h := fun i hi => rd_term (hE i hi).choose_spec) (p := fun i t => (∀ j, j < 5 → R i j = t.row j) ∧ t.name.size ≤ maxLen ∧ t.up.size ≤ maxLen ∧ t.rv.size ≤ maxLen)
  have hat : ∀ i, i < n → TermD.at ((List.range n).map T) i = T i := fun i hi => by simp [TermD.at, List.getD, hi]
  refine ⟨(List.range n).map T, ?_, ?_⟩
  · rw [List.length_map, List.length_range]
    exact hS.congr fun i j hi hj => by rw [hat i hi]; exact (hT i hi).1 j hj
  · intro t ht
    obtain ⟨i, hi, rfl⟩ := List.mem_map.1 ht
    exact (hT i (List.mem_range.1 hi)).2
theorem rd_lists {v : Value} (h : DataW.trod enc Tryz.prog w base sp held fuel 25 [v] = some x) : ∃ ls, Lists w v ls := by
  obtain ⟨n, m, R, hS, hE⟩ := open_sl Tryz.underlying25 r_cTerms (by decide) h
  obtain ⟨T, hT⟩ := Deep.choose_lt (α := List TermD) (p := fun i ts => Terms w (R i 0) ts) (fun i (hi : i < n) => rd_terms (hE i hi).choose_spec)
  refine ⟨(List.range n).map T, fun i => R i 0, ?_, ?_⟩
  · rw [List.length_map, List.length_range]
    exact hS.congr fun i j _ hj => by rw [show j = 0 by omega]
  · intro i hi
    rw [List.length_map, List.length_range] at hi
    have : ((List.range n).map T).getD i [] = T i := by simp [List.getD, hi]
    rw [this]
    exact hT i hi
theorem rd_strs {v : Value} (h : DataW.trod enc Tryz.prog w base sp held fuel 27 [v] = some x) : ∃ ss, Strs w v ss := by
  obtain ⟨n, m, R, hS, hE⟩ := open_sl Tryz.underlying27 r_cStr (by decide) h
  obtain ⟨T, hT⟩ := Deep.choose_lt (α := ByteArray) (p := fun i s => R i 0 = .string s ∧ s.size ≤ maxLen) (fun i (hi : i < n) => rd_str (hE i hi).choose_spec)
  refine ⟨(List.range n).map T, ?_, ?_⟩
  · rw [List.length_map, List.length_range]
    exact hS.congr fun i j hi hj => by rw [show j = 0 by omega, (hT i hi).1]; simp [List.getD, hi]
  · intro s hs
    obtain ⟨i, hi, rfl⟩ := List.mem_map.1 hs
    exact (hT i (List.mem_range.1 hi)).2
theorem rd_files {v : Value} (h : DataW.trod enc Tryz.prog w base sp held fuel 28 [v] = some x) : ∃ fs, Files w v fs := by
  obtain ⟨n, m, R, hS, hE⟩ := open_sl Tryz.underlying28 r_cFile (by decide) h
  have one : ∀ i, i < n → ∃ f : ByteArray × ByteArray, (R i 0 = .string f.1 ∧ R i 1 = .string f.2) ∧ f.1.size ≤ maxLen ∧ f.2.size ≤ maxLen := fun i hi => by
    obtain ⟨y, hy⟩ := hE i hi
    obtain ⟨y0, y1, n, _, _, h0, h1⟩ := trod_struct2 Tryz.underlying65 hy
    rw [r_cStr] at h0 h1
    obtain ⟨a, e0, l0⟩ := rd_str (v := R i 0) h0
    obtain ⟨b, e1, l1⟩ := rd_str (v := R i 1) h1
    exact ⟨(a, b), ⟨e0, e1⟩, l0, l1⟩
  obtain ⟨T, hT⟩ := Deep.choose_lt (α := ByteArray × ByteArray) one
  have hat : ∀ i, i < n → ((List.range n).map T).getD i (⟨#[]⟩, ⟨#[]⟩) = T i := fun i hi => by simp [List.getD, hi]
  refine ⟨(List.range n).map T, ?_, ?_⟩
  · rw [List.length_map, List.length_range]
    refine hS.congr fun i j hi hj => ?_
    rw [hat i hi]
    match j, hj with
    | 0, _ => exact (hT i hi).1.1
    | 1, _ => exact (hT i hi).1.2
  · intro f hf
    obtain ⟨i, hi, rfl⟩ := List.mem_map.1 hf
    exact (hT i (List.mem_range.1 hi)).2
theorem some_get {α : Type} {l : List α} {n i : Nat} (hl : l.length = n) (hi : i < n) : ∃ y, l[i]? = some y := ⟨_, List.getElem?_eq_getElem (by omega)⟩
theorem rd_pack {R : Nat → Value} (h : DataW.trod enc Tryz.prog w base sp held fuel 30 ((List.range 13).map R) = some x) : ∃ p, PackOk w p R := by
  obtain ⟨xs, n, _, _, _, hl, hf⟩ := DataW.trod_struct Tryz.underlying30 h
  have hl' : xs.length = 11 := hl
  have g : ∀ i f, (_ : Array Field)[i]? = some f → i < 11 → ∃ y, DataW.trod enc Tryz.prog w base sp held n f.type ((((List.range 13).map R).drop f.offset).take (Tryz.prog.cellsOf f.type)) = some y := fun i f hi h11 => by
    obtain ⟨y, hy⟩ := some_get hl' h11
    exact ⟨y, by rw [hf i f hi, hy]⟩
  obtain ⟨y0, g0⟩ : ∃ y, DataW.trod enc Tryz.prog w base sp held n 9 ((((List.range 13).map R).drop 0).take (Tryz.prog.cellsOf 9)) = some y := g 0 _ rfl (by decide)
  obtain ⟨y1, g1⟩ : ∃ y, DataW.trod enc Tryz.prog w base sp held n 24 ((((List.range 13).map R).drop 1).take (Tryz.prog.cellsOf 24)) = some y := g 1 _ rfl (by decide)
  obtain ⟨y2, g2⟩ : ∃ y, DataW.trod enc Tryz.prog w base sp held n 25 ((((List.range 13).map R).drop 4).take (Tryz.prog.cellsOf 25)) = some y := g 2 _ rfl (by decide)
  obtain ⟨y3, g3⟩ : ∃ y, DataW.trod enc Tryz.prog w base sp held n 25 ((((List.range 13).map R).drop 5).take (Tryz.prog.cellsOf 25)) = some y := g 3 _ rfl (by decide)
  obtain ⟨y4, g4⟩ : ∃ y, DataW.trod enc Tryz.prog w base sp held n 26 ((((List.range 13).map R).drop 6).take (Tryz.prog.cellsOf 26)) = some y := g 4 _ rfl (by decide)
  obtain ⟨y5, g5⟩ : ∃ y, DataW.trod enc Tryz.prog w base sp held n 26 ((((List.range 13).map R).drop 7).take (Tryz.prog.cellsOf 26)) = some y := g 5 _ rfl (by decide)
  obtain ⟨y6, g6⟩ : ∃ y, DataW.trod enc Tryz.prog w base sp held n 26 ((((List.range 13).map R).drop 8).take (Tryz.prog.cellsOf 26)) = some y := g 6 _ rfl (by decide)
  obtain ⟨y7, g7⟩ : ∃ y, DataW.trod enc Tryz.prog w base sp held n 26 ((((List.range 13).map R).drop 9).take (Tryz.prog.cellsOf 26)) = some y := g 7 _ rfl (by decide)
  obtain ⟨y8, g8⟩ : ∃ y, DataW.trod enc Tryz.prog w base sp held n 27 ((((List.range 13).map R).drop 10).take (Tryz.prog.cellsOf 27)) = some y := g 8 _ rfl (by decide)
  obtain ⟨y9, g9⟩ : ∃ y, DataW.trod enc Tryz.prog w base sp held n 27 ((((List.range 13).map R).drop 11).take (Tryz.prog.cellsOf 27)) = some y := g 9 _ rfl (by decide)
  obtain ⟨y10, g10⟩ : ∃ y, DataW.trod enc Tryz.prog w base sp held n 28 ((((List.range 13).map R).drop 12).take (Tryz.prog.cellsOf 28)) = some y := g 10 _ rfl (by decide)
  rw [r_cStr] at g0
  rw [r_cVer] at g1
  rw [r_cLists] at g2 g3
  rw [r_cTerms] at g4 g5 g6 g7
  rw [r_cStrs] at g8 g9
  rw [r_cFiles] at g10
  obtain ⟨nm, e0, l0⟩ := rd_str (v := R 0) g0
  obtain ⟨e, u, r, e1, e2, e3, l2, l3⟩ := rd_ver (c0 := R 1) (c1 := R 2) (c2 := R 3) g1
  obtain ⟨a2, k2⟩ := rd_lists (v := R 4) g2
  obtain ⟨a3, k3⟩ := rd_lists (v := R 5) g3
  obtain ⟨a4, k4⟩ := rd_terms (v := R 6) g4
  obtain ⟨a5, k5⟩ := rd_terms (v := R 7) g5
  obtain ⟨a6, k6⟩ := rd_terms (v := R 8) g6
  obtain ⟨a7, k7⟩ := rd_terms (v := R 9) g7
  obtain ⟨a8, k8⟩ := rd_strs (v := R 10) g8
  obtain ⟨a9, k9⟩ := rd_strs (v := R 11) g9
  obtain ⟨a10, k10⟩ := rd_files (v := R 12) g10
  exact ⟨⟨nm, e, u, r, a2, a3, a4, a5, a6, a7, a8, a9, a10⟩, ⟨e0, e1, e2, e3, k2, k3, k4, k5, k6, k7, k8, k9, k10, l0, l2, l3⟩⟩
theorem rd_packs {v : Value} (h : DataW.trod enc Tryz.prog w base sp held fuel 85 [v] = some x) : ∃ ps, Packs w v ps := by
  obtain ⟨n, m, R, hS, hE⟩ := open_sl Tryz.underlying85 r_cPack (by decide) h
  obtain ⟨T, hT⟩ := Deep.choose_lt (α := PackD) (p := fun i q => PackOk w q (R i)) (fun i (hi : i < n) => rd_pack (hE i hi).choose_spec)
  refine ⟨(List.range n).map T, R, by rw [List.length_map, List.length_range]; exact hS, fun i hi => ?_⟩
  rw [List.length_map, List.length_range] at hi
  have : ((List.range n).map T).getD i PackD.none = T i := by simp [List.getD, hi]
  rw [this]
  exact hT i hi
end
end Go.Proofs.YtnfnebfioibndaaGreatDoor
namespace Go.Proofs.YtnfnebfioibndaaGreatDoor
open Go.RowKit Go.ChangeShapes Go.WideShapes Go.ChangeAt
set_option maxRecDepth 100000

structure KnownD where
  state : Int
  ep : Int
  up : ByteArray
  rv : ByteArray
  held : Bool
  waits : List ByteArray
  tasks : List ByteArray
  pack : PackD
def KnownD.none : KnownD := ⟨0, 0, ⟨#[]⟩, ⟨#[]⟩, false, [], [], PackD.none⟩
instance : Inhabited KnownD := ⟨KnownD.none⟩

structure KnownOk (w : World) (k : KnownD) (R : Nat → Value) : Prop where
  state : R 0 = .int .i64 k.state
  ep : R 1 = .int .i64 k.ep
  up : R 2 = .string k.up
  rv : R 3 = .string k.rv
  held : R 4 = .bool k.held
  waits : Strs w (R 5) k.waits
  tasks : Strs w (R 6) k.tasks
  pack : PackOk w k.pack (fun j => R (7 + j))
  lens : k.up.size ≤ maxLen ∧ k.rv.size ≤ maxLen

theorem KnownOk.below {w w' : World} {k : KnownD} {R : Nat → Value} (h : KnownOk w k R) {B : Nat} (hb : Below B w w') (hB : w.heap.size ≤ B) : KnownOk w' k R :=
  ⟨h.state, h.ep, h.up, h.rv, h.held, h.waits.below hb hB, h.tasks.below hb hB, h.pack.below hb hB, h.lens⟩

def Knowns (w : World) (v : Value) (ks : List KnownD) : Prop :=
  ∃ R : Nat → Nat → Value, Sl w v ks.length 20 R ∧ ∀ i, i < ks.length → KnownOk w (ks.getD i KnownD.none) (R i)

theorem Knowns.below {w w' : World} {v : Value} {ks : List KnownD} (h : Knowns w v ks) {B : Nat} (hb : Below B w w') (hB : w.heap.size ≤ B) : Knowns w' v ks := by
  obtain ⟨R, h1, h2⟩ := h
  exact ⟨R, h1.below hb hB, fun i hi => (h2 i hi).below hb hB⟩

theorem r_cBool : Tryz.prog.cellsOf 4 = 1 := by kernel_rfl
theorem r_cStat : Tryz.prog.cellsOf 54 = 7 := by kernel_rfl
theorem r_cKnown : Tryz.prog.cellsOf 56 = 20 := by kernel_rfl

section
variable {H : Type} {enc : TypeId × Value → H} {w : World} {base fuel : Nat} {sp : Nat → Bool} {held : Bool} {x : DataW H × List MemPlace}

theorem rd_bool {v : Value} (h : DataW.trod enc Tryz.prog w base sp held fuel 4 [v] = some x) : ∃ b : Bool, v = .bool b := by
  obtain ⟨b, h1, _⟩ := DataW.trod_bool Tryz.underlying4 h
  exact ⟨b, by simpa using h1⟩
theorem rd_status {R : Nat → Value} (h : DataW.trod enc Tryz.prog w base sp held fuel 54 ((List.range 7).map R) = some x) :
    ∃ (s e : Int) (u r : ByteArray) (b : Bool) (ws ts : List ByteArray), R 0 = .int .i64 s ∧ R 1 = .int .i64 e ∧ R 2 = .string u ∧ R 3 = .string r ∧ R 4 = .bool b ∧ Strs w (R 5) ws ∧ Strs w (R 6) ts ∧ u.size ≤ maxLen ∧ r.size ≤ maxLen := by
  obtain ⟨xs, n, _, _, _, hl, hf⟩ := DataW.trod_struct Tryz.underlying54 h
  have hl' : xs.length = 5 := hl
  have g : ∀ i f, (_ : Array Field)[i]? = some f → i < 5 → ∃ y, DataW.trod enc Tryz.prog w base sp held n f.type ((((List.range 7).map R).drop f.offset).take (Tryz.prog.cellsOf f.type)) = some y := fun i f hi h11 => by
    obtain ⟨y, hy⟩ := some_get hl' h11
    exact ⟨y, by rw [hf i f hi, hy]⟩
  obtain ⟨y0, g0⟩ : ∃ y, DataW.trod enc Tryz.prog w base sp held n 3 ((((List.range 7).map R).drop 0).take (Tryz.prog.cellsOf 3)) = some y := g 0 _ rfl (by decide)
  obtain ⟨y1, g1⟩ : ∃ y, DataW.trod enc Tryz.prog w base sp held n 24 ((((List.range 7).map R).drop 1).take (Tryz.prog.cellsOf 24)) = some y := g 1 _ rfl (by decide)
  obtain ⟨y2, g2⟩ : ∃ y, DataW.trod enc Tryz.prog w base sp held n 4 ((((List.range 7).map R).drop 4).take (Tryz.prog.cellsOf 4)) = some y := g 2 _ rfl (by decide)
  obtain ⟨y3, g3⟩ : ∃ y, DataW.trod enc Tryz.prog w base sp held n 27 ((((List.range 7).map R).drop 5).take (Tryz.prog.cellsOf 27)) = some y := g 3 _ rfl (by decide)
  obtain ⟨y4, g4⟩ : ∃ y, DataW.trod enc Tryz.prog w base sp held n 27 ((((List.range 7).map R).drop 6).take (Tryz.prog.cellsOf 27)) = some y := g 4 _ rfl (by decide)
  rw [r_cInt] at g0
  rw [r_cVer] at g1
  rw [r_cBool] at g2
  rw [r_cStrs] at g3 g4
  obtain ⟨s, e0, _⟩ := rd_int (v := R 0) g0
  obtain ⟨e, u, r, e1, e2, e3, l2, l3⟩ := rd_ver (c0 := R 1) (c1 := R 2) (c2 := R 3) g1
  obtain ⟨b, e4⟩ := rd_bool (v := R 4) g2
  obtain ⟨ws, k3⟩ := rd_strs (v := R 5) g3
  obtain ⟨ts, k4⟩ := rd_strs (v := R 6) g4
  exact ⟨s, e, u, r, b, ws, ts, e0, e1, e2, e3, e4, k3, k4, l2, l3⟩
theorem rd_known {R : Nat → Value} (h : DataW.trod enc Tryz.prog w base sp held fuel 56 ((List.range 20).map R) = some x) : ∃ k, KnownOk w k R := by
  obtain ⟨xs, n, _, _, _, hl, hf⟩ := DataW.trod_struct Tryz.underlying56 h
  have hl' : xs.length = 2 := hl
  have g : ∀ i f, (_ : Array Field)[i]? = some f → i < 2 → ∃ y, DataW.trod enc Tryz.prog w base sp held n f.type ((((List.range 20).map R).drop f.offset).take (Tryz.prog.cellsOf f.type)) = some y := fun i f hi h11 => by
    obtain ⟨y, hy⟩ := some_get hl' h11
    exact ⟨y, by rw [hf i f hi, hy]⟩
  obtain ⟨y0, g0⟩ : ∃ y, DataW.trod enc Tryz.prog w base sp held n 54 ((((List.range 20).map R).drop 0).take (Tryz.prog.cellsOf 54)) = some y := g 0 _ rfl (by decide)
  obtain ⟨y1, g1⟩ : ∃ y, DataW.trod enc Tryz.prog w base sp held n 30 ((((List.range 20).map R).drop 7).take (Tryz.prog.cellsOf 30)) = some y := g 1 _ rfl (by decide)
  rw [r_cStat] at g0
  rw [r_cPack] at g1
  obtain ⟨s, e, u, r, b, ws, ts, e0, e1, e2, e3, e4, k3, k4, l2, l3⟩ := rd_status (R := R) g0
  obtain ⟨p, hp⟩ := rd_pack (R := fun j => R (7 + j)) g1
  exact ⟨⟨s, e, u, r, b, ws, ts, p⟩, ⟨e0, e1, e2, e3, e4, k3, k4, hp, l2, l3⟩⟩
theorem rd_knowns {v : Value} (h : DataW.trod enc Tryz.prog w base sp held fuel 22 [v] = some x) : ∃ ks, Knowns w v ks := by
  obtain ⟨n, m, R, hS, hE⟩ := open_sl Tryz.underlying22 r_cKnown (by decide) h
  obtain ⟨T, hT⟩ := Deep.choose_lt (α := KnownD) (p := fun i q => KnownOk w q (R i)) (fun i (hi : i < n) => rd_known (hE i hi).choose_spec)
  refine ⟨(List.range n).map T, R, by rw [List.length_map, List.length_range]; exact hS, fun i hi => ?_⟩
  rw [List.length_map, List.length_range] at hi
  have : ((List.range n).map T).getD i KnownD.none = T i := by simp [List.getD, hi]
  rw [this]
  exact hT i hi
end
end Go.Proofs.YtnfnebfioibndaaGreatDoor
namespace Go.Proofs.YtnfnebfioibndaaGreatDoor
open Go.Lib

def dig (c : UInt8) : Bool := decide (48 ≤ c.toNat) && decide (c.toNat ≤ 57)
def ltr (c : UInt8) : Bool := (decide (97 ≤ c.toNat) && decide (c.toNat ≤ 122)) || (decide (65 ≤ c.toNat) && decide (c.toNat ≤ 90))
/-- A byte's place among others, as the program has it. -/
def wtB (c : UInt8) : Int := if dig c then 0 else if c.toNat = 126 then -1 else if ltr c then c.toNat else c.toNat + 256
def wt : List UInt8 → Int
  | [] => 0
  | c :: _ => wtB c
/-- .. and as the document's answer has it. -/
def rkB (c : UInt8) : Int := if dig c then 1 else if c.toNat = 126 then 0 else if ltr c then 2 + c.toNat else 300 + c.toNat
def rk : List UInt8 → Int
  | [] => 1
  | c :: _ => rkB c

theorem dig_iff (c : UInt8) : dig c = true ↔ 48 ≤ c.toNat ∧ c.toNat ≤ 57 := by simp [dig]
theorem ltr_iff (c : UInt8) : ltr c = true ↔ (97 ≤ c.toNat ∧ c.toNat ≤ 122) ∨ (65 ≤ c.toNat ∧ c.toNat ≤ 90) := by simp [ltr]

/-- One number out of the other. -/
def rkOf (x : Int) : Int := if x = 0 then 1 else if x < 0 then 0 else if x < 256 then 2 + x else 44 + x

theorem rkB_of (c : UInt8) : rkB c = rkOf (wtB c) ∧ -1 ≤ wtB c ∧ wtB c < 512 := by
  have h : ∀ n : Fin 256, rkB (UInt8.ofNat n) = rkOf (wtB (UInt8.ofNat n)) ∧ -1 ≤ wtB (UInt8.ofNat n) ∧ wtB (UInt8.ofNat n) < 512 := by decide +kernel
  have := h ⟨c.toNat, c.toNat_lt⟩
  simpa using this

theorem rk_of (a : List UInt8) : rk a = rkOf (wt a) ∧ -1 ≤ wt a ∧ wt a < 512 := by
  cases a with
  | nil => decide
  | cons c l => exact rkB_of c

theorem rkOf_lt {x y : Int} (hx : -1 ≤ x) (hy : -1 ≤ y) : (rkOf x < rkOf y ↔ x < y) ∧ (rkOf x = 1 ↔ x = 0) ∧ (rkOf x = rkOf y ↔ x = y) ∧ 0 ≤ rkOf x := by
  unfold rkOf
  refine ⟨?_, ?_, ?_, ?_⟩ <;> (repeat' split) <;> omega

theorem wt_ne {a : List UInt8} (h : wt a ≠ 0) : a ≠ [] := by
  rintro rfl
  exact h rfl

def strip0 (l : List UInt8) : List UInt8 := l.dropWhile (fun c => c.toNat == 48)

theorem dropWhile_le {α : Type} (p : α → Bool) (l : List α) : (l.dropWhile p).length ≤ l.length := by
  induction l with
  | nil => simp
  | cons c l ih =>
    rw [List.dropWhile_cons]
    split
    · rw [List.length_cons]; omega
    · exact Nat.le_refl _

/-- Where the digits begin, they go. -/
theorem dropWhile_lt {a : List UInt8} (h : wt a = 0) (ha : a ≠ []) : (a.dropWhile dig).length < a.length := by
  cases a with
  | nil => exact absurd rfl ha
  | cons c l =>
    have hd : dig c = true := by
      have := rkB_of c
      have h' : wtB c = 0 := h
      unfold wtB at h'
      by_cases hd : dig c = true
      · exact hd
      · exfalso
        rw [if_neg hd] at h'
        split at h'
        · omega
        · split at h'
          · rename_i hl
            have := (ltr_iff c).1 hl
            omega
          · omega
    rw [List.dropWhile_cons, if_pos hd, List.length_cons]
    have := dropWhile_le dig l
    omega

/-- The order of two parts. -/
def cmpV (a b : List UInt8) : Int :=
  if h : wt a ≠ 0 ∨ wt b ≠ 0 then
    if hw : wt a = wt b then cmpV a.tail b.tail else compareInt (wt a) (wt b)
  else if hn : a = [] ∧ b = [] then 0
  else if (strip0 (a.takeWhile dig)).length ≠ (strip0 (b.takeWhile dig)).length then compareInt (strip0 (a.takeWhile dig)).length (strip0 (b.takeWhile dig)).length
  else if compareBytes (strip0 (a.takeWhile dig)) (strip0 (b.takeWhile dig)) ≠ 0 then compareBytes (strip0 (a.takeWhile dig)) (strip0 (b.takeWhile dig))
  else cmpV (a.dropWhile dig) (b.dropWhile dig)
termination_by a.length + b.length
decreasing_by
  · have h1 : a ≠ [] := by
      rcases h with h | h
      · exact wt_ne h
      · exact wt_ne (by rw [hw]; exact h)
    have := List.length_pos_iff.2 h1
    rw [List.length_tail, List.length_tail]
    omega
  · have ha : wt a = 0 := by omega
    have hb : wt b = 0 := by omega
    have l1 := dropWhile_le dig a
    have l2 := dropWhile_le dig b
    by_cases h1 : a = []
    · have h2 : b ≠ [] := fun e => hn ⟨h1, e⟩
      have := dropWhile_lt hb h2
      omega
    · have := dropWhile_lt ha h1
      omega

theorem cmpV_nil : cmpV [] [] = 0 := by
  rw [cmpV]
  simp [wt]
theorem cmpV_diff {a b : List UInt8} (h : wt a ≠ wt b) : cmpV a b = compareInt (wt a) (wt b) := by
  rw [cmpV, dif_pos (by omega), dif_neg h]
theorem cmpV_skip {a b : List UInt8} (h : wt a ≠ 0) (hw : wt a = wt b) : cmpV a b = cmpV a.tail b.tail := by
  rw [cmpV, dif_pos (Or.inl h), dif_pos hw]
theorem cmpV_len {a b : List UInt8} (ha : wt a = 0) (hb : wt b = 0) (hl : (strip0 (a.takeWhile dig)).length ≠ (strip0 (b.takeWhile dig)).length) :
    cmpV a b = compareInt (strip0 (a.takeWhile dig)).length (strip0 (b.takeWhile dig)).length := by
  have hn : ¬ (a = [] ∧ b = []) := by
    rintro ⟨rfl, rfl⟩
    exact hl rfl
  rw [cmpV, dif_neg (by omega), dif_neg hn, if_pos hl]
theorem cmpV_num {a b : List UInt8} (ha : wt a = 0) (hb : wt b = 0) (hl : (strip0 (a.takeWhile dig)).length = (strip0 (b.takeWhile dig)).length)
    (hc : compareBytes (strip0 (a.takeWhile dig)) (strip0 (b.takeWhile dig)) ≠ 0) : cmpV a b = compareBytes (strip0 (a.takeWhile dig)) (strip0 (b.takeWhile dig)) := by
  have hn : ¬ (a = [] ∧ b = []) := by
    rintro ⟨rfl, rfl⟩
    exact hc (by decide)
  rw [cmpV, dif_neg (by omega), dif_neg hn, if_neg (by omega), if_pos hc]
theorem cmpV_next {a b : List UInt8} (ha : wt a = 0) (hb : wt b = 0) (hl : (strip0 (a.takeWhile dig)).length = (strip0 (b.takeWhile dig)).length)
    (hc : compareBytes (strip0 (a.takeWhile dig)) (strip0 (b.takeWhile dig)) = 0) : cmpV a b = cmpV (a.dropWhile dig) (b.dropWhile dig) := by
  by_cases hn : a = [] ∧ b = []
  · obtain ⟨rfl, rfl⟩ := hn
    rfl
  · rw [cmpV, dif_neg (by omega), dif_neg hn, if_neg (by omega), if_neg (by omega)]

theorem compareBytes_range : ∀ (a b : List UInt8), compareBytes a b = -1 ∨ compareBytes a b = 0 ∨ compareBytes a b = 1
  | [], [] => by simp [compareBytes]
  | [], _ :: _ => by simp [compareBytes]
  | _ :: _, [] => by simp [compareBytes]
  | a :: ar, b :: bs => by
    unfold compareBytes
    split
    · exact Or.inl rfl
    · split
      · exact Or.inr (Or.inr rfl)
      · exact compareBytes_range ar bs
theorem compareBytes_zero : ∀ (a b : List UInt8), compareBytes a b = 0 ↔ a = b
  | [], [] => by simp [compareBytes]
  | [], _ :: _ => by simp [compareBytes]
  | _ :: _, [] => by simp [compareBytes]
  | a :: ar, b :: bs => by
    unfold compareBytes
    by_cases h1 : a < b
    · rw [if_pos h1]
      constructor
      · intro h; cases h
      · intro h
        injection h with h _
        subst h
        exact absurd h1 (UInt8.lt_irrefl a)
    · rw [if_neg h1]
      by_cases h2 : b < a
      · rw [if_pos h2]
        constructor
        · intro h; cases h
        · intro h
          injection h with h _
          subst h
          exact absurd h2 (UInt8.lt_irrefl a)
      · rw [if_neg h2, compareBytes_zero ar bs]
        have : a = b := UInt8.le_antisymm (UInt8.not_lt.1 h2) (UInt8.not_lt.1 h1)
        subst this
        simp
theorem compareInt_range (x y : Int) : compareInt x y = -1 ∨ compareInt x y = 0 ∨ compareInt x y = 1 := by
  unfold compareInt
  split
  · exact Or.inl rfl
  · split
    · exact Or.inr (Or.inr rfl)
    · exact Or.inr (Or.inl rfl)
theorem compareInt_zero (x y : Int) : compareInt x y = 0 ↔ x = y := by
  unfold compareInt
  split
  · omega
  · split <;> omega

theorem cmpV_range (a b : List UInt8) : cmpV a b = -1 ∨ cmpV a b = 0 ∨ cmpV a b = 1 := by
  induction a, b using cmpV.induct with
  | case1 a b h hw ih => rw [cmpV, dif_pos h, dif_pos hw]; exact ih
  | case2 a b h hw => rw [cmpV, dif_pos h, dif_neg hw]; exact compareInt_range _ _
  | case3 a b h hn => rw [cmpV, dif_neg h, dif_pos hn]; exact Or.inr (Or.inl rfl)
  | case4 a b h hn hl => rw [cmpV, dif_neg h, dif_neg hn, if_pos hl]; exact compareInt_range _ _
  | case5 a b h hn hl hc => rw [cmpV, dif_neg h, dif_neg hn, if_neg hl, if_pos hc]; exact compareBytes_range _ _
  | case6 a b h hn hl hc ih => rw [cmpV, dif_neg h, dif_neg hn, if_neg hl, if_neg hc]; exact ih

/-- Versions: by the epoch, upstream, the revision. -/
def cmpVer (ea : Int) (ua ra : List UInt8) (eb : Int) (ub rb : List UInt8) : Int :=
  if compareInt ea eb ≠ 0 then compareInt ea eb else if cmpV ua ub ≠ 0 then cmpV ua ub else cmpV ra rb

theorem cmpVer_range (ea : Int) (ua ra : List UInt8) (eb : Int) (ub rb : List UInt8) : cmpVer ea ua ra eb ub rb = -1 ∨ cmpVer ea ua ra eb ub rb = 0 ∨ cmpVer ea ua ra eb ub rb = 1 := by
  unfold cmpVer
  split
  · exact compareInt_range _ _
  · split
    · exact cmpV_range _ _
    · exact cmpV_range _ _

def isOp (n op : Int) : Bool :=
  if op = 0 then true else if op = 1 then decide (n < 0) else if op = 2 then decide (n ≤ 0) else if op = 3 then n == 0 else if op = 4 then decide (0 ≤ n) else if op = 5 then decide (0 < n) else false

/-- What 'part' cuts off: the digits at the head. -/
theorem digits_head (a : List UInt8) : a.take (a.length - (a.dropWhile dig).length) = a.takeWhile dig ∧ a.drop (a.takeWhile dig).length = a.dropWhile dig := by
  have h := List.takeWhile_append_dropWhile (p := dig) (l := a)
  have hl := congrArg List.length h
  rw [List.length_append] at hl
  have key : ∀ x y : List UInt8, (x ++ y).take x.length = x ∧ (x ++ y).drop x.length = y := fun x y => by simp
  have k := key (a.takeWhile dig) (a.dropWhile dig)
  rw [h] at k
  have e : a.length - (a.dropWhile dig).length = (a.takeWhile dig).length := by omega
  rw [e]
  exact k

theorem contains_digits (c : UInt8) : ([48, 49, 50, 51, 52, 53, 54, 55, 56, 57] : List UInt8).contains c = dig c := by
  have h : ∀ n : Fin 256, ([48, 49, 50, 51, 52, 53, 54, 55, 56, 57] : List UInt8).contains (UInt8.ofNat n) = dig (UInt8.ofNat n) := by decide +kernel
  have := h ⟨c.toNat, c.toNat_lt⟩
  simpa using this
theorem contains_nought (c : UInt8) : ([48] : List UInt8).contains c = (c.toNat == 48) := by
  have h : ∀ n : Fin 256, ([48] : List UInt8).contains (UInt8.ofNat n) = ((UInt8.ofNat n).toNat == 48) := by decide +kernel
  have := h ⟨c.toNat, c.toNat_lt⟩
  simpa using this
theorem index_digits (c : UInt8) : decide (0 ≤ indexByte [48, 49, 50, 51, 52, 53, 54, 55, 56, 57] c) = dig c := by
  have h : ∀ n : Fin 256, decide (0 ≤ indexByte [48, 49, 50, 51, 52, 53, 54, 55, 56, 57] (UInt8.ofNat n)) = dig (UInt8.ofNat n) := by decide +kernel
  have := h ⟨c.toNat, c.toNat_lt⟩
  simpa using this
def lettersL : List UInt8 := [97, 98, 99, 100, 101, 102, 103, 104, 105, 106, 107, 108, 109, 110, 111, 112, 113, 114, 115, 116, 117, 118, 119, 120, 121, 122, 65, 66, 67, 68, 69, 70, 71, 72, 73, 74, 75, 76, 77, 78, 79, 80, 81, 82, 83, 84, 85, 86, 87, 88, 89, 90]
theorem index_letters (c : UInt8) : decide (0 ≤ indexByte lettersL c) = ltr c := by
  have h : ∀ n : Fin 256, decide (0 ≤ indexByte lettersL (UInt8.ofNat n)) = ltr (UInt8.ofNat n) := by decide +kernel
  have := h ⟨c.toNat, c.toNat_lt⟩
  simpa using this
end Go.Proofs.YtnfnebfioibndaaGreatDoor
