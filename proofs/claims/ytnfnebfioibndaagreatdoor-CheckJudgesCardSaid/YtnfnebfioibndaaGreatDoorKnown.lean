/- Packages that are known, and how they stand: both kinds, cell by cell. -/
import Derived.Test.YtnfnebfioibndaaGreatDoorRead
namespace Go.Proofs.YtnfnebfioibndaaGreatDoor
open Go.RowKit Go.ChangeShapes Go.WideShapes Go.ChangeAt
set_option maxRecDepth 100000

structure KnownD where
  state : Int
  ep : Int
  up : ByteArray
  rv : ByteArray
  held : Bool
  waits : List ByteArray
  tasks : List ByteArray
  pack : PackD
def KnownD.none : KnownD := ⟨0, 0, ⟨#[]⟩, ⟨#[]⟩, false, [], [], PackD.none⟩
instance : Inhabited KnownD := ⟨KnownD.none⟩

structure KnownOk (w : World) (k : KnownD) (R : Nat → Value) : Prop where
  state : R 0 = .int .i64 k.state
  ep : R 1 = .int .i64 k.ep
  up : R 2 = .string k.up
  rv : R 3 = .string k.rv
  held : R 4 = .bool k.held
  waits : Strs w (R 5) k.waits
  tasks : Strs w (R 6) k.tasks
  pack : PackOk w k.pack (fun j => R (7 + j))
  lens : k.up.size ≤ maxLen ∧ k.rv.size ≤ maxLen

theorem KnownOk.below {w w' : World} {k : KnownD} {R : Nat → Value} (h : KnownOk w k R) {B : Nat} (hb : Below B w w') (hB : w.heap.size ≤ B) : KnownOk w' k R :=
  ⟨h.state, h.ep, h.up, h.rv, h.held, h.waits.below hb hB, h.tasks.below hb hB, h.pack.below hb hB, h.lens⟩

def Knowns (w : World) (v : Value) (ks : List KnownD) : Prop :=
  ∃ R : Nat → Nat → Value, Sl w v ks.length 20 R ∧ ∀ i, i < ks.length → KnownOk w (ks.getD i KnownD.none) (R i)

theorem Knowns.below {w w' : World} {v : Value} {ks : List KnownD} (h : Knowns w v ks) {B : Nat} (hb : Below B w w') (hB : w.heap.size ≤ B) : Knowns w' v ks := by
  obtain ⟨R, h1, h2⟩ := h
  exact ⟨R, h1.below hb hB, fun i hi => (h2 i hi).below hb hB⟩

theorem r_cBool : Tryz.prog.cellsOf 4 = 1 := by kernel_rfl
theorem r_cStat : Tryz.prog.cellsOf 54 = 7 := by kernel_rfl
theorem r_cKnown : Tryz.prog.cellsOf 56 = 20 := by kernel_rfl

section
variable {H : Type} {enc : TypeId × Value → H} {w : World} {base fuel : Nat} {sp : Nat → Bool} {held : Bool} {x : DataW H × List MemPlace}

theorem rd_bool {v : Value} (h : DataW.trod enc Tryz.prog w base sp held fuel 4 [v] = some x) : ∃ b : Bool, v = .bool b := by
  obtain ⟨b, h1, _⟩ := DataW.trod_bool Tryz.underlying4 h
  exact ⟨b, by simpa using h1⟩
theorem rd_status {R : Nat → Value} (h : DataW.trod enc Tryz.prog w base sp held fuel 54 ((List.range 7).map R) = some x) :
    ∃ (s e : Int) (u r : ByteArray) (b : Bool) (ws ts : List ByteArray), R 0 = .int .i64 s ∧ R 1 = .int .i64 e ∧ R 2 = .string u ∧ R 3 = .string r ∧ R 4 = .bool b ∧ Strs w (R 5) ws ∧ Strs w (R 6) ts ∧ u.size ≤ maxLen ∧ r.size ≤ maxLen := by
  obtain ⟨xs, n, _, _, _, hl, hf⟩ := DataW.trod_struct Tryz.underlying54 h
  have hl' : xs.length = 5 := hl
  have g : ∀ i f, (_ : Array Field)[i]? = some f → i < 5 → ∃ y, DataW.trod enc Tryz.prog w base sp held n f.type ((((List.range 7).map R).drop f.offset).take (Tryz.prog.cellsOf f.type)) = some y := fun i f hi h11 => by
    obtain ⟨y, hy⟩ := some_get hl' h11
    exact ⟨y, by rw [hf i f hi, hy]⟩
  obtain ⟨y0, g0⟩ : ∃ y, DataW.trod enc Tryz.prog w base sp held n 3 ((((List.range 7).map R).drop 0).take (Tryz.prog.cellsOf 3)) = some y := g 0 _ rfl (by decide)
  obtain ⟨y1, g1⟩ : ∃ y, DataW.trod enc Tryz.prog w base sp held n 24 ((((List.range 7).map R).drop 1).take (Tryz.prog.cellsOf 24)) = some y := g 1 _ rfl (by decide)
  obtain ⟨y2, g2⟩ : ∃ y, DataW.trod enc Tryz.prog w base sp held n 4 ((((List.range 7).map R).drop 4).take (Tryz.prog.cellsOf 4)) = some y := g 2 _ rfl (by decide)
  obtain ⟨y3, g3⟩ : ∃ y, DataW.trod enc Tryz.prog w base sp held n 27 ((((List.range 7).map R).drop 5).take (Tryz.prog.cellsOf 27)) = some y := g 3 _ rfl (by decide)
  obtain ⟨y4, g4⟩ : ∃ y, DataW.trod enc Tryz.prog w base sp held n 27 ((((List.range 7).map R).drop 6).take (Tryz.prog.cellsOf 27)) = some y := g 4 _ rfl (by decide)
  rw [r_cInt] at g0
  rw [r_cVer] at g1
  rw [r_cBool] at g2
  rw [r_cStrs] at g3 g4
  obtain ⟨s, e0, _⟩ := rd_int (v := R 0) g0
  obtain ⟨e, u, r, e1, e2, e3, l2, l3⟩ := rd_ver (c0 := R 1) (c1 := R 2) (c2 := R 3) g1
  obtain ⟨b, e4⟩ := rd_bool (v := R 4) g2
  obtain ⟨ws, k3⟩ := rd_strs (v := R 5) g3
  obtain ⟨ts, k4⟩ := rd_strs (v := R 6) g4
  exact ⟨s, e, u, r, b, ws, ts, e0, e1, e2, e3, e4, k3, k4, l2, l3⟩
theorem rd_known {R : Nat → Value} (h : DataW.trod enc Tryz.prog w base sp held fuel 56 ((List.range 20).map R) = some x) : ∃ k, KnownOk w k R := by
  obtain ⟨xs, n, _, _, _, hl, hf⟩ := DataW.trod_struct Tryz.underlying56 h
  have hl' : xs.length = 2 := hl
  have g : ∀ i f, (_ : Array Field)[i]? = some f → i < 2 → ∃ y, DataW.trod enc Tryz.prog w base sp held n f.type ((((List.range 20).map R).drop f.offset).take (Tryz.prog.cellsOf f.type)) = some y := fun i f hi h11 => by
    obtain ⟨y, hy⟩ := some_get hl' h11
    exact ⟨y, by rw [hf i f hi, hy]⟩
  obtain ⟨y0, g0⟩ : ∃ y, DataW.trod enc Tryz.prog w base sp held n 54 ((((List.range 20).map R).drop 0).take (Tryz.prog.cellsOf 54)) = some y := g 0 _ rfl (by decide)
  obtain ⟨y1, g1⟩ : ∃ y, DataW.trod enc Tryz.prog w base sp held n 30 ((((List.range 20).map R).drop 7).take (Tryz.prog.cellsOf 30)) = some y := g 1 _ rfl (by decide)
  rw [r_cStat] at g0
  rw [r_cPack] at g1
  obtain ⟨s, e, u, r, b, ws, ts, e0, e1, e2, e3, e4, k3, k4, l2, l3⟩ := rd_status (R := R) g0
  obtain ⟨p, hp⟩ := rd_pack (R := fun j => R (7 + j)) g1
  exact ⟨⟨s, e, u, r, b, ws, ts, p⟩, ⟨e0, e1, e2, e3, e4, k3, k4, hp, l2, l3⟩⟩
theorem rd_knowns {v : Value} (h : DataW.trod enc Tryz.prog w base sp held fuel 22 [v] = some x) : ∃ ks, Knowns w v ks := by
  obtain ⟨n, m, R, hS, hE⟩ := open_sl Tryz.underlying22 r_cKnown (by decide) h
  obtain ⟨T, hT⟩ := Deep.choose_lt (α := KnownD) (p := fun i q => KnownOk w q (R i)) (fun i (hi : i < n) => rd_known (hE i hi).choose_spec)
  refine ⟨(List.range n).map T, R, by rw [List.length_map, List.length_range]; exact hS, fun i hi => ?_⟩
  rw [List.length_map, List.length_range] at hi
  have : ((List.range n).map T).getD i KnownD.none = T i := by simp [List.getD, hi]
  rw [this]
  exact hT i hi
end
end Go.Proofs.YtnfnebfioibndaaGreatDoor
