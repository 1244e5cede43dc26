/- Down from the row's reading to terms, lists of terms, packages. -/
import Derived.Test.YtnfnebfioibndaaGreatDoorData
import Derived.Deep.Strs
namespace Go.Proofs.YtnfnebfioibndaaGreatDoor
open Go.RowKit Go.ChangeShapes Go.WideShapes Go.ChangeAt

theorem r_cStr : Tryz.prog.cellsOf 9 = 1 := by kernel_rfl
theorem r_cInt : Tryz.prog.cellsOf 3 = 1 := by kernel_rfl
theorem r_cVer : Tryz.prog.cellsOf 24 = 3 := by kernel_rfl
theorem r_cTerm : Tryz.prog.cellsOf 98 = 5 := by kernel_rfl
theorem r_cTerms : Tryz.prog.cellsOf 26 = 1 := by kernel_rfl
theorem r_cLists : Tryz.prog.cellsOf 25 = 1 := by kernel_rfl
theorem r_cStrs : Tryz.prog.cellsOf 27 = 1 := by kernel_rfl
theorem r_cFiles : Tryz.prog.cellsOf 28 = 1 := by kernel_rfl
theorem r_cFile : Tryz.prog.cellsOf 65 = 2 := by kernel_rfl
theorem r_cPack : Tryz.prog.cellsOf 30 = 13 := by kernel_rfl

section
variable {H : Type} {enc : TypeId × Value → H} {w : World} {base fuel : Nat} {sp : Nat → Bool} {held : Bool} {x : DataW H × List MemPlace}

theorem rd_str {v : Value} (h : DataW.trod enc Tryz.prog w base sp held fuel 9 [v] = some x) : ∃ s : ByteArray, v = .string s ∧ s.size ≤ maxLen := by
  obtain ⟨s, h1, _, h2⟩ := DataW.trod_string Tryz.underlying9 h
  exact ⟨s, by simpa using h1, h2⟩
theorem rd_int {v : Value} (h : DataW.trod enc Tryz.prog w base sp held fuel 3 [v] = some x) : ∃ n : Int, v = .int .i64 n ∧ (Lit.int .i64 n).wf = true := by
  obtain ⟨n, h1, _, h2⟩ := DataW.trod_int Tryz.underlying3 h
  exact ⟨n, by simpa using h1, h2⟩
theorem rd_ver {c0 c1 c2 : Value} (h : DataW.trod enc Tryz.prog w base sp held fuel 24 [c0, c1, c2] = some x) :
    ∃ (e : Int) (u r : ByteArray), c0 = .int .i64 e ∧ c1 = .string u ∧ c2 = .string r ∧ u.size ≤ maxLen ∧ r.size ≤ maxLen := by
  obtain ⟨y0, y1, y2, n, _, _, h0, h1, h2⟩ := Deep.trod_struct3 Tryz.underlying24 h
  rw [r_cInt] at h0
  rw [r_cStr] at h1 h2
  obtain ⟨e, e0, _⟩ := rd_int h0
  obtain ⟨u, e1, l1⟩ := rd_str h1
  obtain ⟨r, e2, l2⟩ := rd_str h2
  exact ⟨e, u, r, e0, e1, e2, l1, l2⟩
theorem rd_term {R : Nat → Value} (h : DataW.trod enc Tryz.prog w base sp held fuel 98 ((List.range 5).map R) = some x) :
    ∃ t : TermD, (∀ j, j < 5 → R j = t.row j) ∧ t.name.size ≤ maxLen ∧ t.up.size ≤ maxLen ∧ t.rv.size ≤ maxLen := by
  obtain ⟨y0, y1, y2, n, _, _, h0, h1, h2⟩ := Deep.trod_struct3 Tryz.underlying98 h
  rw [r_cStr] at h0
  rw [r_cInt] at h1
  rw [r_cVer] at h2
  obtain ⟨s, e0, l0⟩ := rd_str (v := R 0) h0
  obtain ⟨o, e1, _⟩ := rd_int (v := R 1) h1
  obtain ⟨e, u, r, e2, e3, e4, l1, l2⟩ := rd_ver (c0 := R 2) (c1 := R 3) (c2 := R 4) h2
  refine ⟨⟨s, o, e, u, r⟩, fun j hj => ?_, l0, l1, l2⟩
  match j, hj with
  | 0, _ => exact e0
  | 1, _ => exact e1
  | 2, _ => exact e2
  | 3, _ => exact e3
  | 4, _ => exact e4
theorem rd_terms {v : Value} (h : DataW.trod enc Tryz.prog w base sp held fuel 26 [v] = some x) : ∃ ts, Terms w v ts := by
  obtain ⟨n, m, R, hS, hE⟩ := open_sl Tryz.underlying26 r_cTerm (by decide) h
  obtain ⟨T, hT⟩ := Deep.choose_lt (α := TermD) (h := fun i hi => rd_term (hE i hi).choose_spec) (p := fun i t => (∀ j, j < 5 → R i j = t.row j) ∧ t.name.size ≤ maxLen ∧ t.up.size ≤ maxLen ∧ t.rv.size ≤ maxLen)
  have hat : ∀ i, i < n → TermD.at ((List.range n).map T) i = T i := fun i hi => by simp [TermD.at, List.getD, hi]
  refine ⟨(List.range n).map T, ?_, ?_⟩
  · rw [List.length_map, List.length_range]
    exact hS.congr fun i j hi hj => by rw [hat i hi]; exact (hT i hi).1 j hj
  · intro t ht
    obtain ⟨i, hi, rfl⟩ := List.mem_map.1 ht
    exact (hT i (List.mem_range.1 hi)).2
theorem rd_lists {v : Value} (h : DataW.trod enc Tryz.prog w base sp held fuel 25 [v] = some x) : ∃ ls, Lists w v ls := by
  obtain ⟨n, m, R, hS, hE⟩ := open_sl Tryz.underlying25 r_cTerms (by decide) h
  obtain ⟨T, hT⟩ := Deep.choose_lt (α := List TermD) (p := fun i ts => Terms w (R i 0) ts) (fun i (hi : i < n) => rd_terms (hE i hi).choose_spec)
  refine ⟨(List.range n).map T, fun i => R i 0, ?_, ?_⟩
  · rw [List.length_map, List.length_range]
    exact hS.congr fun i j _ hj => by rw [show j = 0 by omega]
  · intro i hi
    rw [List.length_map, List.length_range] at hi
    have : ((List.range n).map T).getD i [] = T i := by simp [List.getD, hi]
    rw [this]
    exact hT i hi
theorem rd_strs {v : Value} (h : DataW.trod enc Tryz.prog w base sp held fuel 27 [v] = some x) : ∃ ss, Strs w v ss := by
  obtain ⟨n, m, R, hS, hE⟩ := open_sl Tryz.underlying27 r_cStr (by decide) h
  obtain ⟨T, hT⟩ := Deep.choose_lt (α := ByteArray) (p := fun i s => R i 0 = .string s ∧ s.size ≤ maxLen) (fun i (hi : i < n) => rd_str (hE i hi).choose_spec)
  refine ⟨(List.range n).map T, ?_, ?_⟩
  · rw [List.length_map, List.length_range]
    exact hS.congr fun i j hi hj => by rw [show j = 0 by omega, (hT i hi).1]; simp [List.getD, hi]
  · intro s hs
    obtain ⟨i, hi, rfl⟩ := List.mem_map.1 hs
    exact (hT i (List.mem_range.1 hi)).2
theorem rd_files {v : Value} (h : DataW.trod enc Tryz.prog w base sp held fuel 28 [v] = some x) : ∃ fs, Files w v fs := by
  obtain ⟨n, m, R, hS, hE⟩ := open_sl Tryz.underlying28 r_cFile (by decide) h
  have one : ∀ i, i < n → ∃ f : ByteArray × ByteArray, (R i 0 = .string f.1 ∧ R i 1 = .string f.2) ∧ f.1.size ≤ maxLen ∧ f.2.size ≤ maxLen := fun i hi => by
    obtain ⟨y, hy⟩ := hE i hi
    obtain ⟨y0, y1, n, _, _, h0, h1⟩ := trod_struct2 Tryz.underlying65 hy
    rw [r_cStr] at h0 h1
    obtain ⟨a, e0, l0⟩ := rd_str (v := R i 0) h0
    obtain ⟨b, e1, l1⟩ := rd_str (v := R i 1) h1
    exact ⟨(a, b), ⟨e0, e1⟩, l0, l1⟩
  obtain ⟨T, hT⟩ := Deep.choose_lt (α := ByteArray × ByteArray) one
  have hat : ∀ i, i < n → ((List.range n).map T).getD i (⟨#[]⟩, ⟨#[]⟩) = T i := fun i hi => by simp [List.getD, hi]
  refine ⟨(List.range n).map T, ?_, ?_⟩
  · rw [List.length_map, List.length_range]
    refine hS.congr fun i j hi hj => ?_
    rw [hat i hi]
    match j, hj with
    | 0, _ => exact (hT i hi).1.1
    | 1, _ => exact (hT i hi).1.2
  · intro f hf
    obtain ⟨i, hi, rfl⟩ := List.mem_map.1 hf
    exact (hT i (List.mem_range.1 hi)).2
theorem some_get {α : Type} {l : List α} {n i : Nat} (hl : l.length = n) (hi : i < n) : ∃ y, l[i]? = some y := ⟨_, List.getElem?_eq_getElem (by omega)⟩
theorem rd_pack {R : Nat → Value} (h : DataW.trod enc Tryz.prog w base sp held fuel 30 ((List.range 13).map R) = some x) : ∃ p, PackOk w p R := by
  obtain ⟨xs, n, _, _, _, hl, hf⟩ := DataW.trod_struct Tryz.underlying30 h
  have hl' : xs.length = 11 := hl
  have g : ∀ i f, (_ : Array Field)[i]? = some f → i < 11 → ∃ y, DataW.trod enc Tryz.prog w base sp held n f.type ((((List.range 13).map R).drop f.offset).take (Tryz.prog.cellsOf f.type)) = some y := fun i f hi h11 => by
    obtain ⟨y, hy⟩ := some_get hl' h11
    exact ⟨y, by rw [hf i f hi, hy]⟩
  obtain ⟨y0, g0⟩ : ∃ y, DataW.trod enc Tryz.prog w base sp held n 9 ((((List.range 13).map R).drop 0).take (Tryz.prog.cellsOf 9)) = some y := g 0 _ rfl (by decide)
  obtain ⟨y1, g1⟩ : ∃ y, DataW.trod enc Tryz.prog w base sp held n 24 ((((List.range 13).map R).drop 1).take (Tryz.prog.cellsOf 24)) = some y := g 1 _ rfl (by decide)
  obtain ⟨y2, g2⟩ : ∃ y, DataW.trod enc Tryz.prog w base sp held n 25 ((((List.range 13).map R).drop 4).take (Tryz.prog.cellsOf 25)) = some y := g 2 _ rfl (by decide)
  obtain ⟨y3, g3⟩ : ∃ y, DataW.trod enc Tryz.prog w base sp held n 25 ((((List.range 13).map R).drop 5).take (Tryz.prog.cellsOf 25)) = some y := g 3 _ rfl (by decide)
  obtain ⟨y4, g4⟩ : ∃ y, DataW.trod enc Tryz.prog w base sp held n 26 ((((List.range 13).map R).drop 6).take (Tryz.prog.cellsOf 26)) = some y := g 4 _ rfl (by decide)
  obtain ⟨y5, g5⟩ : ∃ y, DataW.trod enc Tryz.prog w base sp held n 26 ((((List.range 13).map R).drop 7).take (Tryz.prog.cellsOf 26)) = some y := g 5 _ rfl (by decide)
  obtain ⟨y6, g6⟩ : ∃ y, DataW.trod enc Tryz.prog w base sp held n 26 ((((List.range 13).map R).drop 8).take (Tryz.prog.cellsOf 26)) = some y := g 6 _ rfl (by decide)
  obtain ⟨y7, g7⟩ : ∃ y, DataW.trod enc Tryz.prog w base sp held n 26 ((((List.range 13).map R).drop 9).take (Tryz.prog.cellsOf 26)) = some y := g 7 _ rfl (by decide)
  obtain ⟨y8, g8⟩ : ∃ y, DataW.trod enc Tryz.prog w base sp held n 27 ((((List.range 13).map R).drop 10).take (Tryz.prog.cellsOf 27)) = some y := g 8 _ rfl (by decide)
  obtain ⟨y9, g9⟩ : ∃ y, DataW.trod enc Tryz.prog w base sp held n 27 ((((List.range 13).map R).drop 11).take (Tryz.prog.cellsOf 27)) = some y := g 9 _ rfl (by decide)
  obtain ⟨y10, g10⟩ : ∃ y, DataW.trod enc Tryz.prog w base sp held n 28 ((((List.range 13).map R).drop 12).take (Tryz.prog.cellsOf 28)) = some y := g 10 _ rfl (by decide)
  rw [r_cStr] at g0
  rw [r_cVer] at g1
  rw [r_cLists] at g2 g3
  rw [r_cTerms] at g4 g5 g6 g7
  rw [r_cStrs] at g8 g9
  rw [r_cFiles] at g10
  obtain ⟨nm, e0, l0⟩ := rd_str (v := R 0) g0
  obtain ⟨e, u, r, e1, e2, e3, l2, l3⟩ := rd_ver (c0 := R 1) (c1 := R 2) (c2 := R 3) g1
  obtain ⟨a2, k2⟩ := rd_lists (v := R 4) g2
  obtain ⟨a3, k3⟩ := rd_lists (v := R 5) g3
  obtain ⟨a4, k4⟩ := rd_terms (v := R 6) g4
  obtain ⟨a5, k5⟩ := rd_terms (v := R 7) g5
  obtain ⟨a6, k6⟩ := rd_terms (v := R 8) g6
  obtain ⟨a7, k7⟩ := rd_terms (v := R 9) g7
  obtain ⟨a8, k8⟩ := rd_strs (v := R 10) g8
  obtain ⟨a9, k9⟩ := rd_strs (v := R 11) g9
  obtain ⟨a10, k10⟩ := rd_files (v := R 12) g10
  exact ⟨⟨nm, e, u, r, a2, a3, a4, a5, a6, a7, a8, a9, a10⟩, ⟨e0, e1, e2, e3, k2, k3, k4, k5, k6, k7, k8, k9, k10, l0, l2, l3⟩⟩
theorem rd_packs {v : Value} (h : DataW.trod enc Tryz.prog w base sp held fuel 85 [v] = some x) : ∃ ps, Packs w v ps := by
  obtain ⟨n, m, R, hS, hE⟩ := open_sl Tryz.underlying85 r_cPack (by decide) h
  obtain ⟨T, hT⟩ := Deep.choose_lt (α := PackD) (p := fun i q => PackOk w q (R i)) (fun i (hi : i < n) => rd_pack (hE i hi).choose_spec)
  refine ⟨(List.range n).map T, R, by rw [List.length_map, List.length_range]; exact hS, fun i hi => ?_⟩
  rw [List.length_map, List.length_range] at hi
  have : ((List.range n).map T).getD i PackD.none = T i := by simp [List.getD, hi]
  rw [this]
  exact hT i hi
end
end Go.Proofs.YtnfnebfioibndaaGreatDoor
