/- slices.Grow at nil, slices.Concat of two, at order.Edge. -/
import Derived.Test.YtnfnebfioibndaaLawE
import Derived.Lib.AppendZeros
namespace Go.Proofs.Ytnfnebfioibndaa
open Go.RowKit
set_option maxRecDepth 100000
set_option maxHeartbeats 4000000

theorem run_append_zero {P : Program} (w : World) (base : Nat) (t ty e : TypeId) (i : TypeInfo) (size : Nat) (ht : P.underlying t = some (.slice e)) (hi : P.info? e = some i) (v : Value) (n : Nat) (xs : List Value) (hown : w.ownsRow base e size v n xs) (A : Option Addr) (c : Nat) :
    (Builtin.append_ #[t, t] ty #[v, .slice A 0 c]).run P w = .ok v w := by
  rcases hown.2 with ⟨rfl, _⟩ | ⟨g, cap, cur, rfl, _, hg, hnc, _⟩
  · cases A <;> simp [Builtin.append_, run_underlying ht, sizeOf, typeInfo, hi, Builtin.lenOf, Builtin.firstCells, loadCells, loadCellsFrom]
  · cases A <;> simp [Builtin.append_, run_underlying ht, sizeOf, typeInfo, hi, Builtin.lenOf, Builtin.firstCells, loadCells, loadCellsFrom, hnc, storeCells]

theorem grow_calls (n : Nat) (hn : n ≤ 200000) (w : World) :
    Calls Try.prog 24 #[.slice none 0 0, .int .i64 ((n : Nat) : Int)] w fun e w' => ∃ ov, e = .returned ov ∧ w'.ownsRow w.heap.size 38 2 ov 0 [] ∧ Below w.heap.size w w' := by
  obtain ⟨i0, hi0, hz0, hz1, hz2⟩ := info_parts info_edge
  have Hi0 := Lib.hid (And.intro hi0 (And.intro hz0 (And.intro hz1 hz2)))
  clear hi0 hz0 hz1 hz2
  by_cases h0 : n = 0
  · subst h0
    go_enter Try.func24, Try.ntmps24
    go_wp2_with fail
    go_ret
    exact ⟨_, rfl, World.ownsRow_nil _ _ _ _, Below.refl _ _⟩
  · have hpos : 0 < n := by omega
    clear h0
    have hown : (w.drew.alloc (.cells (Builtin.zeroCells (Value.agg #[.int .i64 0, .int .i64 0]).cells n ++ Builtin.zeroCells (Value.agg #[.int .i64 0, .int .i64 0]).cells (grownCap w n 0 38 - n)) 38)).ownsRow w.heap.size 38 2 (.slice (some ⟨w.heap.size, 0, none⟩) 0 (grownCap w n 0 38)) 0 [] := by
      have hge := grownCap_ge w n 0 38
      have hcm : grownCap w n 0 38 ≤ maxLen := grownCap_le_maxLen w n 0 38 (by unfold maxLen; omega)
      refine ⟨rfl, .inr ⟨w.heap.size, _, _, rfl, Nat.le_refl _, heap_alloc_new w.drew _, Nat.zero_le _, hcm, ?_, by simp⟩⟩
      rw [Array.size_append, size_zeroCells, size_zeroCells]
      show n * 2 + _ * 2 = _
      omega
    have hge := grownCap_ge w n 0 38
    obtain ⟨cp, hcp⟩ : ∃ cp, grownCap w n 0 38 = cp := ⟨_, rfl⟩
    have hcm : grownCap w n 0 38 ≤ 9223372036854775807 := by have := grownCap_le_maxLen w n 0 38 (by unfold maxLen; omega); unfold maxLen at this; omega
    rw [hcp] at hge hcm
    have Hcp := Lib.hid hcp
    have Hown := Lib.hid hown
    clear hcp hown
    go_enter Try.func24, Try.ntmps24
    go_wp2_with (at_builtin; refine Lib.wpList_append_run _ rfl _ _ 26 3 rfl _ _ rfl rfl _ _ (Lib.run_append_nil_zeros _ 26 3 _ 38 i0 _ .i64 .i64 Try.underlying26 Try.underlying3 Hi0.out.1 Hi0.out.2.1 n hpos (by rw [Hi0.out.2.2.1]; decide) (by omega) (by rw [Hi0.out.2.2.2]; omega)) ?_)
    rw [Hcp.out]
    go_wp2_with fail
    go_ret
    refine ⟨_, rfl, ?_, ((Below.refl _ _).drew).alloc (by simp) _⟩
    have := Hown.out
    rw [Hcp.out] at this
    exact this

theorem edgeRows_len (l : List EdgeD) : (edgeRows l).length = l.length * 2 := by
  induction l with
  | nil => rfl
  | cons e l ih =>
    have : edgeRows (e :: l) = [.int .i64 e.1, .int .i64 e.2] ++ edgeRows l := rfl
    rw [this, List.length_append, ih]
    simp
    omega
theorem edgeRows_append (a b : List EdgeD) : edgeRows (a ++ b) = edgeRows a ++ edgeRows b := by simp [edgeRows]
theorem edgeRows_one {l : List EdgeD} : ∀ u ∈ edgeRows l, u.oneCell' = true := by
  intro u hu
  obtain ⟨e, _, he⟩ := List.mem_flatMap.1 hu
  rcases List.mem_cons.1 he with rfl | he
  · rfl
  · rw [List.mem_singleton.1 he]; rfl
/-- append(row, edges...), whatever the edges' address. -/
theorem append_edges {i0 : TypeInfo} (h0 : Try.prog.info? 38 = some i0 ∧ i0.zero = some (.agg #[.int .i64 0, .int .i64 0]) ∧ i0.size = 2 ∧ i0.bytes = 16) {w : World} {base : Nat} {ov v : Value} {L l : List EdgeD} (hown : w.ownsRow base 38 2 ov L.length (edgeRows L)) (hE : Edges w v l) (hL : L.length + l.length ≤ 1000000) (hb : base ≤ w.heap.size) (ty : TypeId) :
    ∃ v' w', (Builtin.append_ #[26, 26] ty #[ov, v]).run Try.prog w = .ok v' w' ∧ w'.ownsRow base 38 2 v' (L ++ l).length (edgeRows (L ++ l)) ∧ w.grownBy w' ov.ownBlock := by
  obtain ⟨a, c, rfl, h1, h2, h3⟩ := hE
  rcases Nat.eq_zero_or_pos l.length with hz | hp
  · have hl : l = [] := List.length_eq_zero_iff.1 hz
    subst hl
    refine ⟨ov, w, ?_, by simpa using hown, World.grownBy.refl w _⟩
    exact run_append_zero w base _ ty 38 i0 2 Try.underlying26 h0.1 ov _ _ hown a c
  · obtain ⟨b, o, rfl, hlt, hc⟩ := h3.resolve_left (by omega)
    have hnews : ∀ j u, (edgeRows l)[j]? = some u → w.cell? ((⟨b, o, none⟩ : Addr).add j) = some u := by
      intro j u hu
      have hj : j < l.length * 2 := by
        rcases Nat.lt_or_ge j (l.length * 2) with h | h
        · exact h
        · rw [List.getElem?_eq_none (by rw [edgeRows_len]; exact h)] at hu; cases hu
      have e := edgeRows_at l (j / 2) (j % 2) (by omega) (by omega)
      rw [show j / 2 * 2 + j % 2 = j by omega, hu] at e
      have := hc (j / 2) (j % 2) (by omega) (by omega)
      rw [addr_add, show o + j = o + j / 2 * 2 + j % 2 by omega, this, e]
    obtain ⟨v', w', hr, q1, q2, _⟩ := run_append_own_at (P := Try.prog) w base 26 ty 38 i0 _ 2 16 Try.underlying26 h0.1 h0.2.1 h0.2.2.1 h0.2.2.2 rfl (by decide) ov L.length (edgeRows L) hown ⟨b, o, none⟩ l.length c (edgeRows l) (edgeRows_len l) hnews edgeRows_one (by unfold maxLen; omega) (by omega) hb
    refine ⟨v', w', hr, ?_, q2⟩
    rw [List.length_append, edgeRows_append]
    exact q1

theorem concat_calls (P : Nat) (v1 v2 : Value) (l1 l2 : List EdgeD) (w : World) (c1 : w.cell? ⟨P, 0, none⟩ = some v1) (c2 : w.cell? ⟨P, 1, none⟩ = some v2) (h1 : Edges w v1 l1) (h2 : Edges w v2 l2) (hl1 : l1.length ≤ 50000) (hl2 : l2.length ≤ 50000) :
    Calls Try.prog 14 #[.slice (some ⟨P, 0, none⟩) 2 2] w fun e w' => ∃ ov, e = .returned ov ∧ Edges w' ov (l1 ++ l2) ∧ Below w.heap.size w w' := by
  have hP : P < w.heap.size := World.block_lt_of_cell? w _ c1
  have HE1 := Lib.hid h1
  have HE2 := Lib.hid h2
  obtain ⟨n1, hn1⟩ : ∃ n, l1.length = n := ⟨_, rfl⟩
  obtain ⟨n2, hn2⟩ : ∃ n, l2.length = n := ⟨_, rfl⟩
  obtain ⟨a1, p1, rfl, hp1, hm1, -⟩ := h1
  obtain ⟨a2, p2, rfl, hp2, hm2, -⟩ := h2
  unfold maxLen at hm1 hm2
  rw [hn1] at hp1 hl1 c1 HE1
  rw [hn2] at hp2 hl2 c2 HE2
  obtain ⟨s, hs⟩ : ∃ s, n1 + n2 = s := ⟨_, rfl⟩
  have eS : ((n1 : Nat) : Int) + ((n2 : Nat) : Int) = ((s : Nat) : Int) := by omega
  have hs2 : s ≤ 100000 := by omega
  obtain ⟨i0, hi0, hz0, hz1, hz2⟩ := info_parts info_edge
  have Hi0 := Lib.hid (And.intro hi0 (And.intro hz0 (And.intro hz1 hz2)))
  have Hn1 := Lib.hid hn1
  have Hn2 := Lib.hid hn2
  have HS := Lib.hid eS
  have HC1 := Lib.hid c1
  have HC2 := Lib.hid c2
  clear hi0 hz0 hz1 hz2 hn1 hn2 hs eS
  go_enter Try.func14, Try.ntmps14
  go_wp2_with fail
  go_loopg [3, 11] 2 (fun k v3 v11 wr => ∃ (i : Nat) (c : Nat), v11 = .int .i64 i ∧ i ≤ 2 ∧ k = 2 - i ∧ v3 = .int .i64 ((c : Nat) : Int) ∧ (i = 0 ∧ c = 0 ∨ i = 1 ∧ c = n1 ∨ i = 2 ∧ c = s) ∧ w = wr)
  case atStart => exact ⟨0, 0, rfl, Nat.zero_le _, rfl, rfl, Or.inl ⟨rfl, rfl⟩, rfl⟩
  case round =>
    obtain ⟨i, c, rfl, hi, hk, rfl, hic, rfl⟩ := hrel
    have Hk := Lib.hid hk
    clear hk
    rcases hic with ⟨rfl, rfl⟩ | ⟨rfl, rfl⟩ | ⟨rfl, rfl⟩
    · go_wp2_with fail
      go_roundg 1
      case rel => exact ⟨1, n1, rfl, by omega, rfl, by go_num, Or.inr (Or.inl ⟨rfl, rfl⟩), rfl⟩
      case measure => have := Hk.out; omega
    · go_wp2_with fail
      go_roundg 0
      case rel => exact ⟨2, s, rfl, by omega, rfl, by rw [← HS.out], Or.inr (Or.inr ⟨rfl, rfl⟩), rfl⟩
      case measure => have := Hk.out; omega
    · go_wp2_with fail
      refine (grow_calls c (by omega) w).mono ?_
      rintro e w1 ⟨ov, rfl, hown, hB⟩
      have Hown := Lib.hid hown
      have HB := Lib.hid hB
      clear hown hB
      go_wp2_with fail
      go_loopg [6, 27] 2 (fun k v6 v27 wr => ∃ (i : Nat) (L : List EdgeD) (ov : Value), ov = v6 ∧ v27 = .int .i64 i ∧ i ≤ 2 ∧ k = 2 - i ∧ (i = 0 ∧ L = [] ∨ i = 1 ∧ L = l1 ∨ i = 2 ∧ L = l1 ++ l2) ∧ wr.ownsRow w.heap.size 38 2 ov L.length (edgeRows L) ∧ Below w.heap.size w wr)
      case atStart => exact ⟨0, [], _, rfl, rfl, Nat.zero_le _, rfl, Or.inl ⟨rfl, rfl⟩, Hown.out, HB.out⟩
      case round =>
        obtain ⟨i, L, ov, rfl, rfl, hi, hk, hiL, hown, hB⟩ := hrel
        have Hk2 := Lib.hid hk
        have Hown2 := Lib.hid hown
        have HB2 := Lib.hid hB
        clear hk hown hB
        rcases hiL with ⟨rfl, rfl⟩ | ⟨rfl, rfl⟩ | ⟨rfl, rfl⟩
        · have d1 := (HB2.out.cell (p := ⟨P, 0, none⟩) hP).trans HC1.out
          obtain ⟨v', w', hr, q1, q2⟩ := append_edges Hi0.out Hown2.out (HE1.out.below HB2.out (Nat.le_refl _)) (by have := Hn1.out; simp; omega) HB2.out.size 26
          have Hr := Lib.hid hr
          have HBn := Lib.hid (HB2.out.grown q2 HB2.out.size (fun k e => (Hown2.out.lt k e).1))
          have Hq1 := Lib.hid q1
          clear hr q1 q2
          go_wp2_with (at_builtin; refine Lib.wpList_append_run _ rfl _ _ 26 26 rfl _ _ rfl rfl _ _ Hr.out ?_)
          go_wp2_with fail
          go_roundg 1
          case rel => exact ⟨1, l1, _, rfl, rfl, by omega, rfl, Or.inr (Or.inl ⟨rfl, rfl⟩), Hq1.out, HBn.out⟩
          case measure => have := Hk2.out; omega
        · have d2 := (HB2.out.cell (p := ⟨P, 1, none⟩) hP).trans HC2.out
          obtain ⟨v', w', hr, q1, q2⟩ := append_edges Hi0.out Hown2.out (HE2.out.below HB2.out (Nat.le_refl _)) (by have := Hn1.out; have := Hn2.out; omega) HB2.out.size 26
          have Hr := Lib.hid hr
          have HBn := Lib.hid (HB2.out.grown q2 HB2.out.size (fun k e => (Hown2.out.lt k e).1))
          have Hq1 := Lib.hid q1
          clear hr q1 q2
          go_wp2_with (at_builtin; refine Lib.wpList_append_run _ rfl _ _ 26 26 rfl _ _ rfl rfl _ _ Hr.out ?_)
          go_wp2_with fail
          go_roundg 0
          case rel => exact ⟨2, _, _, rfl, rfl, by omega, rfl, Or.inr (Or.inr ⟨rfl, rfl⟩), Hq1.out, HBn.out⟩
          case measure => have := Hk2.out; omega
        · have HE := Lib.hid (edges_owned Hown2.out)
          go_wp2_with fail
          go_ret
          exact ⟨_, rfl, HE.out, HB2.out⟩
end Go.Proofs.Ytnfnebfioibndaa
