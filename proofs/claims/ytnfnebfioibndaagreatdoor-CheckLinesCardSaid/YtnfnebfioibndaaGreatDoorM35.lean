/- CheckLines: who would miss whom, and in which order packages do what they are there for, is the document's. No condition; the variables that it reads (stevedoreref.table, stevedoreref.Fine, status.after) as the program's text lays them, utf8.first and acceptRanges (not read) as the library lays them. -/
import Derived.Test.YtnfnebfioibndaaGreatDoorM09
import Derived.Test.YtnfnebfioibndaaGreatDoorM16
import Derived.Deep.QuietTactic
import Derived.BigQuiet
import Derived.Test.YtnfnebfioibndaaGreatDoorM13
import Derived.Test.YtnfnebfioibndaaGreatDoorM19
import Derived.Test.YtnfnebfioibndaaGreatDoorM20
import Derived.Test.YtnfnebfioibndaaGreatDoorM34
import Derived.Test.YtnfnebfioibndaaGreatDoorM01
import Derived.LaidMore
import Derived.LaidHandle
import Derived.Stop.Joined
import Derived.Lib.SmallJoins
import Derived.Test.YtnfnebfioibndaaGreatDoorTie
import Derived.Test.YtnfnebfioibndaaGreatDoorCards
import Derived.SevenTiedAt
import Derived.Lay
namespace Go.Proofs.YtnfnebfioibndaaGreatDoor
open Go.RowKit
set_option maxRecDepth 100000
set_option maxHeartbeats 2000000

theorem sameI_calls (va vb : Value) (xs : List Int) (w : World) (ha : Ints w va xs) (hb : Ints w vb xs) :
    Calls Tryz.prog 12 #[va, vb] w fun e w' => e = .returned (.bool true) ∧ Below w.heap.size w w' := by
  obtain ⟨⟨aa, ca, rfl, hca, hma, hcella⟩, -⟩ := ha
  obtain ⟨⟨ab, cb, rfl, hcb, hmb, hcellb⟩, -⟩ := hb
  unfold maxLen at hma hmb
  obtain ⟨n, hn⟩ : ∃ n, xs.length = n := ⟨_, rfl⟩
  rw [hn] at hca hcb hcella hcellb ⊢
  have Ha := Lib.hid hcella
  have Hb := Lib.hid hcellb
  have tn : (n != n) = false := by simp
  clear hcella hcellb hn
  go_enter Tryz.func12, Tryz.ntmps12
  go_wp2_with fail
  go_loopg [5] n (fun k v5 wr => ∃ i : Nat, v5 = .int .i64 i ∧ i ≤ n ∧ k = n - i ∧ Below w.heap.size w wr)
  case atStart => exact ⟨0, rfl, Nat.zero_le _, rfl, Below.refl _ _⟩
  case round =>
    obtain ⟨i, rfl, hi, hk, hB⟩ := hrel
    have Hk := Lib.hid hk
    clear hk
    by_cases hlt : i < n
    · obtain ⟨b1, o1, rfl, hb1, hc1⟩ := Ha.out.resolve_left (by omega)
      obtain ⟨b2, o2, rfl, hb2, hc2⟩ := Hb.out.resolve_left (by omega)
      obtain ⟨x, hx⟩ : ∃ x, xs.getD i 0 = x := ⟨_, rfl⟩
      have d1 : wr.cell? ⟨b1, o1 + i, none⟩ = some (.int .i64 x) := (hB.cell (p := ⟨b1, o1 + i, none⟩) hb1).trans (by
        have h1 : w.cell? ⟨b1, o1 + i * 1 + 0, none⟩ = some (.int .i64 (xs.getD i 0)) := hc1 i 0 hlt (by decide)
        rw [hx] at h1
        simpa using h1)
      have d2 : wr.cell? ⟨b2, o2 + i, none⟩ = some (.int .i64 x) := (hB.cell (p := ⟨b2, o2 + i, none⟩) hb2).trans (by
        have h1 : w.cell? ⟨b2, o2 + i * 1 + 0, none⟩ = some (.int .i64 (xs.getD i 0)) := hc2 i 0 hlt (by decide)
        rw [hx] at h1
        simpa using h1)
      have tx : (x != x) = false := by simp
      clear hc1 hc2 hx
      go_wp2_with fail
      go_quiet (fail)
      go_wp2_with fail
      go_roundg (n - (i + 1))
      case rel => exact ⟨i + 1, by go_num, by omega, rfl, drewN_below hB _⟩
      case measure => have := Hk.out; omega
    · go_wp2_with fail
      go_ret
      exact ⟨rfl, hB⟩
end Go.Proofs.YtnfnebfioibndaaGreatDoor
namespace Go.Proofs.YtnfnebfioibndaaGreatDoor
open Go.RowKit
set_option maxRecDepth 100000
set_option maxHeartbeats 4000000

theorem forty_of_knowns {ks : List KnownD} (h : knownsB ks = true) : ∀ k ∈ ks, k.pack.depends.length ≤ 40 ∧ k.pack.ahead.length ≤ 40 := by
  unfold knownsB at h
  rw [Bool.and_eq_true, List.all_eq_true] at h
  intro k hk
  obtain ⟨i, hi, rfl⟩ := List.getElem_of_mem hk
  have := h.2 i (List.mem_range.2 hi)
  unfold goodB at this
  rw [Bool.and_eq_true] at this
  have e : ks.getD i KnownD.none = ks[i] := by simp [List.getD, List.getElem?_eq_getElem hi]
  rw [e] at this
  have := this.1
  unfold okB saysB termsB at this
  simp only [Bool.and_eq_true, decide_eq_true_eq] at this
  exact ⟨this.1.2.2.1.1, this.1.2.2.2.1.1⟩
theorem forty_strip {ks : List KnownD} (h : ∀ k ∈ ks, k.pack.depends.length ≤ 40 ∧ k.pack.ahead.length ≤ 40) : ∀ k ∈ ks.map KnownD.strip, k.pack.depends.length ≤ 40 ∧ k.pack.ahead.length ≤ 40 := by
  intro k hk
  obtain ⟨k, hk', rfl⟩ := List.mem_map.1 hk
  exact h k hk'
theorem ints_slice {w : World} {v : Value} {l : List Int} (h : Ints w v l) : ∃ a m c, v = .slice a m c := h.1.slice

theorem checkLines_calls (kv : Value) (ks : List KnownD) (which : Int) (w : World) (hK : Knowns w kv ks) (hA : TabA w) (hR : TabR w) (hN : FineR w) :
    Calls Tryz.prog 4 #[kv, .int .i64 which] w fun e w' => e = .returned (.bool true) ∧ Below w.heap.size w w' := by
  have HK00 := Lib.hid hK
  obtain ⟨R, ⟨ka, cap, rfl, hcap, hmax, -⟩, -⟩ := hK
  unfold maxLen at hmax
  obtain ⟨m, hm⟩ : ∃ m, ks.length = m := ⟨_, rfl⟩
  rw [hm] at hcap HK00 ⊢
  have HA := Lib.hid hA
  have HR := Lib.hid hR
  have HN := Lib.hid hN
  have Hm := Lib.hid hm
  have CK : Hid (Calls Tryz.prog 5 #[.slice ka m cap] w (KnownsR w ks)) := known_calls _ _ _ HK00.out
  clear hm hA hR hN
  go_enter Tryz.func4, Tryz.ntmps4
  go_wp2_with fail
  refine CK.out.mono ?_
  rintro e1 w1 ⟨kx, rfl, hkx, hb1⟩
  have HB1 := Lib.hid hb1
  have HKX := Lib.hid hkx
  clear CK hkx hb1
  cases hok : knownsB ks
  case' false =>
    clear hok
    go_wp2_with fail
    go_ret
    exact ⟨rfl, HB1.out⟩
  have HK1 := Lib.hid (HKX.out hok)
  have HF1 := Lib.hid (fit_of_knowns hok)
  have HF2 := Lib.hid (fit_of_knowns' hok)
  have H40 := Lib.hid (forty_of_knowns hok)
  have hm20 : m ≤ 20 := by have := HF2.out.len; rw [Hm.out] at this; exact this
  clear hok HKX
  obtain ⟨xa, xn, xc, rfl⟩ : ∃ a n c, kx = .slice a n c := by
    obtain ⟨R, h, _⟩ := HK1.out
    exact h.slice
  have HLAST : Hid (∀ w2, Below w.heap.size w w2 → Below w1.heap.size w1 w2 → Calls Tryz.prog 15 #[.slice xa xn xc] w2 (CheckLineR w2 (ks.map KnownD.strip))) := fun w2 h1 h2 =>
    checkLine_calls _ _ w2 (HK1.out.below h2 (Nat.le_refl _)) HF1.out ⟨fun k hk => (forty_strip H40.out k hk).1, fun k hk => (forty_strip H40.out k hk).2⟩ (HA.out.below h1)
  have HLREF : Hid (∀ w2, Below w.heap.size w w2 → Calls Tryz.prog 16 #[.slice ka m cap] w2 (CheckLineR w2 ks)) := fun w2 h1 =>
    checkLineRef_calls _ _ w2 (HK00.out.below h1 (Nat.le_refl _)) HF2.out ⟨fun k hk => (H40.out k hk).1, fun k hk => (H40.out k hk).2⟩ (HR.out.below h1) (HN.out.below h1 (Nat.le_refl _))
  have HEND : Hid (∀ v1 v2 w2 w3 w4, CheckLineR w2 (ks.map KnownD.strip) (.returned v1) w3 → CheckLineR w3 ks (.returned v2) w4 → (Calls Tryz.prog 12 #[v1, v2] w4 fun e w' => e = .returned (.bool true) ∧ Below w4.heap.size w4 w') ∧ Below w2.heap.size w2 w4 ∧ (∃ a m c, v1 = .slice a m c) ∧ ∃ a m c, v2 = .slice a m c) := by
    rintro v1 v2 w2 w3 w4 ⟨o1, xs, e1, hL1, hI1, hB1⟩ ⟨o2, ys, e2, hL2, hI2, hB2⟩
    injection e1 with e1
    injection e2 with e2
    subst e1 e2
    rw [List.length_map, whichK_strip] at hL1 hI1
    obtain rfl := hL1.strip.eq hL2
    exact ⟨sameI_calls _ _ _ w4 (hI1.below hB2 (Nat.le_refl _)) hI2, hB1.trans (hB2.mono hB1.size), ints_slice hI1, ints_slice hI2⟩
  by_cases h0 : 0 ≤ which
  case' neg =>
    have e0 : decide (which ≥ 0) = false := decide_eq_false h0
    have e0' : decide (0 ≤ which) = false := decide_eq_false h0
    have CL := Lib.hid (HLAST.out w1 HB1.out (Below.refl _ _))
    clear h0
    go_wp2_with fail
    refine CL.out.mono ?_
    rintro e2 w2 hr2
    obtain ⟨o1, hoe, hB2⟩ : ∃ o1, e2 = .returned o1 ∧ Below w1.heap.size w1 w2 := by obtain ⟨o1, _, h1, _, _, h2⟩ := hr2; exact ⟨o1, h1, h2⟩
    subst hoe
    have CL2 := Lib.hid (HLREF.out w2 (HB1.out.trans (hB2.mono HB1.out.size)))
    have HR2 := Lib.hid hr2
    clear hr2 hB2 CL
    go_wp2_with fail
    refine CL2.out.mono ?_
    rintro e3 w3 hr3
    obtain ⟨o2, hoe⟩ : ∃ o2, e3 = .returned o2 := by obtain ⟨o2, _, h1, _⟩ := hr3; exact ⟨o2, h1⟩
    subst hoe
    obtain ⟨hCS, hB3, ⟨a1, m1, c1, rfl⟩, ⟨a2, m2, c2, rfl⟩⟩ := HEND.out _ _ _ _ _ HR2.out hr3
    have HCS := Lib.hid hCS
    have HB3 := Lib.hid (HB1.out.trans (hB3.mono HB1.out.size))
    clear hr3 hCS hB3 CL2
    go_wp2_with fail
    refine HCS.out.mono ?_
    rintro e4 w4 ⟨rfl, hb4⟩
    have HB4 := Lib.hid (HB3.out.trans (hb4.mono HB3.out.size))
    clear hb4
    go_wp2_with fail
    go_ret
    exact ⟨rfl, HB4.out⟩
  by_cases h1 : which < (m : Int)
  case' neg =>
    have e0 : decide (which ≥ 0) = true := decide_eq_true h0
    have e0' : decide (0 ≤ which) = true := decide_eq_true h0
    have e1 : decide (which < (m : Int)) = false := decide_eq_false h1
    have CL := Lib.hid (HLAST.out w1 HB1.out (Below.refl _ _))
    clear h0 h1
    go_wp2_with fail
    refine CL.out.mono ?_
    rintro e2 w2 hr2
    obtain ⟨o1, hoe, hB2⟩ : ∃ o1, e2 = .returned o1 ∧ Below w1.heap.size w1 w2 := by obtain ⟨o1, _, h1, _, _, h2⟩ := hr2; exact ⟨o1, h1, h2⟩
    subst hoe
    have CL2 := Lib.hid (HLREF.out w2 (HB1.out.trans (hB2.mono HB1.out.size)))
    have HR2 := Lib.hid hr2
    clear hr2 hB2 CL
    go_wp2_with fail
    refine CL2.out.mono ?_
    rintro e3 w3 hr3
    obtain ⟨o2, hoe⟩ : ∃ o2, e3 = .returned o2 := by obtain ⟨o2, _, h1, _⟩ := hr3; exact ⟨o2, h1⟩
    subst hoe
    obtain ⟨hCS, hB3, ⟨a1, m1, c1, rfl⟩, ⟨a2, m2, c2, rfl⟩⟩ := HEND.out _ _ _ _ _ HR2.out hr3
    have HCS := Lib.hid hCS
    have HB3 := Lib.hid (HB1.out.trans (hB3.mono HB1.out.size))
    clear hr3 hCS hB3 CL2
    go_wp2_with fail
    refine HCS.out.mono ?_
    rintro e4 w4 ⟨rfl, hb4⟩
    have HB4 := Lib.hid (HB3.out.trans (hb4.mono HB3.out.size))
    clear hb4
    go_wp2_with fail
    go_ret
    exact ⟨rfl, HB4.out⟩
  obtain ⟨j, rfl⟩ : ∃ j : Nat, which = (j : Int) := ⟨which.toNat, by omega⟩
  have e0 : decide (((j : Nat) : Int) ≥ 0) = true := decide_eq_true h0
  have e0' : decide (0 ≤ ((j : Nat) : Int)) = true := decide_eq_true h0
  have e1 : decide (((j : Nat) : Int) < (m : Int)) = true := decide_eq_true h1
  have hjm : j < ks.length := by rw [Hm.out]; omega
  have hjm' : j < m := by omega
  have C1 := Lib.hid (needs_calls (.slice xa xn xc) (ks.map KnownD.strip) j w1 HK1.out HF1.out (forty_strip H40.out) (by rw [List.length_map]; exact hjm))
  have Hj := Lib.hid hjm
  clear h0 h1 hjm
  go_wp2_with fail
  refine C1.out.mono ?_
  rintro e2 w2 ⟨o1, g1, rfl, hG1, hN1, hI1, hB2⟩
  obtain ⟨p1, n1, q1, rfl⟩ := ints_slice hI1
  have HB2 := Lib.hid (HB1.out.trans (hB2.mono HB1.out.size))
  have Hb2 := Lib.hid hB2
  have C2 := Lib.hid (refNeeds_calls (.slice ka m cap) ks j w2 (HK00.out.below HB2.out (Nat.le_refl _)) HF2.out H40.out Hj.out)
  have HG1 := Lib.hid hG1.strip
  have HN1 : Hid (nextG ks g1 = none) := by have := hN1; rwa [nextG_strip] at this
  have HI1 := Lib.hid hI1
  clear hG1 hN1 hI1 hB2 C1
  go_wp2_with fail
  refine C2.out.mono ?_
  rintro e3 w3 ⟨o2, g2, rfl, hG2, hN2, hI2, hB3⟩
  obtain rfl := HG1.out.eq hG2 HN1.out hN2
  obtain ⟨p2, n2, q2, rfl⟩ := ints_slice hI2
  have C3 := Lib.hid (sameI_calls _ _ _ w3 (HI1.out.below hB3 (Nat.le_refl _)) hI2)
  have HB3 := Lib.hid (HB2.out.trans (hB3.mono HB2.out.size))
  have Hb3 := Lib.hid (Hb2.out.trans (hB3.mono Hb2.out.size))
  clear hG2 hN2 hI2 hB3 C2
  go_wp2_with fail
  refine C3.out.mono ?_
  rintro e4 w4 ⟨rfl, hb4⟩
  have HB4 := Lib.hid (HB3.out.trans (hb4.mono HB3.out.size))
  have CL := Lib.hid (HLAST.out w4 HB4.out (Hb3.out.trans (hb4.mono Hb3.out.size)))
  clear hb4 C3
  go_wp2_with fail
  refine CL.out.mono ?_
  rintro e5 w5 hr5
  obtain ⟨o5, hoe, hB5⟩ : ∃ o1, e5 = .returned o1 ∧ Below w4.heap.size w4 w5 := by obtain ⟨o1, _, h1, _, _, h2⟩ := hr5; exact ⟨o1, h1, h2⟩
  subst hoe
  have CL2 := Lib.hid (HLREF.out w5 (HB4.out.trans (hB5.mono HB4.out.size)))
  have HR5 := Lib.hid hr5
  clear hr5 hB5 CL
  go_wp2_with fail
  refine CL2.out.mono ?_
  rintro e6 w6 hr6
  obtain ⟨o6, hoe⟩ : ∃ o2, e6 = .returned o2 := by obtain ⟨o2, _, h1, _⟩ := hr6; exact ⟨o2, h1⟩
  subst hoe
  obtain ⟨hCS, hB6, ⟨a1, m1, c1, rfl⟩, ⟨a2, m2, c2, rfl⟩⟩ := HEND.out _ _ _ _ _ HR5.out hr6
  have HCS := Lib.hid hCS
  have HB6 := Lib.hid (HB4.out.trans (hB6.mono HB4.out.size))
  clear hr6 hCS hB6 CL2
  go_wp2_with fail
  refine HCS.out.mono ?_
  rintro e7 w7 ⟨rfl, hb7⟩
  have HB7 := Lib.hid (HB6.out.trans (hb7.mono HB6.out.size))
  clear hb7
  go_wp2_with fail
  go_ret
  exact ⟨rfl, HB7.out⟩
end Go.Proofs.YtnfnebfioibndaaGreatDoor
namespace Go.Proofs.YtnfnebfioibndaaGreatDoor
open Go.RowKit Go.ChangeShapes Go.WideShapes Go.ChangeAt

section
variable {H : Type} {enc : TypeId × Value → H} {P : Program} {w : World} {base fuel : Nat} {sp : Nat → Bool} {held : Bool} {cs : List Value} {p : List MemPlace}

/-- Element i of an array's datum is read off its own cells. -/
theorem arr_get {t e n k : Nat} {ds : List (DataW H)} (ht : P.underlying t = some (.array n e)) (hk : P.cellsOf e = k) (h : DataW.trod enc P w base sp held fuel t cs = some (.agg ds, p)) :
    ∃ m, ∀ (i : Nat) (d : DataW H), i < n → ds[i]? = some d → ∃ q, DataW.trod enc P w base sp held m e ((cs.drop (i * k)).take k) = some (d, q) := by
  obtain ⟨xs, m, rfl, hx, hlen, hn, hel⟩ := DataW.trod_array ht h
  simp only [Prod.mk.injEq, DataW.agg.injEq] at hx
  refine ⟨m, fun i d hi hd => ?_⟩
  have h1 := hel i hi
  rw [hk] at h1
  rw [hx.1] at hd
  simp only [List.getElem?_map, Option.map_eq_some_iff] at hd
  obtain ⟨y, hy, rfl⟩ := hd
  exact ⟨y.2, by rw [h1, hy]⟩

theorem seg_one {x : Value} {i : Nat} (h : (cs.drop (i * 1)).take 1 = [x]) : cs[i]? = some x := by
  have := congrArg (·[0]?) h
  simpa [List.getElem?_take, List.getElem?_drop] using this

/-- An array of texts. -/
theorem arr_strings {t e n : Nat} {T : Nat → List UInt8} (ht : P.underlying t = some (.array n e)) (he : P.underlying e = some .string) (hk : P.cellsOf e = 1)
    (h : DataW.trod enc P w base sp held fuel t cs = some (.agg ((List.range n).map fun i => .lit (.string (T i))), p)) (i : Nat) (hi : i < n) : cs[i]? = some (.string ⟨(T i).toArray⟩) := by
  obtain ⟨m, hm⟩ := arr_get ht hk h
  obtain ⟨q, hq⟩ := hm i (.lit (.string (T i))) hi (by simp [hi])
  obtain ⟨s, h1, h2, _⟩ := DataW.trod_string he hq
  simp only [Prod.mk.injEq, DataW.lit.injEq, Lit.string.injEq] at h2
  rw [seg_one h1, h2.1]

/-- An array of numbers. -/
theorem arr_ints {t e n : Nat} {kd : IntKind} {T : Nat → Int} (ht : P.underlying t = some (.array n e)) (he : P.underlying e = some (.int kd)) (hk : P.cellsOf e = 1)
    (h : DataW.trod enc P w base sp held fuel t cs = some (.agg ((List.range n).map fun i => .lit (.int kd (T i))), p)) (i : Nat) (hi : i < n) : cs[i]? = some (.int kd (T i)) := by
  obtain ⟨m, hm⟩ := arr_get ht hk h
  obtain ⟨q, hq⟩ := hm i (.lit (.int kd (T i))) hi (by simp [hi])
  obtain ⟨z, h1, h2, _⟩ := DataW.trod_int he hq
  simp only [Prod.mk.injEq, DataW.lit.injEq, Lit.int.injEq] at h2
  rw [seg_one h1, ← h2.1.2]

/-- An array of arrays of numbers. -/
theorem arr_ints2 {t e0 e n k : Nat} {kd : IntKind} {T : Nat → Nat → Int} (ht : P.underlying t = some (.array n e0)) (h0 : P.underlying e0 = some (.array k e)) (he : P.underlying e = some (.int kd)) (hk : P.cellsOf e = 1) (hk0 : P.cellsOf e0 = k)
    (h : DataW.trod enc P w base sp held fuel t cs = some (.agg ((List.range n).map fun i => .agg ((List.range k).map fun j => .lit (.int kd (T i j)))), p)) (i j : Nat) (hi : i < n) (hj : j < k) : cs[i * k + j]? = some (.int kd (T i j)) := by
  obtain ⟨m, hm⟩ := arr_get ht hk0 h
  obtain ⟨q, hq⟩ := hm i (.agg ((List.range k).map fun j => .lit (.int kd (T i j)))) hi (by simp [hi])
  have := arr_ints h0 he hk hq j hj
  rw [List.getElem?_take, if_pos hj, List.getElem?_drop] at this
  exact this
end

theorem h_et : Tryz.prog.globalNamed "errors.errorType" = some 3 := by kernel_rfl
theorem h_rt : (Tryz.prog.cutTypes.find? (·.1 == "internal/reflectlite.rtype")).map (·.2) = some 195 := by kernel_rfl
theorem h_oneRow : ((List.range Tryz.prog.types.size).filter fun t => Tryz.prog.rowNamed t [101, 114, 114, 111, 114]) = [38] := by kernel_rfl

/-- The variable errors.errorType. -/
theorem handle_cell {W : World} (h : handlesMet Tryz.prog [("errors.errorType", Rows.laid_errors_errorType)] W) : W.cell? ⟨3, 0, none⟩ = some (.iface 195 (.agg #[.pointer (some ⟨7, 38, none⟩)])) := by
  obtain ⟨name, u, ty, e1, e2, e3, e4, e5⟩ := h _ (List.mem_singleton.2 rfl)
  have en : name = [101, 114, 114, 111, 114] := (Option.some.inj e1).symm
  subst en
  obtain rfl := Option.some.inj (h_rt.symm.trans e2)
  have hm : ty ∈ (List.range Tryz.prog.types.size).filter fun t => Tryz.prog.rowNamed t [101, 114, 114, 111, 114] := List.mem_filter.2 ⟨List.mem_range.2 e3, e4⟩
  rw [h_oneRow] at hm
  obtain rfl := List.mem_singleton.1 hm
  have hh : typeHandle Tryz.prog 38 = .pointer (some ⟨7, 38, none⟩) := by kernel_rfl
  rw [hh] at e5
  simpa using World.var?_cell h_et e5 0

theorem cell_lt {W : World} {b o : Nat} {v : Value} (h : W.cell? ⟨b, o, none⟩ = some v) : b < W.heap.size := by
  rcases Nat.lt_or_ge b W.heap.size with h' | h'
  · exact h'
  · simp [World.cell?, Array.getElem?_eq_none h'] at h
end Go.Proofs.YtnfnebfioibndaaGreatDoor
namespace Go.Proofs.YtnfnebfioibndaaGreatDoor
open Go.RowKit Go.ChangeShapes Go.WideShapes Go.ChangeAt
set_option maxRecDepth 100000

section
variable {H : Type} {enc : TypeId × Value → H} {w : World} {base fuel : Nat} {sp : Nat → Bool} {held : Bool} {x : DataW H × List MemPlace}

theorem rd_ints {v : Value} (h : DataW.trod enc Tryz.prog w base sp held fuel 31 [v] = some x) : ∃ ns, Ints w v ns := by
  obtain ⟨n, m, R, hS, hE⟩ := open_sl Tryz.underlying31 r_cInt (by decide) h
  obtain ⟨T, hT⟩ := Deep.choose_lt (α := Int) (p := fun i t => R i 0 = .int .i64 t) (fun i (hi : i < n) => by
    obtain ⟨t, ht, _⟩ := rd_int (hE i hi).choose_spec
    exact ⟨t, ht⟩)
  refine ⟨(List.range n).map T, ?_, trivial⟩
  rw [List.length_map, List.length_range]
  refine hS.congr fun i j hi hj => ?_
  rw [show j = 0 by omega, hT i hi]
  simp [List.getD, hi]

theorem rd_packArg {r : Reach} {b0 : Nat} {v : Value} {d : DataW H} {p : List MemPlace} (hv : Value.okWide Tryz.prog w r b0 30 v) (h : DataW.Trod enc Tryz.prog w base sp held 30 v d p) :
    ∃ (q : PackD) (dv av gv bv rv pv sv lv : Value) (pa : Option Addr) (pn pc : Nat), v = .agg #[.string q.name, .int .i64 q.ep, .string q.up, .string q.rv, dv, av, gv, bv, rv, pv, sv, lv, .slice pa pn pc] ∧ PackV w q dv av gv bv rv pv sv lv pa pn pc := by
  obtain ⟨cs, rfl, hsz⟩ := okWide_struct Tryz.underlying30 hv
  rw [r_cPack] at hsz
  obtain ⟨l⟩ := cs
  have hl : l.length = 13 := by simpa using hsz
  obtain ⟨fuel, hf⟩ := h
  match l, hl, hf with
  | [x0, x1, x2, x3, x4, x5, x6, x7, x8, x9, x10, x11, x12], _, hf =>
    have hf' : DataW.trod enc Tryz.prog w base sp held fuel 30 ((List.range 13).map fun j => [x0, x1, x2, x3, x4, x5, x6, x7, x8, x9, x10, x11, x12].getD j .nilFunc) = some (d, p) := hf
    obtain ⟨q, hq⟩ := rd_pack hf'
    obtain ⟨dv, av, gv, bv, rv, pv, sv, lv, fa, fn, fc, e4, e5, e6, e7, e8, e9, e10, e11, e12, hV⟩ := hq.cells
    have e0 : x0 = .string q.name := hq.name
    have e1 : x1 = .int .i64 q.ep := hq.ep
    have e2 : x2 = .string q.up := hq.up
    have e3 : x3 = .string q.rv := hq.rv
    have e4' : x4 = dv := e4
    have e5' : x5 = av := e5
    have e6' : x6 = gv := e6
    have e7' : x7 = bv := e7
    have e8' : x8 = rv := e8
    have e9' : x9 = pv := e9
    have e10' : x10 = sv := e10
    have e11' : x11 = lv := e11
    have e12' : x12 = .slice fa fn fc := e12
    exact ⟨q, dv, av, gv, bv, rv, pv, sv, lv, fa, fn, fc, by rw [e0, e1, e2, e3, e4', e5', e6', e7', e8', e9', e10', e11', e12'], hV⟩

theorem fine_cells {cs : List Value} {p : List MemPlace} (hd : DataW.trod enc Tryz.prog w base sp held fuel 42 cs = some (.agg [.lit (.int .i64 0), .lit (.int .i64 (-1))], p)) : cs[0]? = some (.int .i64 0) ∧ cs[1]? = some (.int .i64 (-1)) := by
  obtain ⟨y0, y1, n, hx, _, h0, h1⟩ := trod_struct2 Tryz.underlying42 hd
  have cE : Tryz.prog.cellsOf 40 = 1 := by kernel_rfl
  obtain ⟨z0, a0, b0, _⟩ := DataW.trod_int Tryz.underlying40 h0
  obtain ⟨z1, a1, b1, _⟩ := DataW.trod_int Tryz.underlying3 h1
  rw [cE] at a0
  rw [r_cInt] at a1
  subst b0 b1
  simp only [Prod.mk.injEq, DataW.agg.injEq, List.cons.injEq, DataW.lit.injEq, Lit.int.injEq, and_true, true_and] at hx
  have k0 : cs[0]? = some (.int .i64 z0) := seg_one (i := 0) a0
  have k1 : cs[1]? = some (.int .i64 z1) := seg_one (i := 1) a1
  rw [k0, k1]
  exact ⟨by rw [← hx.1.1], by rw [← hx.1.2]⟩
end
end Go.Proofs.YtnfnebfioibndaaGreatDoor
namespace Go.Proofs.YtnfnebfioibndaaGreatDoor
open Go.RowKit Go.ChangeShapes Go.WideShapes Go.ChangeAt

namespace Checklines
theorem own : ownKnob Tryz.prog.godebug = none := by kernel_rfl
theorem laidOut : laidOutB Tryz.prog = true := by kernel_rfl

theorem n_gT : Tryz.prog.globalNamed "stevedore/stevedoreref.table" = some 2 := by kernel_rfl
theorem n_gA : Tryz.prog.globalNamed "stevedore/status.after" = some 1 := by kernel_rfl
theorem n_gF : Tryz.prog.globalNamed "stevedore/stevedoreref.Fine" = some 0 := by kernel_rfl
theorem n_tT : (Tryz.prog.globals[2]?).map (·.type) = some 149 := by kernel_rfl
theorem n_tA : (Tryz.prog.globals[1]?).map (·.type) = some 148 := by kernel_rfl
theorem n_tF : (Tryz.prog.globals[0]?).map (·.type) = some 42 := by kernel_rfl
theorem n_dT {H : Type} : (Rows.laid_stevedore_stevedoreref_table : DataW H) = .agg ((List.range 10).map fun i => .lit (.string (refT i))) := by rfl
theorem n_dA {H : Type} : (Rows.laid_stevedore_status_after : DataW H) = .agg ((List.range 11).map fun i => .agg ((List.range 8).map fun j => .lit (.int .i64 (afterT i j)))) := by rfl
theorem n_dF {H : Type} : (Rows.laid_stevedore_stevedoreref_Fine : DataW H) = .agg [.lit (.int .i64 0), .lit (.int .i64 (-1))] := by rfl

theorem n_of_laid {W : World} (h : laidMetH Tryz.prog Rows.checkLinesRow.laid W) : TabA W ∧ TabR W ∧ FineR W := by
  rw [MakeChecks.laidMetH_plain _ _ _ (by kernel_rfl)] at h
  have h' : laidMet Tryz.prog [("unicode/utf8.acceptRanges", Rows.laid_unicode_utf8_acceptRanges), ("stevedore/stevedoreref.table", Rows.laid_stevedore_stevedoreref_table), ("stevedore/stevedoreref.Fine", Rows.laid_stevedore_stevedoreref_Fine), ("stevedore/status.after", Rows.laid_stevedore_status_after), ("unicode/utf8.first", Rows.laid_unicode_utf8_first)] W := h
  obtain ⟨ps, ⟨ga, ta, csa, fa, pa, qa, hga, hta, hva, hda, ⟨g0, t0, cs0, f0, p0, q0, hg0, ht0, hv0, hd0, ⟨g2, t2, cs2, f2, p2, q2, hg2, ht2, hv2, hd2, ⟨g1, t1, cs1, f1, p1, q1, hg1, ht1, hv1, hd1, _, _⟩, _⟩, _⟩, _⟩, _, _⟩ := h'
  obtain rfl := Option.some.inj (n_gT.symm.trans hg0)
  obtain rfl := Option.some.inj (n_gA.symm.trans hg1)
  obtain rfl := Option.some.inj (n_gF.symm.trans hg2)
  obtain rfl := Option.some.inj (n_tT.symm.trans ht0)
  obtain rfl := Option.some.inj (n_tA.symm.trans ht1)
  obtain rfl := Option.some.inj (n_tF.symm.trans ht2)
  rw [n_dT] at hd0
  rw [n_dA] at hd1
  rw [n_dF] at hd2
  have c1 : Tryz.prog.cellsOf 9 = 1 := by kernel_rfl
  have c2 : Tryz.prog.cellsOf 3 = 1 := by kernel_rfl
  have c3 : Tryz.prog.cellsOf 147 = 8 := by kernel_rfl
  have hR : ∀ e : Nat, e < 10 → W.cell? ⟨2, e, none⟩ = some (.string ⟨(refT e).toArray⟩) := fun e he => by
    have h1 := World.var?_cell n_gT hv0 e
    have h2 := arr_strings Tryz.underlying149 Tryz.underlying9 c1 hd0 e he
    rw [h1, ← h2]; simp
  have hA : ∀ e s : Nat, e < 11 → s < 8 → W.cell? ⟨1, e * 8 + s, none⟩ = some (.int .i64 (afterT e s)) := fun e s he hs => by
    have h1 := World.var?_cell n_gA hv1 (e * 8 + s)
    have h2 := arr_ints2 Tryz.underlying148 Tryz.underlying147 Tryz.underlying3 c2 c3 hd1 e s he hs
    rw [h1, ← h2]; simp
  obtain ⟨k0, k1⟩ := fine_cells hd2
  have hF0 : W.cell? ⟨0, 0, none⟩ = some (.int .i64 0) := by
    have h1 := World.var?_cell n_gF hv2 0
    rw [h1, ← k0]; simp
  have hF1 : W.cell? ⟨0, 1, none⟩ = some (.int .i64 (-1)) := by
    have h1 := World.var?_cell n_gF hv2 1
    rw [h1, ← k1]; simp
  exact ⟨⟨hA, cell_lt (hA 0 0 (by decide) (by decide))⟩, ⟨hR, cell_lt (hR 0 (by decide))⟩, ⟨cell_lt hF0, hF0, hF1⟩⟩

set_option maxRecDepth 100000 in
theorem lifted (os : Os) (started : os.Started) (H : Type) (enc : TypeId × Value → H) :
    ReturnsInHanded {} Tryz.checked os 4 .any (fun w args => (Rows.checkLinesSpec.pre enc Tryz.prog Tryz.f4 [] false w args ∧ laidMetH Tryz.prog Rows.checkLinesRow.laid w) ∧ sizedMet enc Tryz.prog Tryz.f4 (OpenSpec.ofChange Rows.checkLinesSpec) false w args)
      (Rows.checkLinesSpec.post enc Tryz.prog Tryz.f4 false true false false) := by
  refine returnsInHanded_of_change_and (C := Tryz.checked) (X := fun w _ => laidMetH Tryz.prog Rows.checkLinesRow.laid w) (fun _ _ _ hh h => h.of_heap hh) own started (by kernel_rfl) Tryz.func4
    (ChangeSpec.witness_shaped (enc := enc) (C := Tryz.checked) (os := os) (X := fun w _ => laidMetH Tryz.prog Rows.checkLinesRow.laid w) false (World.laidAll Tryz.prog os Rows.checkLinesRow.laid) #[.slice none 0 0, .int .i64 0] 8 (World.laidAll_os _ _ _)
      (World.shaped_of_ZipB (by kernel_rfl) (by kernel_rfl)) (by kernel_rfl) (by kernel_rfl) (by kernel_rfl)
      (by rw [MakeChecks.laidMetH_plain _ _ _ (by kernel_rfl)]; exact laidMet_laidAll _ (by kernel_rfl) (by kernel_rfl))) ?_
  intro W base args ds gs before hval0 hW _ hsz hL _
  have hval : ∀ (j : Nat) t v, Tryz.f4.params[j]? = some t → args[j]? = some v → Value.okWide Tryz.prog W .any base t v := hval0
  have hW' := hW
  obtain ⟨p, q, hA0, hV, rfl, hfz, hnd⟩ := hW
  have hA : DataW.TrodAll enc Tryz.prog W 0 (fun _ => true) true Tryz.f4.params.toList args.toList ds p := hA0
  rw [Tryz.params4] at hA hval
  obtain ⟨v0, vs0, d0, ds0, p0, q0, hargs, rfl, rfl, h0, r0⟩ := trodAll_cons hA
  obtain ⟨v1, vs1, d1, ds1, p1, q1, rfl, rfl, rfl, h1, r1⟩ := trodAll_cons r0
  obtain ⟨rfl, rfl, rfl⟩ := trodAll_nil r1
  obtain rfl : args = #[v0, v1] := by cases args; simp_all
  obtain ⟨rfl, rfl⟩ := trodVars_none hV
  obtain ⟨a0, n0, c0, rfl⟩ := okWide_slice Tryz.underlying22 (hval 0 22 v0 rfl rfl)
  obtain ⟨fu0, hf0⟩ := h0
  obtain ⟨ks, hK⟩ := rd_knowns (v := .slice a0 n0 c0) hf0
  obtain ⟨which, rfl, rfl, rfl, _⟩ := open_int Tryz.underlying3 (hval 1 3 v1 rfl rfl) h1
  obtain ⟨hTA, hTR, hFi⟩ := n_of_laid hL
  refine (checkLines_calls _ ks which W hK hTA hTR hFi).mono fun ev W' ⟨he, hb⟩ => ⟨_, he, ?_⟩
  exact law_post laidOut (by kernel_rfl) hW' rfl rfl rfl Tryz.underlying4 hb

theorem holds : Rows.CheckLinesSaid :=
  OpenClaim.holds_of_wide 4 Tryz.f4 rfl rfl rfl rfl rfl rfl rfl ⟨rfl, rfl, rfl, rfl, rfl⟩ rfl rfl rfl rfl rfl (by kernel_rfl) Tryz.func4 (by kernel_rfl)
    (of_decide_eq_true (by kernel_rfl)) (by unfold Func.isWrapper; rw [if_neg (of_decide_eq_false (by kernel_rfl))]; exact ⟨rfl, rfl⟩)
    (fun os started H enc _ => lifted os started H enc)
end Checklines

theorem checkLines_card : Rows.CheckLinesCardSaid :=
  Claim7.holds_tied_plain_at .later [] [.data, .data, .data, .data, .pinned] true Rows.checkLinesCard.stood.harness true
    Checklines.holds (fun _ h => by cases h) (by kernel_rfl) (fun _ h => by cases h) checkLines_row_tie rfl ⟨rfl, rfl⟩ (by kernel_rfl) rfl
    (fun f fn hf hfn => by
      obtain rfl : f = 4 := Option.some.inj ((show Tryz.prog.funcNamed "stevedore/stevedorelaw.CheckLines" = some 4 by kernel_rfl).symm.trans hf) |>.symm
      obtain rfl : fn = Tryz.f4 := (Option.some.inj (Tryz.func4.symm.trans hfn)).symm
      exact ⟨by kernel_rfl, fun j t ht => by
        rw [Tryz.params4] at ht
        have hm : t ∈ [22, 3] := by simpa using Array.mem_of_getElem? ht
        have hall : ([22, 3].all fun u => !Tryz.prog.wantsStandIn u) = true := by kernel_rfl
        exact (show Tryz.prog.wantsStandIn t = false by simpa using List.all_eq_true.1 hall t hm)⟩)
    (by kernel_rfl)
#print axioms checkLines_card
end Go.Proofs.YtnfnebfioibndaaGreatDoor
