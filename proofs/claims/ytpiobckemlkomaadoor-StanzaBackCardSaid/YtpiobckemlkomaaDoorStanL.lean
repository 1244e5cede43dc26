/- StanzaParses: the law's walk. (Written by gen_stanl.py.) -/
import Derived.Test.YtpiobckemlkomaaDoorStanS
namespace Go.Proofs.YtpiobckemlkomaaDoor
open Go.RowKit
set_option maxRecDepth 100000
set_option maxHeartbeats 4000000

theorem neq_fld (x y : ByteArray) (w : World) : (binOp .neq 48 (.agg #[.string x, .string y]) (.agg #[.string x, .string y])).run Tryd.prog w = .ok (.bool false) w := by
  rw [run_neq_struct, run_equalIn_agg _ _ _ _ _ (by kernel_rfl) (by kernel_rfl)]
  unfold Program.fieldsOf
  rw [Tryd.underlying48]
  simp [go_sem, Tryd.underlying9]

theorem lsame_calls (va vb : Value) (l : List FieldD) (w : World) (ha : Flds w va l) (hb : Flds w vb l) :
    Calls Tryd.prog 9 #[va, vb] w fun e w' => e = .returned (.bool true) ∧ Below w.heap.size w w' := by
  obtain ⟨aa, ca, rfl, hca, hma, hcella⟩ := ha.1
  obtain ⟨ab, cb, rfl, hcb, hmb, hcellb⟩ := hb.1
  unfold maxLen at hma hmb
  clear ha hb
  obtain ⟨n, hn⟩ : ∃ n, l.length = n := ⟨_, rfl⟩
  rw [hn] at hca hcb hcella hcellb ⊢
  have Ha := Lib.hid hcella
  have Hb := Lib.hid hcellb
  have tn : (n != n) = false := by simp
  clear hcella hcellb hn
  go_enter Tryd.func9, Tryd.ntmps9
  go_wp2_with fail
  go_loopg [5] n (fun k v5 wr => ∃ i : Nat, v5 = .int .i64 i ∧ i ≤ n ∧ k = n - i ∧ Below w.heap.size w wr)
  case atStart => exact ⟨0, rfl, Nat.zero_le _, rfl, Below.refl _ _⟩
  case round =>
    obtain ⟨i, rfl, hi, hk, hB⟩ := hrel
    have Hk := Lib.hid hk
    clear hk
    by_cases hlt : i < n
    · obtain ⟨b1, o1, rfl, hb1, hc1⟩ := Ha.out.resolve_left (by omega)
      obtain ⟨b2, o2, rfl, hb2, hc2⟩ := Hb.out.resolve_left (by omega)
      obtain ⟨t, ht⟩ : ∃ t, l.getD i default = t := ⟨_, rfl⟩
      obtain ⟨x, y⟩ := t
      have c0 : wr.cell? ⟨b1, o1 + i * 2, none⟩ = some (.string x) := (hB.cell (p := ⟨b1, o1 + i * 2, none⟩) hb1).trans (by have := hc1 i 0 hlt (by decide); rw [ht] at this; exact this)
      have c1 : wr.cell? ⟨b1, o1 + i * 2 + 1, none⟩ = some (.string y) := (hB.cell (p := ⟨b1, o1 + i * 2 + 1, none⟩) hb1).trans (by have := hc1 i 1 hlt (by decide); rw [ht] at this; exact this)
      have d0 : wr.cell? ⟨b2, o2 + i * 2, none⟩ = some (.string x) := (hB.cell (p := ⟨b2, o2 + i * 2, none⟩) hb2).trans (by have := hc2 i 0 hlt (by decide); rw [ht] at this; exact this)
      have d1 : wr.cell? ⟨b2, o2 + i * 2 + 1, none⟩ = some (.string y) := (hB.cell (p := ⟨b2, o2 + i * 2 + 1, none⟩) hb2).trans (by have := hc2 i 1 hlt (by decide); rw [ht] at this; exact this)
      have hnq := neq_fld x y
      clear hc1 hc2 ht
      go_wp2_with fail
      go_quiet (fail)
      go_wp2_with fail
      go_roundg (n - (i + 1))
      case rel => exact ⟨i + 1, by go_num, by omega, rfl, below_dN hB _⟩
      case measure => have := Hk.out; omega
    · go_wp2_with fail
      go_ret
      exact ⟨rfl, hB⟩

theorem ksame_calls (va vb : Value) (l : List FieldD) (w : World) (ha : Flds w va l) (hb : Flds w vb l) :
    Calls Tryd.prog 22 #[va, vb] w fun e w' => e = .returned (.bool true) ∧ Below w.heap.size w w' := by
  obtain ⟨aa, ca, rfl, hca, hma, hcella⟩ := ha.1
  obtain ⟨ab, cb, rfl, hcb, hmb, hcellb⟩ := hb.1
  unfold maxLen at hma hmb
  clear ha hb
  obtain ⟨n, hn⟩ : ∃ n, l.length = n := ⟨_, rfl⟩
  rw [hn] at hca hcb hcella hcellb ⊢
  have Ha := Lib.hid hcella
  have Hb := Lib.hid hcellb
  have tn : (n != n) = false := by simp
  clear hcella hcellb hn
  go_enter Tryd.func22, Tryd.ntmps22
  go_wp2_with fail
  go_loopg [5] n (fun k v5 wr => ∃ i : Nat, v5 = .int .i64 i ∧ i ≤ n ∧ k = n - i ∧ Below w.heap.size w wr)
  case atStart => exact ⟨0, rfl, Nat.zero_le _, rfl, Below.refl _ _⟩
  case round =>
    obtain ⟨i, rfl, hi, hk, hB⟩ := hrel
    have Hk := Lib.hid hk
    clear hk
    by_cases hlt : i < n
    · obtain ⟨b1, o1, rfl, hb1, hc1⟩ := Ha.out.resolve_left (by omega)
      obtain ⟨b2, o2, rfl, hb2, hc2⟩ := Hb.out.resolve_left (by omega)
      obtain ⟨t, ht⟩ : ∃ t, l.getD i default = t := ⟨_, rfl⟩
      obtain ⟨x, y⟩ := t
      have c0 : wr.cell? ⟨b1, o1 + i * 2, none⟩ = some (.string x) := (hB.cell (p := ⟨b1, o1 + i * 2, none⟩) hb1).trans (by have := hc1 i 0 hlt (by decide); rw [ht] at this; exact this)
      have c1 : wr.cell? ⟨b1, o1 + i * 2 + 1, none⟩ = some (.string y) := (hB.cell (p := ⟨b1, o1 + i * 2 + 1, none⟩) hb1).trans (by have := hc1 i 1 hlt (by decide); rw [ht] at this; exact this)
      have d0 : wr.cell? ⟨b2, o2 + i * 2, none⟩ = some (.string x) := (hB.cell (p := ⟨b2, o2 + i * 2, none⟩) hb2).trans (by have := hc2 i 0 hlt (by decide); rw [ht] at this; exact this)
      have d1 : wr.cell? ⟨b2, o2 + i * 2 + 1, none⟩ = some (.string y) := (hB.cell (p := ⟨b2, o2 + i * 2 + 1, none⟩) hb2).trans (by have := hc2 i 1 hlt (by decide); rw [ht] at this; exact this)
      have hnq := neq_fld x y
      clear hc1 hc2 ht
      go_wp2_with fail
      go_quiet (fail)
      go_wp2_with fail
      go_roundg (n - (i + 1))
      case rel => exact ⟨i + 1, by go_num, by omega, rfl, below_dN hB _⟩
      case measure => have := Hk.out; omega
    · go_wp2_with fail
      go_ret
      exact ⟨rfl, hB⟩

theorem stanzaParses_calls (s : ByteArray) (w : World) (hs : s.size ≤ maxLen) (hm : MaxV w) (hv : ErrVar w) (hfi : FineR w) :
    Calls Tryd.prog 3 #[.string s] w fun e w' => e = .returned (.bool true) ∧ Below w.heap.size w w' := by
  unfold maxLen at hs
  by_cases h1 : 1500 < s.size
  · have q1 : decide ((1500 : Int) < s.size) = true := decide_eq_true (by omega)
    go_enter Tryd.func3, Tryd.ntmps3
    go_wp2_with fail
    go_ret
    exact ⟨rfl, Below.refl _ _⟩
  have q1 : decide ((1500 : Int) < s.size) = false := decide_eq_false (by omega)
  have RP := Lib.hid (rparse_calls s w (by omega) hm hfi)
  have PC : Hid (∀ w', Below w.heap.size w w' → Calls Tryd.prog 7 #[.string s] w' (ParseR w' s)) := fun w' hb => parse_calls s w' (by omega) (hm.below hb hm.lt)
  have HE := Lib.hid hv
  obtain ⟨z, hz⟩ : ∃ z, w.heap.size = z := ⟨_, rfl⟩
  have Hz := Lib.hid hz
  rw [hz] at PC ⊢
  clear hm hv hfi hz
  go_enter Tryd.func3, Tryd.ntmps3
  go_wp2_with fail
  refine RP.out.mono ?_
  rintro e1 w1 ⟨v1, k, p, rfl, hb1, hr1⟩
  obtain ⟨ra, rn, rc, rfl⟩ : ∃ a n c, v1 = .slice a n c := by
    rcases hr1 with ⟨outs, _, ⟨V, ⟨a, c, e, _⟩, _⟩, _⟩ | ⟨e, _⟩
    · exact ⟨a, _, c, e⟩
    · exact ⟨none, 0, 0, e⟩
  have HB1 : Hid (Below z w w1) := by rw [Hz.out] at hb1; exact hb1
  have HR1 := Lib.hid hr1
  have hz1 : z ≤ w1.heap.size := by have := HB1.out.size; rw [Hz.out] at this; exact this
  have HB2 : Hid (Below z w (w1.alloc (.cells #[.int .i64 k, .int .i64 p] 25))) := HB1.out.alloc hz1 _
  have HA2 : Hid ((w1.alloc (.cells #[.int .i64 k, .int .i64 p] 25)).heap[w1.heap.size]? = some (.cells #[.int .i64 k, .int .i64 p] 25)) := heap_alloc_new w1 _
  have HU2 : Hid (Below w1.heap.size w1 (w1.alloc (.cells #[.int .i64 k, .int .i64 p] 25))) := (Below.refl _ _).alloc (Nat.le_refl _) _
  obtain ⟨r, hr⟩ : ∃ r, w1.heap.size = r := ⟨_, rfl⟩
  clear hb1 hr1 RP
  go_wp2_with fail
  obtain ⟨w2, hw2⟩ : ∃ w2 : World, w1.alloc (.cells #[.int .i64 k, .int .i64 p] 25) = w2 := ⟨_, rfl⟩
  rw [hw2] at HB2 HA2 HU2 ⊢
  have hw2s : w2.heap.size = r + 1 := by rw [← hw2, ← hr]; simp
  have Hw2s := Lib.hid hw2s
  have Hr := Lib.hid hr
  rw [hr] at HA2 HU2
  clear hw2 hr hw2s
  refine (PC.out w2 HB2.out).mono ?_
  rintro e3 w3 ⟨v3, ev, rfl, hb3, hr3⟩
  obtain ⟨pa, pn, pc, rfl⟩ : ∃ a n c, v3 = .slice a n c := by
    rcases hr3 with ⟨outs, _, ⟨V, ⟨a, c, e, _⟩, _⟩, _⟩ | ⟨e, _⟩
    · exact ⟨a, _, c, e⟩
    · exact ⟨none, 0, 0, e⟩
  have HB3 : Hid (Below z w w3) := HB2.out.trans (hb3.mono (by have := Hr.out; rw [Hw2s.out]; omega))
  have HU3 : Hid (Below r w1 w3) := HU2.out.trans (hb3.mono (by rw [Hw2s.out]; omega))
  have ha3 : w3.heap[r]? = some (.cells #[.int .i64 k, .int .i64 p] 25) := (hb3.block r (by rw [Hw2s.out]; exact Nat.lt_succ_self r)).trans HA2.out
  have g0 := cell_two0 ha3
  have g1 := cell_two1 ha3
  have gl := blk_lt ha3
  have HEV : Hid (ErrV w3 ev k p ∧ ((k = 0 ∧ ∃ outs, rn = outs.length ∧ pn = outs.length ∧ Grps w1 (.slice ra rn rc) outs ∧ Grps w3 (.slice pa pn pc) outs) ∨ (pn = 0 ∧ rn = 0))) := by
    rcases HR1.out with ⟨outs, h1, hg1, rfl, rfl⟩ | ⟨e1, h1, i, hbad, rfl, rfl⟩
    · rcases hr3 with ⟨outs', h2, hg2, rfl⟩ | ⟨e2, h2, _⟩
      · obtain rfl : outs = outs' := by rw [h1] at h2; injection h2
        refine ⟨.nil, Or.inl ⟨rfl, outs, ?_, ?_, hg1, hg2⟩⟩
        · obtain ⟨V, ⟨a, c, e, _⟩, _⟩ := hg1
          injection e
        · obtain ⟨V, ⟨a, c, e, _⟩, _⟩ := hg2
          injection e
      · rw [h1] at h2; cases h2
    · rcases hr3 with ⟨outs', h2, _⟩ | ⟨e2, h2, j, q, hbad2, rfl, hq⟩
      · rw [h1] at h2; cases h2
      · obtain rfl := hbad.uniq hbad2
        cases e1
        cases e2
        exact ⟨.at q 0 3 i (cell_two0 hq) (cell_two1 hq) (blk_lt hq), Or.inr ⟨rfl, rfl⟩⟩
  have IC := is_calls ev k p k p w3 (HE.out.below (HB3.out.mono (by rw [Hz.out]; exact Nat.le_refl _))) HEV.out.1
  rw [show (k == k && p == p) = true by simp] at IC
  replace IC := Lib.hid IC
  clear hb3 hr3 ha3 PC HB2 HA2 HU2 HR1
  go_wp2_with fail
  refine IC.out.mono ?_
  rintro e4 w4 ⟨rfl, hb4⟩
  have HB4 : Hid (Below z w w4) := HB3.out.trans (hb4.mono (by have := HB3.out.size; rw [Hz.out] at this; exact this))
  have HU4 : Hid (Below r w1 w4) := HU3.out.trans (hb4.mono (by have := HU3.out.size; rw [Hr.out] at this; exact this))
  have HG4 : Hid ((∃ outs, rn = outs.length ∧ pn = outs.length ∧ Grps w4 (.slice ra rn rc) outs ∧ Grps w4 (.slice pa pn pc) outs) ∨ (pn = 0 ∧ rn = 0)) := by
    rcases HEV.out.2 with ⟨_, outs, e1, e2, g1, g2⟩ | h
    · exact Or.inl ⟨outs, e1, e2, g1.below HU4.out (by rw [Hr.out]; exact Nat.le_refl _), g2.below hb4 (Nat.le_refl _)⟩
    · exact Or.inr h
  clear hb4 IC HEV HB3 HU3 g0 g1 gl HU4
  rcases HG4.out with ⟨outs, rfl, rfl, hg1, hg2⟩ | ⟨rfl, rfl⟩
  · obtain ⟨V1, ⟨a1, cc1, e1, hc1, hm1, hcell1⟩, hE1⟩ := hg1
    obtain ⟨V2, ⟨a2, cc2, e2, hc2, hm2, hcell2⟩, hE2⟩ := hg2
    cases e1
    cases e2
    obtain ⟨n, hn⟩ : ∃ n, outs.length = n := ⟨_, rfl⟩
    rw [hn] at hc1 hc2 hcell1 hcell2 hE1 hE2 ⊢
    unfold maxLen at hm1 hm2
    have H1 := Lib.hid hcell1
    have H2 := Lib.hid hcell2
    have E1 := Lib.hid hE1
    have E2 := Lib.hid hE2
    have tn : (n != n) = false := by simp
    clear hcell1 hcell2 hE1 hE2 HG4 hn
    go_wp2_with fail
    go_loopg [7] n (fun k v7 wr => ∃ i : Nat, v7 = .int .i64 i ∧ i ≤ n ∧ k = n - i ∧ Below w4.heap.size w4 wr)
    case atStart => exact ⟨0, rfl, Nat.zero_le _, rfl, Below.refl _ _⟩
    case round =>
      obtain ⟨i, rfl, hi, hk, hB⟩ := hrel
      have Hk := Lib.hid hk
      have HBr := Lib.hid hB
      clear hk hB
      by_cases hlt : i < n
      · obtain ⟨b1, o1, rfl, hb1, hc1⟩ := H1.out.resolve_left (by omega)
        obtain ⟨b2, o2, rfl, hb2, hc2⟩ := H2.out.resolve_left (by omega)
        obtain ⟨x1, hx1⟩ : ∃ x1, V1 i = x1 := ⟨_, rfl⟩
        obtain ⟨x2, hx2⟩ : ∃ x2, V2 i = x2 := ⟨_, rfl⟩
        have c1 : wr.cell? ⟨b1, o1 + i, none⟩ = some x1 := (HBr.out.cell (p := ⟨b1, o1 + i, none⟩) hb1).trans (by have h := hc1 i 0 hlt (by decide); rw [hx1] at h; simpa using h)
        have c2 : wr.cell? ⟨b2, o2 + i, none⟩ = some x2 := (HBr.out.cell (p := ⟨b2, o2 + i, none⟩) hb2).trans (by have h := hc2 i 0 hlt (by decide); rw [hx2] at h; simpa using h)
        have SF : Hid (∀ w', Below w4.heap.size w4 w' → Calls Tryd.prog 9 #[x2, x1] w' fun e w'' => e = .returned (.bool true) ∧ Below w'.heap.size w' w'') := fun w' hb => by
          rw [← hx1, ← hx2]
          exact lsame_calls _ _ _ w' ((E2.out i hlt).below hb (Nat.le_refl _)) ((E1.out i hlt).below hb (Nat.le_refl _))
        obtain ⟨ya, yn, yc, rfl⟩ : ∃ a n c, x1 = .slice a n c := by
          obtain ⟨⟨a, c, e, _⟩, _⟩ := E1.out i hlt
          rw [hx1] at e
          exact ⟨a, _, c, e⟩
        obtain ⟨za, zn, zc, rfl⟩ : ∃ a n c, x2 = .slice a n c := by
          obtain ⟨⟨a, c, e, _⟩, _⟩ := E2.out i hlt
          rw [hx2] at e
          exact ⟨a, _, c, e⟩
        have HKP : Hid (∀ w', Below w4.heap.size w4 w' → Below w4.heap.size w4 w' ∧ w'.cell? ⟨b1, o1 + i, none⟩ = some (.slice ya yn yc) ∧ w'.cell? ⟨b2, o2 + i, none⟩ = some (.slice za zn zc)) := fun w' hb => ⟨hb, (hb.cell (p := ⟨b1, o1 + i, none⟩) hb1).trans (by have h := hc1 i 0 hlt (by decide); rw [hx1] at h; simpa using h), (hb.cell (p := ⟨b2, o2 + i, none⟩) hb2).trans (by have h := hc2 i 0 hlt (by decide); rw [hx2] at h; simpa using h)⟩
        have h0 := HKP.out wr HBr.out
        have h0d := HKP.out wr.drew HBr.out.drew
        clear hc1 hc2 hx1 hx2
        go_upto_region 10 with fail
        go_region_held3 (fun w' => Below w4.heap.size w4 w' ∧ w'.cell? ⟨b1, o1 + i, none⟩ = some (.slice ya yn yc) ∧ w'.cell? ⟨b2, o2 + i, none⟩ = some (.slice za zn zc)) (first | exact h0 | exact h0d | assumption | exact HKP.out _ hbz)
          (first
            | (go_at_call 9; refine (SF.out _ (And.left (by assumption))).mono ?_; rintro e w' ⟨rfl, hbz0⟩; have hbz := (And.left (by assumption : Below w4.heap.size w4 _ ∧ _)).trans (hbz0.mono (And.left (by assumption : Below w4.heap.size w4 _ ∧ _)).size)))
        all_goals go_wp2
        all_goals go_roundg (n - (i + 1))
        all_goals first
          | (have := Hk.out; omega)
          | exact ⟨i + 1, by go_num, by omega, rfl, And.left (by assumption : Below w4.heap.size w4 _ ∧ _)⟩
      · go_wp2_with fail
        go_ret
        exact ⟨rfl, HB4.out.trans (HBr.out.mono (by have := HB4.out.size; rw [Hz.out] at this; exact this))⟩
  · go_wp2_with fail
    refine wp_loop_rounds 1 ?_
    rw [rounds_succ]
    go_wp2
    go_ret
    exact ⟨rfl, HB4.out⟩
end Go.Proofs.YtpiobckemlkomaaDoor
