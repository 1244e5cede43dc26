/- stevedoreref.Met. -/
import Derived.Test.YtnfnebfioibndaaGreatDoorMet
namespace Go.Proofs.YtnfnebfioibndaaGreatDoor
open Go.RowKit
set_option maxRecDepth 100000
set_option maxHeartbeats 4000000

theorem Sl.slice {w : World} {v : Value} {n sz : Nat} {R : Nat → Nat → Value} (h : Sl w v n sz R) : ∃ a n c, v = .slice a n c := by
  obtain ⟨a, c, e, -⟩ := h
  exact ⟨a, n, c, e⟩
theorem Lists.slice {w : World} {v : Value} {ls : List (List TermD)} (h : Lists w v ls) : ∃ a n c, v = .slice a n c := h.choose_spec.1.slice

theorem refMet_calls (lv pv : Value) (ls : List (List TermD)) (ps : List PackD) (w : World) (hL : Lists w lv ls) (hP : Packs w pv ps) (hp1 : ∀ p ∈ ps, p.up.size ≤ 1000 ∧ p.rv.size ≤ 1000) (hp2 : ∀ p ∈ ps, ∀ q ∈ p.provides, SmallT q) (hS : ∀ l ∈ ls, ∀ t ∈ l, SmallT t) :
    Calls Tryz.prog 32 #[lv, pv] w fun e w' => e = .returned (.tuple #[.int .i64 (metR (oneP ps) ls).1, .bool (metR (oneP ps) ls).2]) ∧ Below w.heap.size w w' := by
  obtain ⟨V, ⟨a, cap, rfl, hcap, hmax, hcell⟩, hT⟩ := hL
  obtain ⟨R, ⟨ap, capp, rfl, hcapp, hmaxp, hcellp⟩, hO⟩ := hP
  unfold maxLen at hmax hmaxp
  have Hcell := Lib.hid hcell
  have Hcellp := Lib.hid hcellp
  have HT := Lib.hid hT
  have HO := Lib.hid hO
  have HP1 := Lib.hid hp1
  have HP2 := Lib.hid hp2
  have HS := Lib.hid hS
  obtain ⟨n, hn⟩ : ∃ n, ls.length = n := ⟨_, rfl⟩
  obtain ⟨m, hm⟩ : ∃ m, ps.length = m := ⟨_, rfl⟩
  rw [hn] at hcap Hcell HT
  rw [hm] at hcapp Hcellp HO
  have Hn := Lib.hid hn
  have Hm := Lib.hid hm
  clear hcell hcellp hT hO hp1 hp2 hS
  rw [hn, hm]
  clear hn hm
  go_enter Tryz.func32, Tryz.ntmps32
  go_wp2_with fail
  go_loopg [15] n (fun k v15 wr => ∃ i : Nat, v15 = .int .i64 i ∧ i ≤ n ∧ k = n - i ∧ (ls.take i).all (oneP ps) = true ∧ Below w.heap.size w wr)
  case atStart => exact ⟨0, rfl, Nat.zero_le _, rfl, rfl, Below.refl _ _⟩
  case round =>
    obtain ⟨i, rfl, hi, hk, hall, hB⟩ := hrel
    have Hk := Lib.hid hk
    have Hall := Lib.hid hall
    clear hk hall
    by_cases hlt : i < n
    · obtain ⟨b, o, rfl, hb, hc⟩ := Hcell.out.resolve_left (by omega)
      have c1 : wr.cell? ⟨b, o + i, none⟩ = some (V i) := (hB.cell (p := ⟨b, o + i, none⟩) hb).trans (by have := hc i 0 hlt (by decide); simpa using this)
      clear hc hb
      obtain ⟨x, hx⟩ : ∃ x, ls.getD i [] = x := ⟨_, rfl⟩
      obtain ⟨⟨ax, capx, hV, hcapx, hmaxx, hcellx⟩, -⟩ := HT.out i hlt
      rw [hx] at hV hcapx hcellx
      unfold maxLen at hmaxx
      rw [hV] at c1
      obtain ⟨nx, hnx⟩ : ∃ nx, x.length = nx := ⟨_, rfl⟩
      rw [hnx] at c1 hcapx hcellx
      have Hcellx := Lib.hid hcellx
      have Hnx := Lib.hid hnx
      have Hx := Lib.hid hx
      have HSx : Hid (∀ t ∈ x, SmallT t) := by
        show ∀ t ∈ x, SmallT t
        rw [← hx]
        exact HS.out _ (mem_getD _ (by rw [Hn.out]; exact hlt))
      clear hcellx hnx hx hV
      go_upto_block 2 with (fail)
      go_cut [8] (fun v8 wx => v8 = .bool (oneP ps x) ∧ Below w.heap.size w wx)
      case first =>
        clear c1
        go_wp2_with fail
        go_loopg [8, 22] nx (fun k v8 v22 wr => ∃ j : Nat, v22 = .int .i64 j ∧ v8 = .bool ((x.take j).any fun t => ps.any (packB t)) ∧ j ≤ nx ∧ k = nx - j ∧ Below w.heap.size w wr)
        case atStart => exact ⟨0, rfl, rfl, Nat.zero_le _, rfl, hB⟩
        case round =>
          clear hB
          obtain ⟨j, rfl, rfl, hj, hk2, hB⟩ := hrel
          obtain ⟨wm, rfl⟩ : ∃ wm : World, wm = wr := ⟨_, rfl⟩
          have Hk2 := Lib.hid hk2
          clear hk2
          obtain ⟨b0, hb0⟩ : ∃ b0, ((x.take j).any fun t => ps.any (packB t)) = b0 := ⟨_, rfl⟩
          rw [hb0]
          have Hb0 := Lib.hid hb0
          clear hb0
          by_cases hjl : j < nx
          · obtain ⟨bx, ox, rfl, hbx, hcx⟩ := Hcellx.out.resolve_left (by omega)
            obtain ⟨t, ht⟩ : ∃ t, TermD.at x j = t := ⟨_, rfl⟩
            have HM : Hid (SmallT t) := by
              show SmallT t
              rw [← ht]
              exact HSx.out _ (mem_at (by rw [Hnx.out]; exact hjl))
            have d0 : wm.cell? ⟨bx, ox + j * 5, none⟩ = some (.string t.name) := (hB.cell (p := ⟨bx, ox + j * 5, none⟩) hbx).trans (by have := hcx j 0 hjl (by decide); rw [ht] at this; exact this)
            have d1 : wm.cell? ⟨bx, ox + j * 5 + 1, none⟩ = some (.int .i64 t.op) := (hB.cell (p := ⟨bx, ox + j * 5 + 1, none⟩) hbx).trans (by have := hcx j 1 hjl (by decide); rw [ht] at this; exact this)
            have d2 : wm.cell? ⟨bx, ox + j * 5 + 2, none⟩ = some (.int .i64 t.ep) := (hB.cell (p := ⟨bx, ox + j * 5 + 2, none⟩) hbx).trans (by have := hcx j 2 hjl (by decide); rw [ht] at this; exact this)
            have d3 : wm.cell? ⟨bx, ox + j * 5 + 3, none⟩ = some (.string t.up) := (hB.cell (p := ⟨bx, ox + j * 5 + 3, none⟩) hbx).trans (by have := hcx j 3 hjl (by decide); rw [ht] at this; exact this)
            have d4 : wm.cell? ⟨bx, ox + j * 5 + 4, none⟩ = some (.string t.rv) := (hB.cell (p := ⟨bx, ox + j * 5 + 4, none⟩) hbx).trans (by have := hcx j 4 hjl (by decide); rw [ht] at this; exact this)
            have Ht := Lib.hid ht
            clear hcx ht hbx
            obtain ⟨wt, hwt⟩ : ∃ wt : World, wt = wm.alloc (.cells #[.string t.name, .int .i64 t.op, .int .i64 t.ep, .string t.up, .string t.rv] 98) := ⟨_, rfl⟩
            have hBt : Below w.heap.size w wt := by rw [hwt]; exact hB.alloc hB.size _
            have HBox : Hid (TermBox wt wm.heap.size t) := by show TermBox wt wm.heap.size t; rw [hwt]; exact TermBox.new wm t _
            have Hwt := Lib.hid hwt
            have Hzt : Hid (wt.heap.size = wm.heap.size + 1) := by show _ = _; rw [hwt]; simp
            have hzr := hB.size
            clear hwt hB
            go_upto_block 4 with (fail)
            rw [← Hwt.out]
            clear d0 d1 d2 d3 d4
            go_wp2_with fail
            go_loopg [8, 28] m (fun k v8 v28 wx => ∃ l : Nat, v28 = .int .i64 l ∧ v8 = .bool (b0 || (ps.take l).any (packB t)) ∧ l ≤ m ∧ k = m - l ∧ Below wt.heap.size wt wx)
            case atStart => exact ⟨0, rfl, by simp, Nat.zero_le _, rfl, Below.refl _ _⟩
            case round =>
              obtain ⟨l, rfl, rfl, hl, hk3, hB⟩ := hrel
              have Hk3 := Lib.hid hk3
              obtain ⟨b1, hb1⟩ : ∃ b1, (b0 || (ps.take l).any (packB t)) = b1 := ⟨_, rfl⟩
              rw [hb1]
              have Hb1 := Lib.hid hb1
              clear hb1 hk3
              have hfin := hBt.trans (hB.mono hBt.size)
              by_cases hll : l < m
              · obtain ⟨bp, op, rfl, hbp, hcp⟩ := Hcellp.out.resolve_left (by omega)
                obtain ⟨p, hp⟩ : ∃ p, ps.getD l PackD.none = p := ⟨_, rfl⟩
                have hpk := HO.out l hll
                rw [hp] at hpk
                have HMp : Hid (p ∈ ps) := by
                  show p ∈ ps
                  rw [← hp]
                  exact mem_getD _ (by rw [Hm.out]; exact hll)
                have Hp := Lib.hid hp
                have hbase := hfin
                have C : Hid (∀ k, k < 13 → wr.cell? ⟨bp, op + l * 13 + k, none⟩ = wr.cell? ⟨bp, op + l * 13 + k, none⟩) := fun _ _ => rfl
                clear C hp
                obtain ⟨dv, av, gv, bv, rv, pv, sv, lv, fa, fn, fc, e4, e5, e6, e7, e8, e9, e10, e11, e12, hV⟩ := hpk.cells
                obtain ⟨f4, n4, q4, rfl⟩ := hV.depends.slice
                obtain ⟨f5, n5, q5, rfl⟩ := hV.ahead.slice
                obtain ⟨f6, n6, q6, rfl⟩ := hV.against.1.slice
                obtain ⟨f7, n7, q7, rfl⟩ := hV.breaks.1.slice
                obtain ⟨f8, n8, q8, rfl⟩ := hV.replaces.1.slice
                obtain ⟨f9, n9, q9, rfl⟩ := hV.provides.1.slice
                obtain ⟨f10, n10, q10, rfl⟩ := hV.settings.1.slice
                obtain ⟨f11, n11, q11, rfl⟩ := hV.listens.1.slice
                have HV := Lib.hid hV
                have hat : ∀ k, k < 13 → _ = some (R l k) := fun k hk => (hfin.cell (p := ⟨bp, op + l * 13 + k, none⟩) hbp).trans (hcp l k hll hk)
                have p0 := hat 0 (by decide)
                have p1 := hat 1 (by decide)
                have p2 := hat 2 (by decide)
                have p3 := hat 3 (by decide)
                have p4 := hat 4 (by decide)
                have p5 := hat 5 (by decide)
                have p6 := hat 6 (by decide)
                have p7 := hat 7 (by decide)
                have p8 := hat 8 (by decide)
                have p9 := hat 9 (by decide)
                have p10 := hat 10 (by decide)
                have p11 := hat 11 (by decide)
                have p12 := hat 12 (by decide)
                rw [hpk.name] at p0
                rw [hpk.ep] at p1
                rw [hpk.up] at p2
                rw [hpk.rv] at p3
                rw [e4] at p4
                rw [e5] at p5
                rw [e6] at p6
                rw [e7] at p7
                rw [e8] at p8
                rw [e9] at p9
                rw [e10] at p10
                rw [e11] at p11
                rw [e12] at p12
                rw [Nat.add_zero] at p0
                clear hat hcp e4 e5 e6 e7 e8 e9 e10 e11 e12 hV hpk hbase
                obtain ⟨-, d0, d1, d2, d3, d4⟩ := HBox.out.below hB (by rw [Hzt.out]; omega)
                have hgs : wm.heap.size < wr.heap.size := by have := hB.size; rw [Hzt.out] at this; omega
                cases b1
                · go_wp2_with fail
                  refine (refMeets_calls p _ _ _ _ _ _ _ _ _ _ _ t _ ((HV.out.provides.below hfin (Nat.le_refl _)).below ((Below.refl _ _).alloc (Nat.le_refl _) _) (Nat.le_refl _)) HM.out (HP1.out p HMp.out) (HP2.out p HMp.out)).mono ?_
                  rintro e w1 ⟨rfl, hb⟩
                  rw [show meetsB p.name p.ep p.up p.rv p.provides t = packB t p from rfl]
                  have hB1 := (hB.alloc hB.size _).trans (hb.mono (by have := hB.size; simp; omega))
                  clear hb d0 d1 d2 d3 d4 p0 p1 p2 p3 p4 p5 p6 p7 p8 p9 p10 p11 p12
                  have HN : Hid ((b0 || (ps.take (l + 1)).any (packB t)) = packB t p) := by
                    show _ = _
                    have := Hb1.out
                    rw [Bool.or_eq_false_iff] at this
                    rw [List.take_add_one, List.any_append, this.1, this.2, List.getElem?_eq_getElem (by rw [Hm.out]; exact hll)]
                    have e : ps.getD l PackD.none = ps[l]'(by rw [Hm.out]; exact hll) := by simp [List.getD, List.getElem?_eq_getElem (show l < ps.length by rw [Hm.out]; exact hll)]
                    rw [Hp.out] at e
                    simp [← e]
                  go_wp2_with fail
                  go_roundg (m - (l + 1))
                  case rel => exact ⟨l + 1, by go_num, by rw [HN.out], by omega, rfl, hB1⟩
                  case measure => have := Hk3.out; omega
                · have HN : Hid ((b0 || (ps.take (l + 1)).any (packB t)) = true) := by
                    show _ = _
                    have := Hb1.out
                    rw [Bool.or_eq_true] at this
                    rw [List.take_add_one, List.any_append, Bool.or_eq_true, Bool.or_eq_true]
                    rcases this with h | h
                    · exact Or.inl h
                    · exact Or.inr (Or.inl h)
                  go_wp2_with fail
                  go_roundg (m - (l + 1))
                  case rel => exact ⟨l + 1, by go_num, by rw [HN.out], by omega, rfl, hB.alloc hB.size _⟩
                  case measure => have := Hk3.out; omega
              · have HN : Hid (((x.take (j + 1)).any fun t => ps.any (packB t)) = b1) := by
                  show _ = _
                  rw [← Hb1.out, ← Hb0.out, List.take_of_length_le (l := ps) (by rw [Hm.out]; omega), List.take_add_one, List.any_append, List.getElem?_eq_getElem (by rw [Hnx.out]; exact hjl)]
                  have e : TermD.at x j = x[j]'(by rw [Hnx.out]; exact hjl) := by simp [TermD.at, List.getD, List.getElem?_eq_getElem (show j < x.length by rw [Hnx.out]; exact hjl)]
                  rw [Ht.out] at e
                  simp [← e]
                go_wp2_with fail
                go_roundg (nx - (j + 1))
                case rel => exact ⟨j + 1, by go_num, by rw [HN.out], by omega, rfl, hfin⟩
                case measure => have := Hk2.out; omega
          · have HE : Hid (b0 = oneP ps x) := by
              show b0 = oneP ps x
              rw [← Hb0.out, List.take_of_length_le (by rw [Hnx.out]; omega)]
              rfl
            go_wp2_with fail
            go_meet
            exact ⟨by rw [HE.out], hB⟩
      case rest =>
        clear c1 hB
        obtain ⟨rfl, hB⟩ := hcut
        cases hone : oneP ps x
        · have HR := Lib.hid (metR_no (by rw [Hn.out]; exact hlt) Hall.out (by rw [Hx.out]; exact hone))
          clear hone
          go_wp2_with fail
          go_ret2
          exact ⟨ret_met HR.out, hB⟩
        · have HS2 : Hid ((ls.take (i + 1)).all (oneP ps) = true) := all_step [] (by rw [Hn.out]; exact hlt) Hall.out (by rw [Hx.out]; exact hone)
          clear hone
          go_wp2_with fail
          go_roundg (n - (i + 1))
          case rel => exact ⟨i + 1, by go_num, by omega, rfl, HS2.out, hB⟩
          case measure => have := Hk.out; omega
    · have HR := Lib.hid (metR_all (all_end (by rw [Hn.out]; omega) Hall.out))
      go_wp2_with fail
      go_ret2
      exact ⟨ret_met HR.out, hB⟩
end Go.Proofs.YtnfnebfioibndaaGreatDoor
