/- stevedoreref.Meets: the document's answer on the same. -/
import Derived.Test.YtnfnebfioibndaaGreatDoorMeets
namespace Go.Proofs.YtnfnebfioibndaaGreatDoor
open Go.RowKit
set_option maxRecDepth 100000
set_option maxHeartbeats 4000000

theorem refMeets_calls (p : PackD) (dv av gv bv rv pv sv lv : Value) (fa : Option Addr) (fn fc : Nat) (t : TermD) (w : World) (hP : Terms w pv p.provides) (h1 : SmallT t) (h2 : p.up.size ≤ 1000 ∧ p.rv.size ≤ 1000) (h3 : ∀ q ∈ p.provides, SmallT q) :
    Calls Tryz.prog 60 #[.agg #[.string p.name, .int .i64 p.ep, .string p.up, .string p.rv, dv, av, gv, bv, rv, pv, sv, lv, .slice fa fn fc], .agg #[.string t.name, .int .i64 t.op, .int .i64 t.ep, .string t.up, .string t.rv]] w fun e w' => e = .returned (.bool (meetsB p.name p.ep p.up p.rv p.provides t)) ∧ Below w.heap.size w w' := by
  obtain ⟨w0, hw0⟩ : ∃ w0 : World, w0 = (w.alloc (.cells #[.string p.name, .int .i64 p.ep, .string p.up, .string p.rv, dv, av, gv, bv, rv, pv, sv, lv, .slice fa fn fc] 30)).alloc (.cells #[.string t.name, .int .i64 t.op, .int .i64 t.ep, .string t.up, .string t.rv] 98) := ⟨_, rfl⟩
  have hB0 : Below w.heap.size w w0 := by rw [hw0]; go_grown
  have hz : w0.heap.size = w.heap.size + 1 + 1 := by rw [hw0]; simp
  have hbox : TermBox w0 (w.heap.size + 1) t := by
    rw [hw0]
    have := TermBox.new (w.alloc (.cells #[.string p.name, .int .i64 p.ep, .string p.up, .string p.rv, dv, av, gv, bv, rv, pv, sv, lv, .slice fa fn fc] 30)) t 98
    simpa using this
  have c0 : w0.cell? ⟨w.heap.size, 0, none⟩ = some (.string p.name) := by rw [hw0]; simp [go_sem]
  have c1 : w0.cell? ⟨w.heap.size, 1, none⟩ = some (.int .i64 p.ep) := by rw [hw0]; simp [go_sem]
  have c2 : w0.cell? ⟨w.heap.size, 2, none⟩ = some (.string p.up) := by rw [hw0]; simp [go_sem]
  have c3 : w0.cell? ⟨w.heap.size, 3, none⟩ = some (.string p.rv) := by rw [hw0]; simp [go_sem]
  obtain ⟨⟨a, cap, rfl, hcap, hmax, hcell⟩, -⟩ := hP.below hB0 (Nat.le_refl _)
  have c9 : w0.cell? ⟨w.heap.size, 9, none⟩ = some (.slice a p.provides.length cap) := by rw [hw0]; simp [go_sem]
  unfold maxLen at hmax
  have Hcell := Lib.hid hcell
  have H1 := Lib.hid h1
  have H2 := Lib.hid h2
  have H3 := Lib.hid h3
  have Hbox := Lib.hid hbox
  have HB0 := Lib.hid hB0
  have Hz := Lib.hid hz
  have Hw := Lib.hid hw0
  obtain ⟨n, hn⟩ : ∃ n, p.provides.length = n := ⟨_, rfl⟩
  rw [hn] at hcap Hcell c9
  have Hn := Lib.hid hn
  obtain ⟨-, d0, d1, d2, d3, d4⟩ := hbox
  clear hP h1 h2 h3 hB0 hz hw0 hcell hn
  unfold meetsB
  have LOOP : ∀ (fr : Unit), True := fun _ => trivial
  clear LOOP
  cases hm : (p.name.toList == t.name.toList)
  case' true => cases hv : isV p.ep p.up p.rv t
  case true.true =>
    have Hv := Lib.hid hv
    clear hv
    go_enter Tryz.func60, Tryz.ntmps60
    go_wp2_with fail
    rw [← Hw.out]
    go_wp2_with fail
    refine (refIs_calls _ _ _ _ _ _ _ _ H2.out.1 H2.out.2 H1.out.1 H1.out.2).mono ?_
    rintro e w1 ⟨rfl, hb⟩
    rw [show isOp _ _ = true from Hv.out]
    have hB := HB0.out.trans (hb.mono HB0.out.size)
    clear hb c0 c1 c2 c3 c9 d0 d1 d2 d3 d4
    go_wp2_with fail
    go_ret
    exact ⟨ret_bool (by simp), hB⟩
  case' true.false =>
    have Hv := Lib.hid hv
    clear hv
    go_enter Tryz.func60, Tryz.ntmps60
    go_wp2_with fail
    rw [← Hw.out]
    go_wp2_with fail
    refine (refIs_calls _ _ _ _ _ _ _ _ H2.out.1 H2.out.2 H1.out.1 H1.out.2).mono ?_
    rintro e w1 ⟨rfl, hB1⟩
    rw [show isOp _ _ = false from Hv.out]
    have k9 : w1.cell? ⟨w.heap.size, 9, none⟩ = some (.slice a n cap) := (hB1.cell (p := ⟨w.heap.size, 9, none⟩) (by rw [Hz.out]; show w.heap.size < _; omega)).trans c9
    clear c0 c1 c2 c3 c9 d0 d1 d2 d3 d4
    go_wp2_with fail
    clear k9 Hv
  case' false =>
    have hB1 := Below.refl w0.heap.size w0
    go_enter Tryz.func60, Tryz.ntmps60
    go_wp2_with fail
    rw [← Hw.out]
    go_wp2_with fail
    clear c0 c1 c2 c3 c9 d0 d1 d2 d3 d4
  all_goals
    clear hm
    go_loopg [24] n (fun k v24 wr => ∃ i : Nat, v24 = .int .i64 i ∧ i ≤ n ∧ k = n - i ∧ (p.provides.take i).any (provB t) = false ∧ Below w0.heap.size w0 wr)
    case atStart => exact ⟨0, rfl, Nat.zero_le _, rfl, rfl, hB1⟩
    case round =>
      clear hB1
      obtain ⟨i, rfl, hi, hk, hall, hB⟩ := hrel
      have Hk := Lib.hid hk
      have Hall := Lib.hid hall
      have hfin := HB0.out.trans (hB.mono HB0.out.size)
      clear hk hall
      by_cases hlt : i < n
      · obtain ⟨b, o, rfl, hb, hc⟩ := Hcell.out.resolve_left (by omega)
        obtain ⟨q, hq⟩ : ∃ q, TermD.at p.provides i = q := ⟨_, rfl⟩
        have HM : Hid (q ∈ p.provides) := by
          show q ∈ p.provides
          rw [← hq]
          exact mem_at (by rw [Hn.out]; exact hlt)
        have c0 : wr.cell? ⟨b, o + i * 5, none⟩ = some (.string q.name) := (hB.cell (p := ⟨b, o + i * 5, none⟩) hb).trans (by have := hc i 0 hlt (by decide); rw [hq] at this; exact this)
        have c1 : wr.cell? ⟨b, o + i * 5 + 1, none⟩ = some (.int .i64 q.op) := (hB.cell (p := ⟨b, o + i * 5 + 1, none⟩) hb).trans (by have := hc i 1 hlt (by decide); rw [hq] at this; exact this)
        have c2 : wr.cell? ⟨b, o + i * 5 + 2, none⟩ = some (.int .i64 q.ep) := (hB.cell (p := ⟨b, o + i * 5 + 2, none⟩) hb).trans (by have := hc i 2 hlt (by decide); rw [hq] at this; exact this)
        have c3 : wr.cell? ⟨b, o + i * 5 + 3, none⟩ = some (.string q.up) := (hB.cell (p := ⟨b, o + i * 5 + 3, none⟩) hb).trans (by have := hc i 3 hlt (by decide); rw [hq] at this; exact this)
        have c4 : wr.cell? ⟨b, o + i * 5 + 4, none⟩ = some (.string q.rv) := (hB.cell (p := ⟨b, o + i * 5 + 4, none⟩) hb).trans (by have := hc i 4 hlt (by decide); rw [hq] at this; exact this)
        obtain ⟨-, d0, d1, d2, d3, d4⟩ := Hbox.out.below hB (by rw [Hz.out]; omega)
        have HQ := Lib.hid hq
        have hsz : w.heap.size + 1 < wr.heap.size := by have := hB.size; rw [Hz.out] at this; omega
        have NO : Hid (provB t q = false → (p.provides.take (i + 1)).any (provB t) = false) := fun h => any_step TermD.none (by rw [Hn.out]; exact hlt) Hall.out (by rw [show p.provides.getD i TermD.none = q from HQ.out]; exact h)
        have YES : Hid (provB t q = true → p.provides.any (provB t) = true) := fun h => by rw [List.any_eq_true]; exact ⟨q, HM.out, h⟩
        have hlt2 : i < p.provides.length := by rw [Hn.out]; exact hlt
        clear hc hq hb
        cases hn : (q.name.toList == t.name.toList)
        · have Hs : Hid (provB t q = false) := by show provB t q = false; unfold provB; rw [hn]; rfl
          have Hnext := Lib.hid (NO.out Hs.out)
          clear YES NO
          go_wp2_with fail
          go_roundg (n - (i + 1))
          case rel => exact ⟨i + 1, by go_num, by omega, rfl, Hnext.out, hB.alloc hB.size _⟩
          case measure => have := Hk.out; omega
        · cases ho : (t.op == 0)
          · cases h3 : (q.op == 3)
            · have Hs : Hid (provB t q = false) := by show provB t q = false; unfold provB; rw [ho, h3]; simp
              have Hnext := Lib.hid (NO.out Hs.out)
              clear YES NO
              go_wp2_with fail
              go_roundg (n - (i + 1))
              case rel => exact ⟨i + 1, by go_num, by omega, rfl, Hnext.out, hB.alloc hB.size _⟩
              case measure => have := Hk.out; omega
            · cases hv : isV q.ep q.up q.rv t
              · have Hs : Hid (provB t q = false) := by show provB t q = false; unfold provB; rw [hv]; simp [ho]
                have Hnext := Lib.hid (NO.out Hs.out)
                have Hv := Lib.hid hv
                clear YES NO hv
                go_wp2_with fail
                refine (refIs_calls _ _ _ _ _ _ _ _ (H3.out q HM.out).1 (H3.out q HM.out).2 H1.out.1 H1.out.2).mono ?_
                rintro e w1 ⟨rfl, hb⟩
                rw [show isOp _ _ = false from Hv.out]
                have hB1 := (hB.alloc hB.size _).trans (hb.mono (by have := hB.size; simp; omega))
                clear hb c0 c1 c2 c3 c4 d0 d1 d2 d3 d4
                go_wp2_with fail
                go_roundg (n - (i + 1))
                case rel => exact ⟨i + 1, by go_num, by omega, rfl, Hnext.out, hB1⟩
                case measure => have := Hk.out; omega
              · have Hs : Hid (provB t q = true) := by show provB t q = true; unfold provB; rw [hn, h3, hv]; simp
                have Hyes := Lib.hid (YES.out Hs.out)
                have Hv := Lib.hid hv
                clear YES NO hv
                go_wp2_with fail
                refine (refIs_calls _ _ _ _ _ _ _ _ (H3.out q HM.out).1 (H3.out q HM.out).2 H1.out.1 H1.out.2).mono ?_
                rintro e w1 ⟨rfl, hb⟩
                rw [show isOp _ _ = true from Hv.out]
                have hB1 := (hB.alloc hB.size _).trans (hb.mono (by have := hB.size; simp; omega))
                have hF := HB0.out.trans (hB1.mono HB0.out.size)
                clear hb hB1 c0 c1 c2 c3 c4 d0 d1 d2 d3 d4
                go_wp2_with fail
                go_ret
                exact ⟨ret_bool (by simp [Hyes.out]), hF⟩
          · have Hs : Hid (provB t q = true) := by show provB t q = true; unfold provB; rw [hn, ho]; rfl
            have Hyes := Lib.hid (YES.out Hs.out)
            clear YES NO
            go_wp2_with fail
            go_ret
            exact ⟨ret_bool (by simp [Hyes.out]), hfin.alloc hfin.size _⟩
      · have hin : i = n := by omega
        have Hany : Hid (p.provides.any (provB t) = false) := by
          show p.provides.any (provB t) = false
          have := Hall.out
          rwa [List.take_of_length_le (by rw [Hn.out]; omega)] at this
        clear Hall
        have hlt2 : ¬ i < p.provides.length := by rw [Hn.out]; exact hlt
        clear hin
        go_wp2_with fail
        go_ret
        exact ⟨ret_bool (by simp [Hany.out]), hfin⟩
end Go.Proofs.YtnfnebfioibndaaGreatDoor
