/- The walk of VersionCompares. -/
import Derived.Test.YtnfnebfioibndaaDoorVerI
namespace Go.Proofs.YtnfnebfioibndaaDoor
open Go.RowKit
set_option maxRecDepth 100000

theorem VerS.drew {w : World} {ea : Int} {ua ra : ByteArray} {eb : Int} {ub rb : ByteArray} {w1 : World} (h : VerS w ea ua ra eb ub rb w1) : VerS w ea ua ra eb ub rb w1.drew :=
  h.step ((Below.refl _ _).drew)
theorem VerS.start0 (w : World) (ea : Int) (ua ra : ByteArray) (eb : Int) (ub rb : ByteArray) (t : TypeId) :
    VerS w ea ua ra eb ub rb ((w.alloc (.cells #[.int .i64 ea, .string ua, .string ra] t)).alloc (.cells #[.int .i64 eb, .string ub, .string rb] t)) := by
  refine ⟨by go_grown, by simp, ?_⟩
  simp [go_sem]

set_option maxHeartbeats 4000000 in
theorem versionCompares_calls (ea eb op : Int) (ua ra ub rb : ByteArray) (w : World) (h1 : ua.size ≤ 9223372036854775807) (h2 : ra.size ≤ 9223372036854775807) (h3 : ub.size ≤ 9223372036854775807) (h4 : rb.size ≤ 9223372036854775807) :
    Calls Tryd.prog 4 #[.agg #[.int .i64 ea, .string ua, .string ra], .agg #[.int .i64 eb, .string ub, .string rb], .int .i64 op] w fun e w' =>
      e = .returned (.bool true) ∧ Below w.heap.size w w' := by
  have HS := Lib.hid (VerS.start0 w ea ua ra eb ub rb 32)
  have H1 := Lib.hid h1
  have H2 := Lib.hid h2
  have H3 := Lib.hid h3
  have H4 := Lib.hid h4
  clear h1 h2 h3 h4
  by_cases hs1 : (decide (ua.size ≤ 100) && decide (ra.size ≤ 100)) = true
  · by_cases hs2 : (decide (ub.size ≤ 100) && decide (rb.size ≤ 100)) = true
    · have k := hs1
      simp only [Bool.and_eq_true, decide_eq_true_eq] at k
      have k' := hs2
      simp only [Bool.and_eq_true, decide_eq_true_eq] at k'
      have K1 : Hid (ua.size ≤ 1000) := by show ua.size ≤ 1000; omega
      have K2 : Hid (ra.size ≤ 1000) := by show ra.size ≤ 1000; omega
      have K3 : Hid (ub.size ≤ 1000) := by show ub.size ≤ 1000; omega
      have K4 : Hid (rb.size ≤ 1000) := by show rb.size ≤ 1000; omega
      clear k k'
      have HR := Lib.hid (cmpVer_range ea ua.data.toList ra.data.toList eb ub.data.toList rb.data.toList)
      obtain ⟨n, hn⟩ : ∃ n, cmpVer ea ua.data.toList ra.data.toList eb ub.data.toList rb.data.toList = n := ⟨_, rfl⟩
      obtain ⟨q, hq⟩ : ∃ q, isOp n op = q := ⟨_, rfl⟩
      rw [hn] at HR
      have CV := fun W => verCompare_calls ea eb ua ra ub rb W K1.out K2.out K3.out K4.out
      have CR := fun W => refCompare_calls ea eb ua ra ub rb W K1.out K2.out K3.out K4.out
      have CI := fun W => verIs_calls ea eb op ua ra ub rb W K1.out K2.out K3.out K4.out
      have CJ := fun W => refIs_calls ea eb op ua ra ub rb W K1.out K2.out K3.out K4.out
      rw [hn, hq] at CI CJ
      rw [hn] at CV CR
      have DV := Lib.hid CV
      have DR := Lib.hid CR
      have DI := Lib.hid CI
      have DJ := Lib.hid CJ
      have E1 := Lib.hid hs1
      have E2 := Lib.hid hs2
      clear CV CR CI CJ hn hq hs1 hs2
      have tn : (n == n) = true := by simp
      have tq : (q == q) = true := by simp
      go_enter Tryd.func4, Tryd.ntmps4
      go_wp2_with fail
      refine (short_calls _ _ _ _ H1.out H2.out).mono ?_
      rintro e w1 ⟨rfl, hb1⟩
      rw [E1.out]
      have S1 := HS.out.step hb1
      have T1 := Lib.hid S1
      obtain ⟨b0, bz, c0, c1, c2, c3, c4, c5⟩ := S1
      clear hb1 b0
      go_wp2_with fail
      refine (short_calls _ _ _ _ H3.out H4.out).mono ?_
      rintro e w2 ⟨rfl, hb2⟩
      rw [E2.out]
      clear c0 c1 c2 c3 c4 c5
      have S2 := (T1.out.step hb2).drew
      clear hb2 bz
      go_wp2_with fail
      go_region_held3 (fun w' => Below w.heap.size w w' ∧ w.heap.size + 2 ≤ w'.heap.size ∧ w'.cell? ⟨w.heap.size, 0, none⟩ = some (.int .i64 ea) ∧ w'.cell? ⟨w.heap.size, 1, none⟩ = some (.string ua) ∧ w'.cell? ⟨w.heap.size, 2, none⟩ = some (.string ra) ∧ w'.cell? ⟨w.heap.size + 1, 0, none⟩ = some (.int .i64 eb) ∧ w'.cell? ⟨w.heap.size + 1, 1, none⟩ = some (.string ub) ∧ w'.cell? ⟨w.heap.size + 1, 2, none⟩ = some (.string rb)) (first | exact S2 | assumption | (refine VerS.step ?_ hb; assumption))
        (first
          | (go_at_call 14; refine (DV.out _).mono ?_; rintro e w' ⟨rfl, hb⟩)
          | (go_at_call 13; refine (lawSign_calls n HR.out _).mono ?_; rintro e w' ⟨rfl, rfl⟩)
          | (go_at_call 15; refine (DR.out _).mono ?_; rintro e w' ⟨rfl, hb⟩)
          | (go_at_call 16; refine (DI.out _).mono ?_; rintro e w' ⟨rfl, hb⟩)
          | (go_at_call 17; refine (DJ.out _).mono ?_; rintro e w' ⟨rfl, hb⟩))
      all_goals go_wp2
      all_goals go_ret
      all_goals refine ⟨ret_bool (by simp), ?_⟩
      all_goals first | assumption | exact And.left (by assumption : VerS w ea ua ra eb ub rb _)
    · rw [Bool.not_eq_true] at hs2
      have E1 := Lib.hid hs1
      have E2 := Lib.hid hs2
      clear hs1 hs2
      go_enter Tryd.func4, Tryd.ntmps4
      go_wp2_with fail
      refine (short_calls _ _ _ _ H1.out H2.out).mono ?_
      rintro e w1 ⟨rfl, hb1⟩
      rw [E1.out]
      have S1 := HS.out.step hb1
      have T1 := Lib.hid S1
      obtain ⟨b0, bz, c0, c1, c2, c3, c4, c5⟩ := S1
      clear hb1 b0
      go_wp2_with fail
      refine (short_calls _ _ _ _ H3.out H4.out).mono ?_
      rintro e w2 ⟨rfl, hb2⟩
      rw [E2.out]
      have hB := (T1.out.step hb2).1
      clear c0 c1 c2 c3 c4 c5 hb2 bz
      go_wp2
      go_ret
      exact ⟨rfl, hB⟩
  · rw [Bool.not_eq_true] at hs1
    have E1 := Lib.hid hs1
    clear hs1
    go_enter Tryd.func4, Tryd.ntmps4
    go_wp2_with fail
    refine (short_calls _ _ _ _ H1.out H2.out).mono ?_
    rintro e w1 ⟨rfl, hb1⟩
    rw [E1.out]
    have hB := (HS.out.step hb1).1
    clear hb1
    go_wp2
    go_ret
    exact ⟨rfl, hB⟩
end Go.Proofs.YtnfnebfioibndaaDoor
