/- stevedoreref.Compare; version.Is and stevedoreref.Is; short; the law's sign. -/
import Derived.Test.YtnfnebfioibndaaGreatDoorVerC
namespace Go.Proofs.YtnfnebfioibndaaGreatDoor
open Go.RowKit
set_option maxRecDepth 100000

set_option maxHeartbeats 4000000 in
theorem refCompare_calls (ea eb : Int) (ua ra ub rb : ByteArray) (w : World) (h1 : ua.size ≤ 1000) (h2 : ra.size ≤ 1000) (h3 : ub.size ≤ 1000) (h4 : rb.size ≤ 1000) :
    Calls Tryz.prog 103 #[.agg #[.int .i64 ea, .string ua, .string ra], .agg #[.int .i64 eb, .string ub, .string rb]] w fun e w' =>
      e = .returned (.int .i64 (cmpVer ea ua.data.toList ra.data.toList eb ub.data.toList rb.data.toList)) ∧ Below w.heap.size w w' := by
  obtain ⟨V, hV⟩ : ∃ V, cmpVer ea ua.data.toList ra.data.toList eb ub.data.toList rb.data.toList = V := ⟨_, rfl⟩
  rw [hV]
  unfold cmpVer Lib.compareInt at hV
  by_cases he : ea = eb
  · subst he
    rw [if_neg (by simp)] at hV
    have te : (ea != ea) = false := by simp
    obtain ⟨n, hn⟩ : ∃ n, cmpV ua.data.toList ub.data.toList = n := ⟨_, rfl⟩
    rw [hn] at hV
    have Hn := Lib.hid hn
    clear hn
    have hV0 := VerS.start w ea ua ra ea ub rb 24
    have HS := Lib.hid hV0
    clear hV0
    by_cases h0 : n = 0
    · rw [if_neg (by simpa using h0)] at hV
      have t0 : (n != 0) = false := by simp [h0]
      have HV := Lib.hid hV
      clear hV h0
      go_enter Tryz.func103, Tryz.ntmps103
      go_wp2_with fail
      refine (half_calls ua ub _ h1 h3).mono ?_
      rintro e w1 ⟨rfl, hb1⟩
      rw [Hn.out]
      have hS1 := Lib.hid (HS.out.step (w' := w1.drew) ⟨hb1.os, hb1.tape, hb1.output, hb1.size, hb1.block⟩)
      have c2 : w1.cell? ⟨w.heap.size, 2, none⟩ = some (.string ra) := hS1.out.2.2.2.2.1
      have c5 : w1.cell? ⟨w.heap.size + 1, 2, none⟩ = some (.string rb) := hS1.out.2.2.2.2.2.2.2
      have hB1 : Below w.heap.size w w1 := by have := hS1.out.1; exact ⟨this.os, this.tape, this.output, this.size, this.block⟩
      clear hb1
      go_wp2_with fail
      refine (half_calls ra rb _ h2 h4).mono ?_
      rintro e w2 ⟨rfl, hb2⟩
      go_wp2_with fail
      go_ret
      exact ⟨ret_int HV.out, hB1.trans (hb2.mono hB1.size)⟩
    · rw [if_pos h0] at hV
      have t0 : (n != 0) = true := by simp [h0]
      have HV := Lib.hid hV
      clear hV h0
      go_enter Tryz.func103, Tryz.ntmps103
      go_wp2_with fail
      refine (half_calls ua ub _ h1 h3).mono ?_
      rintro e w1 ⟨rfl, hb1⟩
      rw [Hn.out]
      have hS1 := Lib.hid (HS.out.step (w' := w1.drew) ⟨hb1.os, hb1.tape, hb1.output, hb1.size, hb1.block⟩)
      have hB1 : Below w.heap.size w w1 := by have := hS1.out.1; exact ⟨this.os, this.tape, this.output, this.size, this.block⟩
      clear hb1
      go_wp2_with fail
      go_ret
      exact ⟨ret_int HV.out, hB1⟩
  · have te : (ea != eb) = true := by simp [he]
    by_cases hl : ea < eb
    · rw [if_pos (by rw [if_pos hl]; decide), if_pos hl] at hV
      subst hV
      clear he
      go_enter Tryz.func103, Tryz.ntmps103
      go_wp2_with fail
      go_ret
      exact ⟨rfl, by go_grown⟩
    · have hg : eb < ea := by omega
      rw [if_pos (by rw [if_neg hl, if_pos hg]; decide), if_neg hl, if_pos hg] at hV
      subst hV
      clear he hg
      go_enter Tryz.func103, Tryz.ntmps103
      go_wp2_with fail
      go_ret
      exact ⟨rfl, by go_grown⟩

theorem below_boxes (w : World) {w1 : World} (a b : Array Value) (s t : TypeId) (h : Below ((w.alloc (.cells a s)).alloc (.cells b t)).heap.size ((w.alloc (.cells a s)).alloc (.cells b t)) w1) : Below w.heap.size w w1 :=
  (show Below w.heap.size w ((w.alloc (.cells a s)).alloc (.cells b t)) by go_grown).trans (h.mono (by simp; omega))

theorem isOp_0 (n : Int) : isOp n 0 = true := rfl
theorem isOp_1 (n : Int) : isOp n 1 = decide (n < 0) := rfl
theorem isOp_2 (n : Int) : isOp n 2 = decide (n ≤ 0) := rfl
theorem isOp_3 (n : Int) : isOp n 3 = (n == 0) := rfl
theorem isOp_4 (n : Int) : isOp n 4 = decide (0 ≤ n) := rfl
theorem isOp_5 (n : Int) : isOp n 5 = decide (0 < n) := rfl
theorem isOp_no (n op : Int) (h0 : op ≠ 0) (h1 : op ≠ 1) (h2 : op ≠ 2) (h3 : op ≠ 3) (h4 : op ≠ 4) (h5 : op ≠ 5) : isOp n op = false := by
  unfold isOp
  rw [if_neg h0, if_neg h1, if_neg h2, if_neg h3, if_neg h4, if_neg h5]

set_option maxHeartbeats 4000000 in
theorem verIs_calls (ea eb op : Int) (ua ra ub rb : ByteArray) (w : World) (h1 : ua.size ≤ 1000) (h2 : ra.size ≤ 1000) (h3 : ub.size ≤ 1000) (h4 : rb.size ≤ 1000) :
    Calls Tryz.prog 68 #[.agg #[.int .i64 ea, .string ua, .string ra], .int .i64 op, .agg #[.int .i64 eb, .string ub, .string rb]] w fun e w' =>
      e = .returned (.bool (isOp (cmpVer ea ua.data.toList ra.data.toList eb ub.data.toList rb.data.toList) op)) ∧ Below w.heap.size w w' := by
  obtain ⟨n, hn⟩ : ∃ n, cmpVer ea ua.data.toList ra.data.toList eb ub.data.toList rb.data.toList = n := ⟨_, rfl⟩
  rw [hn]
  have Hn := Lib.hid hn
  clear hn
  have hfin : ∀ w1, Below ((w.alloc (.cells #[.int .i64 ea, .string ua, .string ra] 24)).alloc (.cells #[.int .i64 eb, .string ub, .string rb] 24)).heap.size ((w.alloc (.cells #[.int .i64 ea, .string ua, .string ra] 24)).alloc (.cells #[.int .i64 eb, .string ub, .string rb] 24)) w1 → Below w.heap.size w w1 := fun w1 h => below_boxes w _ _ _ _ h
  have HF := Lib.hid hfin
  clear hfin
  by_cases o0 : op = 0
  · subst o0
    rw [isOp_0]
    go_enter Tryz.func68, Tryz.ntmps68
    go_wp2_with fail
    refine (verCompare_calls ea eb ua ra ub rb _ h1 h2 h3 h4).mono ?_
    rintro e w1 ⟨rfl, hb1⟩
    rw [Hn.out]
    have hB := HF.out w1 hb1
    clear hb1
    go_wp2_with fail
    all_goals go_ret
    all_goals exact ⟨ret_bool (by first | rfl | (simp <;> omega)), hB⟩
  by_cases o1 : op = 1
  · subst o1
    rw [isOp_1]
    go_enter Tryz.func68, Tryz.ntmps68
    go_wp2_with fail
    refine (verCompare_calls ea eb ua ra ub rb _ h1 h2 h3 h4).mono ?_
    rintro e w1 ⟨rfl, hb1⟩
    rw [Hn.out]
    have hB := HF.out w1 hb1
    clear hb1
    go_wp2_with fail
    all_goals go_ret
    all_goals exact ⟨ret_bool (by first | rfl | (simp <;> omega)), hB⟩
  by_cases o2 : op = 2
  · subst o2
    rw [isOp_2]
    go_enter Tryz.func68, Tryz.ntmps68
    go_wp2_with fail
    refine (verCompare_calls ea eb ua ra ub rb _ h1 h2 h3 h4).mono ?_
    rintro e w1 ⟨rfl, hb1⟩
    rw [Hn.out]
    have hB := HF.out w1 hb1
    clear hb1
    go_wp2_with fail
    all_goals go_ret
    all_goals exact ⟨ret_bool (by first | rfl | (simp <;> omega)), hB⟩
  by_cases o3 : op = 3
  · subst o3
    rw [isOp_3]
    go_enter Tryz.func68, Tryz.ntmps68
    go_wp2_with fail
    refine (verCompare_calls ea eb ua ra ub rb _ h1 h2 h3 h4).mono ?_
    rintro e w1 ⟨rfl, hb1⟩
    rw [Hn.out]
    have hB := HF.out w1 hb1
    clear hb1
    go_wp2_with fail
    all_goals go_ret
    all_goals exact ⟨ret_bool (by first | rfl | (simp <;> omega)), hB⟩
  by_cases o4 : op = 4
  · subst o4
    rw [isOp_4]
    go_enter Tryz.func68, Tryz.ntmps68
    go_wp2_with fail
    refine (verCompare_calls ea eb ua ra ub rb _ h1 h2 h3 h4).mono ?_
    rintro e w1 ⟨rfl, hb1⟩
    rw [Hn.out]
    have hB := HF.out w1 hb1
    clear hb1
    go_wp2_with fail
    all_goals go_ret
    all_goals exact ⟨ret_bool (by first | rfl | (simp <;> omega)), hB⟩
  by_cases o5 : op = 5
  · subst o5
    rw [isOp_5]
    go_enter Tryz.func68, Tryz.ntmps68
    go_wp2_with fail
    refine (verCompare_calls ea eb ua ra ub rb _ h1 h2 h3 h4).mono ?_
    rintro e w1 ⟨rfl, hb1⟩
    rw [Hn.out]
    have hB := HF.out w1 hb1
    clear hb1
    go_wp2_with fail
    all_goals go_ret
    all_goals exact ⟨ret_bool (by first | rfl | (simp <;> omega)), hB⟩
  rw [isOp_no n op o0 o1 o2 o3 o4 o5]
  have t0 : (op == 0) = false := by simp [o0]
  have t1 : (op == 1) = false := by simp [o1]
  have t2 : (op == 2) = false := by simp [o2]
  have t3 : (op == 3) = false := by simp [o3]
  have t4 : (op == 4) = false := by simp [o4]
  have t5 : (op == 5) = false := by simp [o5]
  clear o0 o1 o2 o3 o4 o5
  go_enter Tryz.func68, Tryz.ntmps68
  go_wp2_with fail
  refine (verCompare_calls ea eb ua ra ub rb _ h1 h2 h3 h4).mono ?_
  rintro e w1 ⟨rfl, hb1⟩
  rw [Hn.out]
  have hB := HF.out w1 hb1
  clear hb1
  go_wp2_with fail
  all_goals go_ret
  all_goals exact ⟨ret_bool (by first | rfl | (simp <;> omega)), hB⟩

set_option maxHeartbeats 4000000 in
theorem refIs_calls (ea eb op : Int) (ua ra ub rb : ByteArray) (w : World) (h1 : ua.size ≤ 1000) (h2 : ra.size ≤ 1000) (h3 : ub.size ≤ 1000) (h4 : rb.size ≤ 1000) :
    Calls Tryz.prog 82 #[.agg #[.int .i64 ea, .string ua, .string ra], .int .i64 op, .agg #[.int .i64 eb, .string ub, .string rb]] w fun e w' =>
      e = .returned (.bool (isOp (cmpVer ea ua.data.toList ra.data.toList eb ub.data.toList rb.data.toList) op)) ∧ Below w.heap.size w w' := by
  obtain ⟨n, hn⟩ : ∃ n, cmpVer ea ua.data.toList ra.data.toList eb ub.data.toList rb.data.toList = n := ⟨_, rfl⟩
  rw [hn]
  have Hn := Lib.hid hn
  clear hn
  have hfin : ∀ w1, Below ((w.alloc (.cells #[.int .i64 ea, .string ua, .string ra] 24)).alloc (.cells #[.int .i64 eb, .string ub, .string rb] 24)).heap.size ((w.alloc (.cells #[.int .i64 ea, .string ua, .string ra] 24)).alloc (.cells #[.int .i64 eb, .string ub, .string rb] 24)) w1 → Below w.heap.size w w1 := fun w1 h => below_boxes w _ _ _ _ h
  have HF := Lib.hid hfin
  clear hfin
  by_cases o0 : op = 0
  · subst o0
    rw [isOp_0]
    go_enter Tryz.func82, Tryz.ntmps82
    go_wp2_with fail
    refine (refCompare_calls ea eb ua ra ub rb _ h1 h2 h3 h4).mono ?_
    rintro e w1 ⟨rfl, hb1⟩
    rw [Hn.out]
    have hB := HF.out w1 hb1
    clear hb1
    go_wp2_with fail
    all_goals go_ret
    all_goals exact ⟨ret_bool (by first | rfl | (simp <;> omega)), hB⟩
  by_cases o1 : op = 1
  · subst o1
    rw [isOp_1]
    go_enter Tryz.func82, Tryz.ntmps82
    go_wp2_with fail
    refine (refCompare_calls ea eb ua ra ub rb _ h1 h2 h3 h4).mono ?_
    rintro e w1 ⟨rfl, hb1⟩
    rw [Hn.out]
    have hB := HF.out w1 hb1
    clear hb1
    go_wp2_with fail
    all_goals go_ret
    all_goals exact ⟨ret_bool (by first | rfl | (simp <;> omega)), hB⟩
  by_cases o2 : op = 2
  · subst o2
    rw [isOp_2]
    go_enter Tryz.func82, Tryz.ntmps82
    go_wp2_with fail
    refine (refCompare_calls ea eb ua ra ub rb _ h1 h2 h3 h4).mono ?_
    rintro e w1 ⟨rfl, hb1⟩
    rw [Hn.out]
    have hB := HF.out w1 hb1
    clear hb1
    go_wp2_with fail
    all_goals go_ret
    all_goals exact ⟨ret_bool (by first | rfl | (simp <;> omega)), hB⟩
  by_cases o3 : op = 3
  · subst o3
    rw [isOp_3]
    go_enter Tryz.func82, Tryz.ntmps82
    go_wp2_with fail
    refine (refCompare_calls ea eb ua ra ub rb _ h1 h2 h3 h4).mono ?_
    rintro e w1 ⟨rfl, hb1⟩
    rw [Hn.out]
    have hB := HF.out w1 hb1
    clear hb1
    go_wp2_with fail
    all_goals go_ret
    all_goals exact ⟨ret_bool (by first | rfl | (simp <;> omega)), hB⟩
  by_cases o4 : op = 4
  · subst o4
    rw [isOp_4]
    go_enter Tryz.func82, Tryz.ntmps82
    go_wp2_with fail
    refine (refCompare_calls ea eb ua ra ub rb _ h1 h2 h3 h4).mono ?_
    rintro e w1 ⟨rfl, hb1⟩
    rw [Hn.out]
    have hB := HF.out w1 hb1
    clear hb1
    go_wp2_with fail
    all_goals go_ret
    all_goals exact ⟨ret_bool (by first | rfl | (simp <;> omega)), hB⟩
  by_cases o5 : op = 5
  · subst o5
    rw [isOp_5]
    go_enter Tryz.func82, Tryz.ntmps82
    go_wp2_with fail
    refine (refCompare_calls ea eb ua ra ub rb _ h1 h2 h3 h4).mono ?_
    rintro e w1 ⟨rfl, hb1⟩
    rw [Hn.out]
    have hB := HF.out w1 hb1
    clear hb1
    go_wp2_with fail
    all_goals go_ret
    all_goals exact ⟨ret_bool (by first | rfl | (simp <;> omega)), hB⟩
  rw [isOp_no n op o0 o1 o2 o3 o4 o5]
  have t0 : (op == 0) = false := by simp [o0]
  have t1 : (op == 1) = false := by simp [o1]
  have t2 : (op == 2) = false := by simp [o2]
  have t3 : (op == 3) = false := by simp [o3]
  have t4 : (op == 4) = false := by simp [o4]
  have t5 : (op == 5) = false := by simp [o5]
  clear o0 o1 o2 o3 o4 o5
  go_enter Tryz.func82, Tryz.ntmps82
  go_wp2_with fail
  refine (refCompare_calls ea eb ua ra ub rb _ h1 h2 h3 h4).mono ?_
  rintro e w1 ⟨rfl, hb1⟩
  rw [Hn.out]
  have hB := HF.out w1 hb1
  clear hb1
  go_wp2_with fail
  all_goals go_ret
  all_goals exact ⟨ret_bool (by first | rfl | (simp <;> omega)), hB⟩

theorem short_calls (e : Int) (u r : ByteArray) (w : World) (hu : u.size ≤ 9223372036854775807) (hr : r.size ≤ 9223372036854775807) :
    Calls Tryz.prog 17 #[.agg #[.int .i64 e, .string u, .string r]] w fun ev w' => ev = .returned (.bool (decide (u.size ≤ 100) && decide (r.size ≤ 100))) ∧ Below w.heap.size w w' := by
  by_cases h : u.size ≤ 100
  · have t : decide ((u.size : Int) ≤ 100) = true := decide_eq_true (by omega)
    go_enter Tryz.func17, Tryz.ntmps17
    go_wp2
    all_goals go_ret
    all_goals exact ⟨ret_bool (by simp [h] <;> omega), by go_grown⟩
  · have t : decide ((u.size : Int) ≤ 100) = false := decide_eq_false (by omega)
    go_enter Tryz.func17, Tryz.ntmps17
    go_wp2
    all_goals go_ret
    all_goals exact ⟨ret_bool (by simp [h] <;> omega), by go_grown⟩

end Go.Proofs.YtnfnebfioibndaaGreatDoor
