/- version.part: two parts, by turns. · version.Compare and Is, stevedoreref.Compare and Is. · stevedoreref.Compare; version.Is and stevedoreref.Is; short; the law's sign. -/
import Derived.Test.YtnfnebfioibndaaGreatDoorM04
import Derived.Deep.RegionHeld3
import Derived.Deep.RegionWith
namespace Go.Proofs.YtnfnebfioibndaaGreatDoor
open Go.RowKit
set_option maxRecDepth 100000

theorem weight_at (s : ByteArray) (r : Int) (h : wt s.data.toList = r) (w : World) :
    Calls Tryz.prog 119 #[.string s] w fun e w' => e = .returned (.int .i64 r) ∧ w = w' := by
  subst h
  exact weight_calls s w

theorem Pair.diffW {V : Int} {a b : ByteArray} (h : Pair V a b) {ra rb : Int} (ha : wt a.data.toList = ra) (hb : wt b.data.toList = rb) (hn : ra ≠ rb) : Lib.compareInt ra rb = V := by
  subst ha hb
  rw [← h.val, cmpV_diff hn]

theorem Pair.skipW {V : Int} {a b : ByteArray} (h : Pair V a b) {ra : Int} (ha : wt a.data.toList = ra) (hb : wt b.data.toList = ra) (hn : ra ≠ 0) :
    0 < a.size ∧ 0 < b.size ∧ Pair V (a.extract 1 a.size) (b.extract 1 b.size) ∧ (a.extract 1 a.size).size + 1 = a.size ∧ (b.extract 1 b.size).size + 1 = b.size := by
  have h1 := rk_of a.data.toList
  have h2 := rk_of b.data.toList
  refine h.skip (ra := rkOf ra) (by rw [h1.1, ha]) (by rw [h2.1, hb]) ?_
  intro e
  have := (rkOf_lt (x := ra) (y := ra) (by rw [← ha]; exact h1.2.1) (by rw [← ha]; exact h1.2.1)).2.1.1 e
  exact hn this

theorem Pair.next {V : Int} {a b a3 b3 x y : ByteArray} (h : Pair V a b) (hz : wt a.data.toList = 0 ∧ wt b.data.toList = 0) (hx : x.data.toList = strip0 (a.data.toList.takeWhile dig) ∧ a3.data.toList = a.data.toList.dropWhile dig)
    (hy : y.data.toList = strip0 (b.data.toList.takeWhile dig) ∧ b3.data.toList = b.data.toList.dropWhile dig) (hl : x.size = y.size) (hc : Lib.compareBytes x.data.toList y.data.toList = 0) :
    Pair V a3 b3 ∧ a3.size + b3.size ≤ a.size + b.size ∧ (a.size + b.size ≠ 0 → a3.size + b3.size < a.size + b.size) := by
  have hq := (h.num hz hx hy).2.2.1 hl hc
  have l1 := dropWhile_le dig a.data.toList
  have l2 := dropWhile_le dig b.data.toList
  have s1 := Lib.size_eq a
  have s2 := Lib.size_eq b
  have s3 := Lib.size_eq a3
  have s4 := Lib.size_eq b3
  rw [hx.2] at s3
  rw [hy.2] at s4
  refine ⟨⟨?_, by have := h.la; omega, by have := h.lb; omega⟩, by omega, fun hne => (hq hne).2⟩
  rw [Lib.size_eq x, Lib.size_eq y, hx.1, hy.1] at hl
  rw [hx.1, hy.1] at hc
  rw [hx.2, hy.2, ← h.val, ← cmpV_next hz.1 hz.2 hl hc]

set_option maxHeartbeats 4000000 in
theorem part_calls (a b : ByteArray) (w : World) (ha : a.size ≤ 1000) (hb : b.size ≤ 1000) :
    Calls Tryz.prog 112 #[.string a, .string b] w fun e w' => e = .returned (.int .i64 (cmpV a.data.toList b.data.toList)) ∧ Below w.heap.size w w' := by
  obtain ⟨V, hV⟩ : ∃ V, cmpV a.data.toList b.data.toList = V := ⟨_, rfl⟩
  rw [hV]
  have hP : Pair V a b := ⟨hV, ha, hb⟩
  clear hV ha hb
  go_enter Tryz.func112, Tryz.ntmps112
  go_wp2_with fail
  go_loopg [0, 1] (a.size + b.size) (fun k v0 v1 wr => ∃ a' b', v0 = .string a' ∧ v1 = .string b' ∧ Pair V a' b' ∧ k = a'.size + b'.size ∧ Below w.heap.size w wr)
  case atStart => exact ⟨a, b, rfl, rfl, hP, rfl, Below.refl _ _⟩
  case round =>
    clear hP
    obtain ⟨a1, b1, rfl, rfl, hP, hk, hB⟩ := hrel
    have Hk := Lib.hid hk
    clear hk
    obtain ⟨wo, rfl⟩ : ∃ wo : World, wo = wr := ⟨_, rfl⟩
    have HP1 := Lib.hid hP
    clear hP
    by_cases hz : a1.size = 0 ∧ b1.size = 0
    · have z1 := (str_nil a1 hz.1).2
      have z2 := (str_nil b1 hz.2).2
      have hV : cmpV a1.data.toList b1.data.toList = 0 := by rw [(str_nil a1 hz.1).1, (str_nil b1 hz.2).1, cmpV_nil]
      have HV := Lib.hid (hV.symm.trans HP1.out.val)
      clear hz hV
      go_wp2_with fail
      go_ret
      exact ⟨ret_int HV.out, hB⟩
    · have z : (a1.toList.isEmpty = true ∧ b1.toList.isEmpty = false) ∨ a1.toList.isEmpty = false := by
        rcases Nat.eq_zero_or_pos a1.size with k | k
        · have k2 : 0 < b1.size := by omega
          obtain ⟨_, _, -, -, e, -⟩ := str_cons b1 k2
          exact Or.inl ⟨(str_nil a1 k).2, e⟩
        · obtain ⟨_, _, -, -, e, -⟩ := str_cons a1 k
          exact Or.inr e
      have HL : Hid (a1.size + b1.size ≠ 0) := by show a1.size + b1.size ≠ 0; omega
      clear hz
      rcases z with ⟨z1, z2⟩ | z1
      all_goals
        go_upto_block 2 with (fail)
        go_cut [0, 1] (fun v0 v1 wx => ∃ a2 b2, v0 = .string a2 ∧ v1 = .string b2 ∧ Pair V a2 b2 ∧ (wt a2.data.toList = 0 ∧ wt b2.data.toList = 0) ∧ a2.size + b2.size ≤ a1.size + b1.size ∧ Below w.heap.size w wx)
        case first =>
          go_wp2_with fail
          go_loopg [0, 1] (a1.size + b1.size) (fun k v0 v1 wr => ∃ a' b', v0 = .string a' ∧ v1 = .string b' ∧ Pair V a' b' ∧ k = a'.size + b'.size ∧ k ≤ a1.size + b1.size ∧ Below w.heap.size w wr)
          case atStart => exact ⟨a1, b1, rfl, rfl, HP1.out, rfl, Nat.le_refl _, hB⟩
          case round =>
            clear hB
            obtain ⟨a2, b2, rfl, rfl, hP, hk2, hle, hB⟩ := hrel
            obtain ⟨ra, hra⟩ : ∃ r, wt a2.data.toList = r := ⟨_, rfl⟩
            obtain ⟨rb, hrb⟩ : ∃ r, wt b2.data.toList = r := ⟨_, rfl⟩
            have Hra := Lib.hid hra
            have Hrb := Lib.hid hrb
            have HP := Lib.hid hP
            have Hk2 := Lib.hid hk2
            clear hra hrb hP hk2
            by_cases h12 : ra = 0 ∧ rb = 0
            · have t1 : (ra != 0) = false := by simp [h12.1]
              have t2 : (rb != 0) = false := by simp [h12.2]
              have HZ := Lib.hid (And.intro (Hra.out.trans h12.1) (Hrb.out.trans h12.2))
              clear h12
              go_wp2_with fail
              refine (weight_at _ _ Hra.out _).mono ?_
              rintro e w' ⟨rfl, rfl⟩
              go_wp2_with fail
              refine (weight_at _ _ Hrb.out _).mono ?_
              rintro e w' ⟨rfl, rfl⟩
              go_wp2_with fail
              go_meet
              exact ⟨a2, b2, rfl, rfl, HP.out, HZ.out, by have := Hk2.out; omega, hB⟩
            · by_cases hab : ra = rb
              · subst hab
                have hn : ra ≠ 0 := fun e => h12 ⟨e, e⟩
                have t1 : (ra != 0) = true := by simp [hn]
                have t2 : (Lib.compareInt ra ra != 0) = false := by rw [(compareInt_zero ra ra).2 rfl]; rfl
                obtain ⟨p1, p2, hS, l1, l2⟩ := HP.out.skipW Hra.out Hrb.out hn
                have HS := Lib.hid hS
                have L1 := Lib.hid l1
                have L2 := Lib.hid l2
                have q1 : (1 : Int) ≤ (a2.size : Int) := by omega
                have q2 : (1 : Int) ≤ (b2.size : Int) := by omega
                clear hS h12 hn l1 l2
                go_wp2_with fail
                refine (weight_at _ _ Hra.out _).mono ?_
                rintro e w' ⟨rfl, rfl⟩
                go_wp2_with fail
                refine (weight_at _ _ Hra.out _).mono ?_
                rintro e w' ⟨rfl, rfl⟩
                go_wp2_with fail
                refine (weight_at _ _ Hrb.out _).mono ?_
                rintro e w' ⟨rfl, rfl⟩
                go_wp2_with fail
                refine (Tryz.cmp_Compare_int _ _ _).mono ?_
                rintro e w' ⟨rfl, rfl⟩
                go_wp2_with fail
                go_quiet (fail)
                go_wp2_with fail
                go_roundg ((a2.extract 1 a2.size).size + (b2.extract 1 b2.size).size)
                case rel => exact ⟨_, _, rfl, rfl, HS.out, rfl, by have := L1.out; have := L2.out; have := Hk2.out; omega, below_drewN hB _⟩
                case measure => have := L1.out; have := L2.out; have := Hk2.out; omega
              · have HV := Lib.hid (HP.out.diffW Hra.out Hrb.out hab)
                have t3 : (Lib.compareInt ra rb != 0) = true := by rw [bne_iff_ne]; exact fun e => hab ((compareInt_zero ra rb).1 e)
                clear hab
                by_cases h1 : ra = 0
                · have t2 : (ra != 0) = false := by simp [h1]
                  have t4 : (rb != 0) = true := by simp; exact fun e => h12 ⟨h1, e⟩
                  clear h1 h12
                  go_wp2_with fail
                  refine (weight_at _ _ Hra.out _).mono ?_
                  rintro e w' ⟨rfl, rfl⟩
                  go_wp2_with fail
                  refine (weight_at _ _ Hrb.out _).mono ?_
                  rintro e w' ⟨rfl, rfl⟩
                  go_wp2_with fail
                  refine (weight_at _ _ Hra.out _).mono ?_
                  rintro e w' ⟨rfl, rfl⟩
                  go_wp2_with fail
                  refine (weight_at _ _ Hrb.out _).mono ?_
                  rintro e w' ⟨rfl, rfl⟩
                  go_wp2_with fail
                  refine (Tryz.cmp_Compare_int _ _ _).mono ?_
                  rintro e w' ⟨rfl, rfl⟩
                  go_wp2_with fail
                  go_ret
                  exact ⟨ret_int HV.out, hB⟩
                · have t2 : (ra != 0) = true := by simp [h1]
                  clear h1 h12
                  go_wp2_with fail
                  refine (weight_at _ _ Hra.out _).mono ?_
                  rintro e w' ⟨rfl, rfl⟩
                  go_wp2_with fail
                  refine (weight_at _ _ Hra.out _).mono ?_
                  rintro e w' ⟨rfl, rfl⟩
                  go_wp2_with fail
                  refine (weight_at _ _ Hrb.out _).mono ?_
                  rintro e w' ⟨rfl, rfl⟩
                  go_wp2_with fail
                  refine (Tryz.cmp_Compare_int _ _ _).mono ?_
                  rintro e w' ⟨rfl, rfl⟩
                  go_wp2_with fail
                  go_ret
                  exact ⟨ret_int HV.out, hB⟩
        case rest =>
          clear hB
          obtain ⟨a2, b2, rfl, rfl, hP, hZ, hle, hB⟩ := hcut
          have HP := Lib.hid hP
          have HZ := Lib.hid hZ
          clear hP hZ
          obtain ⟨w2, rfl⟩ : ∃ w2 : World, w2 = wc := ⟨_, rfl⟩
          have la2 : a2.size ≤ 1000 := HP.out.la
          have lb2 : b2.size ≤ 1000 := HP.out.lb
          go_wp2_with fail
          refine (trimDigits _ _).mono ?_
          rintro e w3 ⟨r1, rfl, hr1, hb3⟩
          have hl1 : r1.size ≤ a2.size := by rw [Lib.size_eq r1, Lib.size_eq a2, hr1]; exact dropWhile_le _ _
          have HR1 := Lib.hid hr1
          clear hr1
          go_wp2_with fail
          obtain ⟨x0, hx0⟩ : ∃ x0, a2.extract 0 (a2.size - r1.size) = x0 := ⟨_, rfl⟩
          rw [hx0]
          have HX0 : Hid (x0.data.toList = a2.data.toList.takeWhile dig) := by
            show x0.data.toList = _
            rw [← hx0, Lib.extract_data, List.drop_zero, Lib.size_eq r1, Lib.size_eq a2, HR1.out, Nat.sub_zero]
            exact (digits_head _).1
          have lx0 : x0.size ≤ a2.size := by
            have := (digits_head a2.data.toList).1
            have := congrArg List.length this
            rw [List.length_take] at this
            rw [Lib.size_eq x0, Lib.size_eq a2, HX0.out]
            omega
          clear hx0 hl1
          refine (trimDigits _ _).mono ?_
          rintro e w4 ⟨r2, rfl, hr2, hb4⟩
          have hl2 : r2.size ≤ b2.size := by rw [Lib.size_eq r2, Lib.size_eq b2, hr2]; exact dropWhile_le _ _
          have HR2 := Lib.hid hr2
          clear hr2
          go_upto_region 9 with (fail)
          obtain ⟨y0, hy0⟩ : ∃ y0, b2.extract 0 (b2.size - r2.size) = y0 := ⟨_, rfl⟩
          rw [hy0]
          have HY0 : Hid (y0.data.toList = b2.data.toList.takeWhile dig) := by
            show y0.data.toList = _
            rw [← hy0, Lib.extract_data, List.drop_zero, Lib.size_eq r2, Lib.size_eq b2, HR2.out, Nat.sub_zero]
            exact (digits_head _).1
          have ly0 : y0.size ≤ b2.size := by
            have := (digits_head b2.data.toList).1
            have := congrArg List.length this
            rw [List.length_take] at this
            rw [Lib.size_eq y0, Lib.size_eq b2, HY0.out]
            omega
          have HXS : Hid ((a2.extract x0.size a2.size).data.toList = a2.data.toList.dropWhile dig) := by
            show _ = _
            rw [Lib.extract_to_end, Lib.size_eq x0, HX0.out]
            exact (digits_head _).2
          have HYS : Hid ((b2.extract y0.size b2.size).data.toList = b2.data.toList.dropWhile dig) := by
            show _ = _
            rw [Lib.extract_to_end, Lib.size_eq y0, HY0.out]
            exact (digits_head _).2
          clear hy0 hl2 HR1 HR2
          have i1 : (x0.size : Int) ≤ (a2.size : Int) := by omega
          have i2 : (y0.size : Int) ≤ (b2.size : Int) := by omega
          go_quiet (fail)
          go_wp2_with fail
          refine (trimNoughts _ _).mono ?_
          rintro e w5 ⟨x, rfl, hx, hb5⟩
          have HX : Hid (x.data.toList = strip0 (a2.data.toList.takeWhile dig) ∧ (a2.extract x0.size a2.size).data.toList = a2.data.toList.dropWhile dig) := ⟨by rw [hx, HX0.out], HXS.out⟩
          have lx : x.size ≤ x0.size := by rw [Lib.size_eq x, Lib.size_eq x0, hx]; exact dropWhile_le _ _
          clear hx
          go_wp2_with fail
          refine (trimNoughts _ _).mono ?_
          rintro e w6 ⟨y, rfl, hy, hb6⟩
          have HY : Hid (y.data.toList = strip0 (b2.data.toList.takeWhile dig) ∧ (b2.extract y0.size b2.size).data.toList = b2.data.toList.dropWhile dig) := ⟨by rw [hy, HY0.out], HYS.out⟩
          have ly : y.size ≤ y0.size := by rw [Lib.size_eq y, Lib.size_eq y0, hy]; exact dropWhile_le _ _
          clear hy
          have hB6 : Below w.heap.size w w6 := (((hB.trans (hb3.mono hB.size)).trans (hb4.mono (Nat.le_trans hB.size hb3.size))) |> fun h => (below_drewN h _)).trans (hb5.mono (by first | exact Nat.le_trans (Nat.le_trans hB.size hb3.size) hb4.size | simp; exact Nat.le_trans (Nat.le_trans hB.size hb3.size) hb4.size)) |> fun h => h.trans (hb6.mono h.size)
          clear hB hb3 hb4 hb5 hb6
          have HN : Hid (x.size = y.size → Lib.compareBytes x.data.toList y.data.toList = 0 → _) := HP.out.next HZ.out HX.out HY.out
          have HQ := Lib.hid (HP.out.num HZ.out HX.out HY.out)
          go_wp2_with fail
          refine (Tryz.cmp_Compare_int _ _ _).mono ?_
          rintro e w7 ⟨rfl, rfl⟩
          go_wp2_with fail
          refine (Tryz.strings_Compare _ _ _).mono ?_
          rintro e w7 ⟨rfl, rfl⟩
          go_wp2_with fail
          refine (or2_calls (Lib.compareInt (x.size : Int) (y.size : Int)) (Lib.compareBytes x.data.toList y.data.toList) _ _ (by simp [go_sem]) (by simp [go_sem])).mono ?_
          rintro e w8 ⟨rfl, rfl⟩
          obtain ⟨n, hn⟩ : ∃ n, (if Lib.compareInt (x.size : Int) (y.size : Int) = 0 then Lib.compareBytes x.data.toList y.data.toList else Lib.compareInt (x.size : Int) (y.size : Int)) = n := ⟨_, rfl⟩
          rw [hn]
          by_cases hl : x.size = y.size
          · have e1 : Lib.compareInt (x.size : Int) (y.size : Int) = 0 := (compareInt_zero _ _).2 (by omega)
            rw [if_pos e1] at hn
            by_cases hc : Lib.compareBytes x.data.toList y.data.toList = 0
            · have HR := Lib.hid (HN.out hl hc)
              have tn : (n != 0) = false := by rw [← hn, hc]; rfl
              clear hn hl hc e1
              go_wp2_with fail
              go_roundg ((a2.extract x0.size a2.size).size + (b2.extract y0.size b2.size).size)
              case rel => exact ⟨_, _, rfl, rfl, HR.out.1, rfl, hB6.alloc hB6.size _⟩
              case measure =>
                have h1 := HR.out.2.1
                have h2 := HR.out.2.2
                have := HL.out
                have := Hk.out
                by_cases h0 : a2.size + b2.size = 0
                · omega
                · have := h2 h0
                  omega
            · have HV := Lib.hid (hn.symm.trans (HQ.out.2.1 hl hc))
              have tn : (n != 0) = true := by rw [bne_iff_ne, ← hn]; exact hc
              clear hn hl hc e1
              go_wp2_with fail
              go_ret
              exact ⟨ret_int HV.out, hB6.alloc hB6.size _⟩
          · have e1 : Lib.compareInt (x.size : Int) (y.size : Int) ≠ 0 := fun h => hl (by have := (compareInt_zero _ _).1 h; omega)
            rw [if_neg e1] at hn
            have HV := Lib.hid (hn.symm.trans (HQ.out.1 hl))
            have tn : (n != 0) = true := by rw [bne_iff_ne, ← hn]; exact e1
            clear hn hl e1
            go_wp2_with fail
            go_ret
            exact ⟨ret_int HV.out, hB6.alloc hB6.size _⟩
end Go.Proofs.YtnfnebfioibndaaGreatDoor
namespace Go.Proofs.YtnfnebfioibndaaGreatDoor
open Go.RowKit
set_option maxRecDepth 100000

/-- What a world keeps of two boxed versions. -/
abbrev VerS (w : World) (ea : Int) (ua ra : ByteArray) (eb : Int) (ub rb : ByteArray) (w' : World) : Prop :=
  Below w.heap.size w w' ∧ w.heap.size + 2 ≤ w'.heap.size ∧ w'.cell? ⟨w.heap.size, 0, none⟩ = some (.int .i64 ea) ∧ w'.cell? ⟨w.heap.size, 1, none⟩ = some (.string ua) ∧ w'.cell? ⟨w.heap.size, 2, none⟩ = some (.string ra) ∧
    w'.cell? ⟨w.heap.size + 1, 0, none⟩ = some (.int .i64 eb) ∧ w'.cell? ⟨w.heap.size + 1, 1, none⟩ = some (.string ub) ∧ w'.cell? ⟨w.heap.size + 1, 2, none⟩ = some (.string rb)

theorem VerS.start (w : World) (ea : Int) (ua ra : ByteArray) (eb : Int) (ub rb : ByteArray) (t : TypeId) :
    VerS w ea ua ra eb ub rb ((w.alloc (.cells #[.int .i64 ea, .string ua, .string ra] t)).alloc (.cells #[.int .i64 eb, .string ub, .string rb] t)).drew := by
  refine ⟨by go_grown, by simp, ?_⟩
  simp [go_sem]

theorem VerS.step {w : World} {ea : Int} {ua ra : ByteArray} {eb : Int} {ub rb : ByteArray} {w1 w' : World} (h : VerS w ea ua ra eb ub rb w1) (hb : Below w1.heap.size w1 w') : VerS w ea ua ra eb ub rb w' := by
  obtain ⟨h0, hz, c0, c1, c2, c3, c4, c5⟩ := h
  have hs := hb.size
  refine ⟨h0.trans (hb.mono h0.size), by omega, ?_, ?_, ?_, ?_, ?_, ?_⟩
  · exact (hb.cell (p := ⟨w.heap.size, 0, none⟩) (by simp; omega)).trans c0
  · exact (hb.cell (p := ⟨w.heap.size, 1, none⟩) (by simp; omega)).trans c1
  · exact (hb.cell (p := ⟨w.heap.size, 2, none⟩) (by simp; omega)).trans c2
  · exact (hb.cell (p := ⟨w.heap.size + 1, 0, none⟩) (by simp; omega)).trans c3
  · exact (hb.cell (p := ⟨w.heap.size + 1, 1, none⟩) (by simp; omega)).trans c4
  · exact (hb.cell (p := ⟨w.heap.size + 1, 2, none⟩) (by simp; omega)).trans c5

def or3V (x y z : Int) : Int := if x = 0 then (if y = 0 then z else y) else x
theorem or3V_calls (x y z : Int) (b : Nat) (w : World) (h0 : w.cell? ⟨b, 0, none⟩ = some (.int .i64 x)) (h1 : w.cell? ⟨b, 1, none⟩ = some (.int .i64 y)) (h2 : w.cell? ⟨b, 2, none⟩ = some (.int .i64 z)) :
    Calls Tryz.prog 110 #[.slice (some ⟨b, 0, none⟩) 3 3] w fun e w' => e = .returned (.int .i64 (or3V x y z)) ∧ w = w' := or3_calls x y z b w h0 h1 h2
theorem cmpVer_or (ea : Int) (ua ra : List UInt8) (eb : Int) (ub rb : List UInt8) : or3V (Lib.compareInt ea eb) (cmpV ua ub) (cmpV ra rb) = cmpVer ea ua ra eb ub rb := by
  unfold or3V cmpVer
  by_cases h : Lib.compareInt ea eb = 0 <;> by_cases h2 : cmpV ua ub = 0 <;> simp [h, h2]

set_option maxHeartbeats 4000000 in
theorem verCompare_calls (ea eb : Int) (ua ra ub rb : ByteArray) (w : World) (h1 : ua.size ≤ 1000) (h2 : ra.size ≤ 1000) (h3 : ub.size ≤ 1000) (h4 : rb.size ≤ 1000) :
    Calls Tryz.prog 94 #[.agg #[.int .i64 ea, .string ua, .string ra], .agg #[.int .i64 eb, .string ub, .string rb]] w fun e w' =>
      e = .returned (.int .i64 (cmpVer ea ua.data.toList ra.data.toList eb ub.data.toList rb.data.toList)) ∧ Below w.heap.size w w' := by
  have hV0 := VerS.start w ea ua ra eb ub rb 24
  go_enter Tryz.func94, Tryz.ntmps94
  go_wp2_with fail
  go_region_held3 (fun w' => Below w.heap.size w w' ∧ w.heap.size + 2 ≤ w'.heap.size ∧ w'.cell? ⟨w.heap.size, 0, none⟩ = some (.int .i64 ea) ∧ w'.cell? ⟨w.heap.size, 1, none⟩ = some (.string ua) ∧ w'.cell? ⟨w.heap.size, 2, none⟩ = some (.string ra) ∧ w'.cell? ⟨w.heap.size + 1, 0, none⟩ = some (.int .i64 eb) ∧ w'.cell? ⟨w.heap.size + 1, 1, none⟩ = some (.string ub) ∧ w'.cell? ⟨w.heap.size + 1, 2, none⟩ = some (.string rb)) (first | exact hV0 | assumption | (refine VerS.step ?_ hb; assumption) | (refine VerS.step ?_ (Below.alloc (Below.refl _ _) (Nat.le_refl _) _); assumption))
      (first
        | (go_at_call 111; refine (Tryz.cmp_Compare_int _ _ _).mono ?_; rintro e w' ⟨rfl, rfl⟩)
        | (go_at_call_of 112 (Value.string ua); refine (part_calls ua ub _ h1 h3).mono ?_; rintro e w' ⟨rfl, hb⟩)
        | (go_at_call_of 112 (Value.string ra); refine (part_calls ra rb _ h2 h4).mono ?_; rintro e w' ⟨rfl, hb⟩)
        | (go_at_call 110; refine (or3V_calls (Lib.compareInt ea eb) (cmpV ua.data.toList ub.data.toList) (cmpV ra.data.toList rb.data.toList) _ _ (by simp [go_sem]) (by simp [go_sem]) (by simp [go_sem])).mono ?_; rintro e w' ⟨rfl, rfl⟩))
  all_goals go_wp2
  all_goals go_ret
  all_goals refine ⟨ret_int (cmpVer_or _ _ _ _ _ _), ?_⟩
  all_goals first | assumption | exact And.left (by assumption : VerS w ea ua ra eb ub rb _)
end Go.Proofs.YtnfnebfioibndaaGreatDoor
namespace Go.Proofs.YtnfnebfioibndaaGreatDoor
open Go.RowKit
set_option maxRecDepth 100000

set_option maxHeartbeats 4000000 in
theorem refCompare_calls (ea eb : Int) (ua ra ub rb : ByteArray) (w : World) (h1 : ua.size ≤ 1000) (h2 : ra.size ≤ 1000) (h3 : ub.size ≤ 1000) (h4 : rb.size ≤ 1000) :
    Calls Tryz.prog 103 #[.agg #[.int .i64 ea, .string ua, .string ra], .agg #[.int .i64 eb, .string ub, .string rb]] w fun e w' =>
      e = .returned (.int .i64 (cmpVer ea ua.data.toList ra.data.toList eb ub.data.toList rb.data.toList)) ∧ Below w.heap.size w w' := by
  obtain ⟨V, hV⟩ : ∃ V, cmpVer ea ua.data.toList ra.data.toList eb ub.data.toList rb.data.toList = V := ⟨_, rfl⟩
  rw [hV]
  unfold cmpVer Lib.compareInt at hV
  by_cases he : ea = eb
  · subst he
    rw [if_neg (by simp)] at hV
    have te : (ea != ea) = false := by simp
    obtain ⟨n, hn⟩ : ∃ n, cmpV ua.data.toList ub.data.toList = n := ⟨_, rfl⟩
    rw [hn] at hV
    have Hn := Lib.hid hn
    clear hn
    have hV0 := VerS.start w ea ua ra ea ub rb 24
    have HS := Lib.hid hV0
    clear hV0
    by_cases h0 : n = 0
    · rw [if_neg (by simpa using h0)] at hV
      have t0 : (n != 0) = false := by simp [h0]
      have HV := Lib.hid hV
      clear hV h0
      go_enter Tryz.func103, Tryz.ntmps103
      go_wp2_with fail
      refine (half_calls ua ub _ h1 h3).mono ?_
      rintro e w1 ⟨rfl, hb1⟩
      rw [Hn.out]
      have hS1 := Lib.hid (HS.out.step (w' := w1.drew) ⟨hb1.os, hb1.tape, hb1.output, hb1.size, hb1.block⟩)
      have c2 : w1.cell? ⟨w.heap.size, 2, none⟩ = some (.string ra) := hS1.out.2.2.2.2.1
      have c5 : w1.cell? ⟨w.heap.size + 1, 2, none⟩ = some (.string rb) := hS1.out.2.2.2.2.2.2.2
      have hB1 : Below w.heap.size w w1 := by have := hS1.out.1; exact ⟨this.os, this.tape, this.output, this.size, this.block⟩
      clear hb1
      go_wp2_with fail
      refine (half_calls ra rb _ h2 h4).mono ?_
      rintro e w2 ⟨rfl, hb2⟩
      go_wp2_with fail
      go_ret
      exact ⟨ret_int HV.out, hB1.trans (hb2.mono hB1.size)⟩
    · rw [if_pos h0] at hV
      have t0 : (n != 0) = true := by simp [h0]
      have HV := Lib.hid hV
      clear hV h0
      go_enter Tryz.func103, Tryz.ntmps103
      go_wp2_with fail
      refine (half_calls ua ub _ h1 h3).mono ?_
      rintro e w1 ⟨rfl, hb1⟩
      rw [Hn.out]
      have hS1 := Lib.hid (HS.out.step (w' := w1.drew) ⟨hb1.os, hb1.tape, hb1.output, hb1.size, hb1.block⟩)
      have hB1 : Below w.heap.size w w1 := by have := hS1.out.1; exact ⟨this.os, this.tape, this.output, this.size, this.block⟩
      clear hb1
      go_wp2_with fail
      go_ret
      exact ⟨ret_int HV.out, hB1⟩
  · have te : (ea != eb) = true := by simp [he]
    by_cases hl : ea < eb
    · rw [if_pos (by rw [if_pos hl]; decide), if_pos hl] at hV
      subst hV
      clear he
      go_enter Tryz.func103, Tryz.ntmps103
      go_wp2_with fail
      go_ret
      exact ⟨rfl, by go_grown⟩
    · have hg : eb < ea := by omega
      rw [if_pos (by rw [if_neg hl, if_pos hg]; decide), if_neg hl, if_pos hg] at hV
      subst hV
      clear he hg
      go_enter Tryz.func103, Tryz.ntmps103
      go_wp2_with fail
      go_ret
      exact ⟨rfl, by go_grown⟩

theorem below_boxes (w : World) {w1 : World} (a b : Array Value) (s t : TypeId) (h : Below ((w.alloc (.cells a s)).alloc (.cells b t)).heap.size ((w.alloc (.cells a s)).alloc (.cells b t)) w1) : Below w.heap.size w w1 :=
  (show Below w.heap.size w ((w.alloc (.cells a s)).alloc (.cells b t)) by go_grown).trans (h.mono (by simp; omega))

theorem isOp_0 (n : Int) : isOp n 0 = true := rfl
theorem isOp_1 (n : Int) : isOp n 1 = decide (n < 0) := rfl
theorem isOp_2 (n : Int) : isOp n 2 = decide (n ≤ 0) := rfl
theorem isOp_3 (n : Int) : isOp n 3 = (n == 0) := rfl
theorem isOp_4 (n : Int) : isOp n 4 = decide (0 ≤ n) := rfl
theorem isOp_5 (n : Int) : isOp n 5 = decide (0 < n) := rfl
theorem isOp_no (n op : Int) (h0 : op ≠ 0) (h1 : op ≠ 1) (h2 : op ≠ 2) (h3 : op ≠ 3) (h4 : op ≠ 4) (h5 : op ≠ 5) : isOp n op = false := by
  unfold isOp
  rw [if_neg h0, if_neg h1, if_neg h2, if_neg h3, if_neg h4, if_neg h5]

set_option maxHeartbeats 4000000 in
theorem verIs_calls (ea eb op : Int) (ua ra ub rb : ByteArray) (w : World) (h1 : ua.size ≤ 1000) (h2 : ra.size ≤ 1000) (h3 : ub.size ≤ 1000) (h4 : rb.size ≤ 1000) :
    Calls Tryz.prog 68 #[.agg #[.int .i64 ea, .string ua, .string ra], .int .i64 op, .agg #[.int .i64 eb, .string ub, .string rb]] w fun e w' =>
      e = .returned (.bool (isOp (cmpVer ea ua.data.toList ra.data.toList eb ub.data.toList rb.data.toList) op)) ∧ Below w.heap.size w w' := by
  obtain ⟨n, hn⟩ : ∃ n, cmpVer ea ua.data.toList ra.data.toList eb ub.data.toList rb.data.toList = n := ⟨_, rfl⟩
  rw [hn]
  have Hn := Lib.hid hn
  clear hn
  have hfin : ∀ w1, Below ((w.alloc (.cells #[.int .i64 ea, .string ua, .string ra] 24)).alloc (.cells #[.int .i64 eb, .string ub, .string rb] 24)).heap.size ((w.alloc (.cells #[.int .i64 ea, .string ua, .string ra] 24)).alloc (.cells #[.int .i64 eb, .string ub, .string rb] 24)) w1 → Below w.heap.size w w1 := fun w1 h => below_boxes w _ _ _ _ h
  have HF := Lib.hid hfin
  clear hfin
  by_cases o0 : op = 0
  · subst o0
    rw [isOp_0]
    go_enter Tryz.func68, Tryz.ntmps68
    go_wp2_with fail
    refine (verCompare_calls ea eb ua ra ub rb _ h1 h2 h3 h4).mono ?_
    rintro e w1 ⟨rfl, hb1⟩
    rw [Hn.out]
    have hB := HF.out w1 hb1
    clear hb1
    go_wp2_with fail
    all_goals go_ret
    all_goals exact ⟨ret_bool (by first | rfl | (simp <;> omega)), hB⟩
  by_cases o1 : op = 1
  · subst o1
    rw [isOp_1]
    go_enter Tryz.func68, Tryz.ntmps68
    go_wp2_with fail
    refine (verCompare_calls ea eb ua ra ub rb _ h1 h2 h3 h4).mono ?_
    rintro e w1 ⟨rfl, hb1⟩
    rw [Hn.out]
    have hB := HF.out w1 hb1
    clear hb1
    go_wp2_with fail
    all_goals go_ret
    all_goals exact ⟨ret_bool (by first | rfl | (simp <;> omega)), hB⟩
  by_cases o2 : op = 2
  · subst o2
    rw [isOp_2]
    go_enter Tryz.func68, Tryz.ntmps68
    go_wp2_with fail
    refine (verCompare_calls ea eb ua ra ub rb _ h1 h2 h3 h4).mono ?_
    rintro e w1 ⟨rfl, hb1⟩
    rw [Hn.out]
    have hB := HF.out w1 hb1
    clear hb1
    go_wp2_with fail
    all_goals go_ret
    all_goals exact ⟨ret_bool (by first | rfl | (simp <;> omega)), hB⟩
  by_cases o3 : op = 3
  · subst o3
    rw [isOp_3]
    go_enter Tryz.func68, Tryz.ntmps68
    go_wp2_with fail
    refine (verCompare_calls ea eb ua ra ub rb _ h1 h2 h3 h4).mono ?_
    rintro e w1 ⟨rfl, hb1⟩
    rw [Hn.out]
    have hB := HF.out w1 hb1
    clear hb1
    go_wp2_with fail
    all_goals go_ret
    all_goals exact ⟨ret_bool (by first | rfl | (simp <;> omega)), hB⟩
  by_cases o4 : op = 4
  · subst o4
    rw [isOp_4]
    go_enter Tryz.func68, Tryz.ntmps68
    go_wp2_with fail
    refine (verCompare_calls ea eb ua ra ub rb _ h1 h2 h3 h4).mono ?_
    rintro e w1 ⟨rfl, hb1⟩
    rw [Hn.out]
    have hB := HF.out w1 hb1
    clear hb1
    go_wp2_with fail
    all_goals go_ret
    all_goals exact ⟨ret_bool (by first | rfl | (simp <;> omega)), hB⟩
  by_cases o5 : op = 5
  · subst o5
    rw [isOp_5]
    go_enter Tryz.func68, Tryz.ntmps68
    go_wp2_with fail
    refine (verCompare_calls ea eb ua ra ub rb _ h1 h2 h3 h4).mono ?_
    rintro e w1 ⟨rfl, hb1⟩
    rw [Hn.out]
    have hB := HF.out w1 hb1
    clear hb1
    go_wp2_with fail
    all_goals go_ret
    all_goals exact ⟨ret_bool (by first | rfl | (simp <;> omega)), hB⟩
  rw [isOp_no n op o0 o1 o2 o3 o4 o5]
  have t0 : (op == 0) = false := by simp [o0]
  have t1 : (op == 1) = false := by simp [o1]
  have t2 : (op == 2) = false := by simp [o2]
  have t3 : (op == 3) = false := by simp [o3]
  have t4 : (op == 4) = false := by simp [o4]
  have t5 : (op == 5) = false := by simp [o5]
  clear o0 o1 o2 o3 o4 o5
  go_enter Tryz.func68, Tryz.ntmps68
  go_wp2_with fail
  refine (verCompare_calls ea eb ua ra ub rb _ h1 h2 h3 h4).mono ?_
  rintro e w1 ⟨rfl, hb1⟩
  rw [Hn.out]
  have hB := HF.out w1 hb1
  clear hb1
  go_wp2_with fail
  all_goals go_ret
  all_goals exact ⟨ret_bool (by first | rfl | (simp <;> omega)), hB⟩

set_option maxHeartbeats 4000000 in
theorem refIs_calls (ea eb op : Int) (ua ra ub rb : ByteArray) (w : World) (h1 : ua.size ≤ 1000) (h2 : ra.size ≤ 1000) (h3 : ub.size ≤ 1000) (h4 : rb.size ≤ 1000) :
    Calls Tryz.prog 82 #[.agg #[.int .i64 ea, .string ua, .string ra], .int .i64 op, .agg #[.int .i64 eb, .string ub, .string rb]] w fun e w' =>
      e = .returned (.bool (isOp (cmpVer ea ua.data.toList ra.data.toList eb ub.data.toList rb.data.toList) op)) ∧ Below w.heap.size w w' := by
  obtain ⟨n, hn⟩ : ∃ n, cmpVer ea ua.data.toList ra.data.toList eb ub.data.toList rb.data.toList = n := ⟨_, rfl⟩
  rw [hn]
  have Hn := Lib.hid hn
  clear hn
  have hfin : ∀ w1, Below ((w.alloc (.cells #[.int .i64 ea, .string ua, .string ra] 24)).alloc (.cells #[.int .i64 eb, .string ub, .string rb] 24)).heap.size ((w.alloc (.cells #[.int .i64 ea, .string ua, .string ra] 24)).alloc (.cells #[.int .i64 eb, .string ub, .string rb] 24)) w1 → Below w.heap.size w w1 := fun w1 h => below_boxes w _ _ _ _ h
  have HF := Lib.hid hfin
  clear hfin
  by_cases o0 : op = 0
  · subst o0
    rw [isOp_0]
    go_enter Tryz.func82, Tryz.ntmps82
    go_wp2_with fail
    refine (refCompare_calls ea eb ua ra ub rb _ h1 h2 h3 h4).mono ?_
    rintro e w1 ⟨rfl, hb1⟩
    rw [Hn.out]
    have hB := HF.out w1 hb1
    clear hb1
    go_wp2_with fail
    all_goals go_ret
    all_goals exact ⟨ret_bool (by first | rfl | (simp <;> omega)), hB⟩
  by_cases o1 : op = 1
  · subst o1
    rw [isOp_1]
    go_enter Tryz.func82, Tryz.ntmps82
    go_wp2_with fail
    refine (refCompare_calls ea eb ua ra ub rb _ h1 h2 h3 h4).mono ?_
    rintro e w1 ⟨rfl, hb1⟩
    rw [Hn.out]
    have hB := HF.out w1 hb1
    clear hb1
    go_wp2_with fail
    all_goals go_ret
    all_goals exact ⟨ret_bool (by first | rfl | (simp <;> omega)), hB⟩
  by_cases o2 : op = 2
  · subst o2
    rw [isOp_2]
    go_enter Tryz.func82, Tryz.ntmps82
    go_wp2_with fail
    refine (refCompare_calls ea eb ua ra ub rb _ h1 h2 h3 h4).mono ?_
    rintro e w1 ⟨rfl, hb1⟩
    rw [Hn.out]
    have hB := HF.out w1 hb1
    clear hb1
    go_wp2_with fail
    all_goals go_ret
    all_goals exact ⟨ret_bool (by first | rfl | (simp <;> omega)), hB⟩
  by_cases o3 : op = 3
  · subst o3
    rw [isOp_3]
    go_enter Tryz.func82, Tryz.ntmps82
    go_wp2_with fail
    refine (refCompare_calls ea eb ua ra ub rb _ h1 h2 h3 h4).mono ?_
    rintro e w1 ⟨rfl, hb1⟩
    rw [Hn.out]
    have hB := HF.out w1 hb1
    clear hb1
    go_wp2_with fail
    all_goals go_ret
    all_goals exact ⟨ret_bool (by first | rfl | (simp <;> omega)), hB⟩
  by_cases o4 : op = 4
  · subst o4
    rw [isOp_4]
    go_enter Tryz.func82, Tryz.ntmps82
    go_wp2_with fail
    refine (refCompare_calls ea eb ua ra ub rb _ h1 h2 h3 h4).mono ?_
    rintro e w1 ⟨rfl, hb1⟩
    rw [Hn.out]
    have hB := HF.out w1 hb1
    clear hb1
    go_wp2_with fail
    all_goals go_ret
    all_goals exact ⟨ret_bool (by first | rfl | (simp <;> omega)), hB⟩
  by_cases o5 : op = 5
  · subst o5
    rw [isOp_5]
    go_enter Tryz.func82, Tryz.ntmps82
    go_wp2_with fail
    refine (refCompare_calls ea eb ua ra ub rb _ h1 h2 h3 h4).mono ?_
    rintro e w1 ⟨rfl, hb1⟩
    rw [Hn.out]
    have hB := HF.out w1 hb1
    clear hb1
    go_wp2_with fail
    all_goals go_ret
    all_goals exact ⟨ret_bool (by first | rfl | (simp <;> omega)), hB⟩
  rw [isOp_no n op o0 o1 o2 o3 o4 o5]
  have t0 : (op == 0) = false := by simp [o0]
  have t1 : (op == 1) = false := by simp [o1]
  have t2 : (op == 2) = false := by simp [o2]
  have t3 : (op == 3) = false := by simp [o3]
  have t4 : (op == 4) = false := by simp [o4]
  have t5 : (op == 5) = false := by simp [o5]
  clear o0 o1 o2 o3 o4 o5
  go_enter Tryz.func82, Tryz.ntmps82
  go_wp2_with fail
  refine (refCompare_calls ea eb ua ra ub rb _ h1 h2 h3 h4).mono ?_
  rintro e w1 ⟨rfl, hb1⟩
  rw [Hn.out]
  have hB := HF.out w1 hb1
  clear hb1
  go_wp2_with fail
  all_goals go_ret
  all_goals exact ⟨ret_bool (by first | rfl | (simp <;> omega)), hB⟩

theorem short_calls (e : Int) (u r : ByteArray) (w : World) (hu : u.size ≤ 9223372036854775807) (hr : r.size ≤ 9223372036854775807) :
    Calls Tryz.prog 17 #[.agg #[.int .i64 e, .string u, .string r]] w fun ev w' => ev = .returned (.bool (decide (u.size ≤ 100) && decide (r.size ≤ 100))) ∧ Below w.heap.size w w' := by
  by_cases h : u.size ≤ 100
  · have t : decide ((u.size : Int) ≤ 100) = true := decide_eq_true (by omega)
    go_enter Tryz.func17, Tryz.ntmps17
    go_wp2
    all_goals go_ret
    all_goals exact ⟨ret_bool (by simp [h] <;> omega), by go_grown⟩
  · have t : decide ((u.size : Int) ≤ 100) = false := decide_eq_false (by omega)
    go_enter Tryz.func17, Tryz.ntmps17
    go_wp2
    all_goals go_ret
    all_goals exact ⟨ret_bool (by simp [h] <;> omega), by go_grown⟩

end Go.Proofs.YtnfnebfioibndaaGreatDoor
