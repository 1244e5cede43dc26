/- Stanzas: what a line may be; the document's names, blanks at both ends. (Written by gen_stana.py.) -/
import Derived.Test.YtpiobckemlkomaaDoorStanA
namespace Go.Proofs.YtpiobckemlkomaaDoor
open Go.RowKit
set_option maxRecDepth 100000
set_option maxHeartbeats 4000000

theorem line_calls (s : ByteArray) (w : World) (hs : s.size ≤ 1000000) :
    Calls Tryd.prog 32 #[.string s] w fun e w' => e = .returned (.bool (lineS s)) ∧ Below w.heap.size w w' := by
  have TR := Lib.hid (trim_calls s w hs)
  go_enter Tryd.func32, Tryd.ntmps32
  go_wp2_with fail
  go_loopg [6] s.size (fun k v6 wr => ∃ i : Nat, v6 = .int .i64 i ∧ i ≤ s.size ∧ k = s.size - i ∧ wr = w ∧ (s.data.toList.take i).all lineC = true)
  case atStart => exact ⟨0, rfl, Nat.zero_le _, rfl, rfl, rfl⟩
  case round =>
    obtain ⟨i, rfl, hi, hk, hw, hall⟩ := hrel
    obtain rfl : w = wr := hw.symm
    have Hk := Lib.hid hk
    have Hall := Lib.hid hall
    clear hk hall
    by_cases hlt : i < s.size
    · have hg := get_at s i hlt
      obtain ⟨c, hc⟩ : ∃ c, s[i]'hlt = c := ⟨_, rfl⟩
      rw [hc] at hg
      obtain ⟨n, hn⟩ : ∃ n, c.toNat = n := ⟨_, rfl⟩
      have hn256 : n < 256 := by rw [← hn]; exact c.toNat_lt
      have HN : Hid (lineC c = true ↔ (32 ≤ n ∨ n = 9) ∧ n ≠ 127) := by rw [← hn]; exact lineC_iff c
      have HG := Lib.hid hg
      clear hg
      have BAD : Hid (¬ ((32 ≤ n ∨ n = 9) ∧ n ≠ 127) → lineS s = false) := fun h => lineS_no s (all_more lineC HG.out (Bool.eq_false_iff.2 fun h' => h (HN.out.1 h')))
      have GOOD : Hid ((32 ≤ n ∨ n = 9) ∧ n ≠ 127 → (s.data.toList.take (i + 1)).all lineC = true) := by
        intro h
        show _ = _
        rw [all_take lineC HG.out, Hall.out, HN.out.2 h]
        rfl
      by_cases h1 : n < 32
      · have q1 : decide ((n : Int) < 32) = true := decide_eq_true (by omega)
        have q3 : ((n : Int) == 127) = false := by rw [beq_eq_false_iff_ne]; omega
        by_cases h2 : n = 9
        · have q2 : ((n : Int) != 9) = false := by rw [bne_eq_false_iff_eq]; omega
          have HA := Lib.hid (GOOD.out (by omega))
          go_wp2_with fail
          go_roundg (s.size - (i + 1))
          case rel => exact ⟨i + 1, by go_num, by omega, rfl, rfl, HA.out⟩
          case measure => have := Hk.out; omega
        · have q2 : ((n : Int) != 9) = true := by rw [bne_iff_ne]; omega
          have HB := Lib.hid (BAD.out (by omega))
          go_wp2_with fail
          go_ret
          rw [HB.out]
          exact ⟨rfl, Below.refl _ _⟩
      · have q1 : decide ((n : Int) < 32) = false := decide_eq_false (by omega)
        by_cases h2 : n = 127
        · have q2 : ((n : Int) == 127) = true := by rw [beq_iff_eq]; omega
          have HB := Lib.hid (BAD.out (by omega))
          go_wp2_with fail
          go_ret
          rw [HB.out]
          exact ⟨rfl, Below.refl _ _⟩
        · have q2 : ((n : Int) == 127) = false := by rw [beq_eq_false_iff_ne]; omega
          have HA := Lib.hid (GOOD.out (by omega))
          go_wp2_with fail
          go_roundg (s.size - (i + 1))
          case rel => exact ⟨i + 1, by go_num, by omega, rfl, rfl, HA.out⟩
          case measure => have := Hk.out; omega
    · obtain rfl : i = s.size := by omega
      have hall := Hall.out
      rw [take_size] at hall
      have HE := Lib.hid (lineS_split s hall)
      clear hall
      go_wp2_with fail
      refine TR.out.mono ?_
      rintro e1 w1 ⟨rfl, hb⟩
      obtain ⟨t, ht⟩ : ∃ t, trimB s = t := ⟨_, rfl⟩
      rw [ht] at HE ⊢
      clear ht TR
      by_cases h : t = s
      · have HR : Hid (lineS s = true) := HE.out.trans (decide_eq_true h)
        subst h
        go_wp2_with fail
        go_ret
        rw [HR.out]
        exact ⟨by simp, hb⟩
      · have HR : Hid (lineS s = false) := HE.out.trans (decide_eq_false h)
        have q1 : (t.toList == s.toList) = false := by rw [beq_eq_false_iff_ne]; exact fun e => h (toL_iff.1 e)
        have q2 : decide (t.toList = s.toList) = false := decide_eq_false fun e => h (toL_iff.1 e)
        go_wp2_with fail
        go_ret
        rw [HR.out]
        exact ⟨by first | rfl | simp, hb⟩

theorem rname_calls (s : ByteArray) (w : World) (hs : s.size ≤ 1000000) :
    Calls Tryd.prog 30 #[.string s] w fun e w' => e = .returned (.bool (nameS s)) ∧ w = w' := by
  go_enter Tryd.func30, Tryd.ntmps30
  go_wp2_with fail
  go_loopg [6] s.size (fun k v6 wr => ∃ i : Nat, v6 = .int .i64 i ∧ i ≤ s.size ∧ k = s.size - i ∧ wr = w ∧ (s.data.toList.take i).all nameC = true)
  case atStart => exact ⟨0, rfl, Nat.zero_le _, rfl, rfl, rfl⟩
  case round =>
    obtain ⟨i, rfl, hi, hk, hw, hall⟩ := hrel
    obtain rfl : w = wr := hw.symm
    have Hk := Lib.hid hk
    have Hall := Lib.hid hall
    clear hk hall
    by_cases hlt : i < s.size
    · have hg := get_at s i hlt
      obtain ⟨c, hc⟩ : ∃ c, s[i]'hlt = c := ⟨_, rfl⟩
      rw [hc] at hg
      obtain ⟨n, hn⟩ : ∃ n, c.toNat = n := ⟨_, rfl⟩
      have hn256 : n < 256 := by rw [← hn]; exact c.toNat_lt
      have HN : Hid (nameC c = true ↔ 33 ≤ n ∧ n ≤ 126 ∧ n ≠ 58) := by rw [← hn]; exact nameC_iff c
      have HG := Lib.hid hg
      clear hg
      have BAD : Hid (¬ (33 ≤ n ∧ n ≤ 126 ∧ n ≠ 58) → nameS s = false) := fun h => nameS_no s (all_more nameC HG.out (Bool.eq_false_iff.2 fun h' => h (HN.out.1 h')))
      have eW : IntKind.i64.wrap (n : Int) = (n : Int) := by rw [IntKind.wrap_i64]; omega
      have IN := Lib.hid (in_calls (n : Int) 33 126 w)
      by_cases h1 : 33 ≤ n ∧ n ≤ 126
      · have hq : (decide ((33 : Int) ≤ n) && decide ((n : Int) ≤ 126)) = true := by rw [decide_eq_true (by omega), decide_eq_true (by omega)]; rfl
        rw [hq] at IN
        clear hq
        by_cases h3 : n = 58
        · have HB := Lib.hid (BAD.out (by omega))
          have q1 : ((n : Int) == 58) = true := by rw [beq_iff_eq]; omega
          clear h3
          go_wp2_with fail
          refine IN.out.mono ?_
          rintro e1 w1 ⟨rfl, rfl⟩
          go_wp2_with fail
          go_ret
          rw [HB.out]
          exact ⟨rfl, rfl⟩
        · have q1 : ((n : Int) == 58) = false := by rw [beq_eq_false_iff_ne]; omega
          have HA : Hid ((s.data.toList.take (i + 1)).all nameC = true) := by
            show _ = _
            rw [all_take nameC HG.out, Hall.out, HN.out.2 ⟨by omega, by omega, h3⟩]
            rfl
          go_wp2_with fail
          refine IN.out.mono ?_
          rintro e1 w1 ⟨rfl, rfl⟩
          go_wp2_with fail
          go_roundg (s.size - (i + 1))
          case rel => exact ⟨i + 1, by go_num, by omega, rfl, rfl, HA.out⟩
          case measure => have := Hk.out; omega
      · have hq : (decide ((33 : Int) ≤ n) && decide ((n : Int) ≤ 126)) = false := by
          rw [Bool.and_eq_false_iff, decide_eq_false_iff_not, decide_eq_false_iff_not]
          omega
        rw [hq] at IN
        have HB := Lib.hid (BAD.out (by omega))
        clear hq
        go_wp2_with fail
        refine IN.out.mono ?_
        rintro e1 w1 ⟨rfl, rfl⟩
        go_wp2_with fail
        go_ret
        rw [HB.out]
        exact ⟨rfl, rfl⟩
    · obtain rfl : i = s.size := by omega
      have hall := Hall.out
      rw [take_size] at hall
      have HE := Lib.hid (nameS_split s hall)
      clear hall
      have IN := Lib.hid (in_calls (s.size : Int) 1 24 w)
      by_cases h0 : 1 ≤ s.size ∧ s.size ≤ 24
      · have hq : (decide ((1 : Int) ≤ s.size) && decide ((s.size : Int) ≤ 24)) = true := by rw [decide_eq_true (by omega), decide_eq_true (by omega)]; rfl
        rw [hq] at IN
        clear hq
        have hp : 0 < s.size := by omega
        have he := HE.out
        rw [head_at s hp, decide_eq_true (show 1 ≤ s.size by omega), decide_eq_true (show s.size ≤ 24 by omega)] at he
        obtain ⟨c, hc⟩ : ∃ c, s[0]'hp = c := ⟨_, rfl⟩
        rw [hc] at he
        obtain ⟨n, hn⟩ : ∃ n, c.toNat = n := ⟨_, rfl⟩
        have hn256 : n < 256 := by rw [← hn]; exact c.toNat_lt
        rw [hn] at he
        have HE1 := Lib.hid he
        clear he HE
        by_cases h2 : n = 35
        · have HB : Hid (nameS s = false) := by
            show _ = _
            rw [HE1.out, h2]
            rfl
          go_wp2_with fail
          refine IN.out.mono ?_
          rintro e1 w1 ⟨rfl, rfl⟩
          go_wp2_with fail
          go_ret
          rw [HB.out]
          exact ⟨rfl, rfl⟩
        by_cases h3 : n = 45
        · have HB : Hid (nameS s = false) := by
            show _ = _
            rw [HE1.out, h3]
            rfl
          go_wp2_with fail
          refine IN.out.mono ?_
          rintro e1 w1 ⟨rfl, rfl⟩
          go_wp2_with fail
          go_ret
          rw [HB.out]
          exact ⟨rfl, rfl⟩
        have HB : Hid (nameS s = true) := by
          show _ = _
          rw [HE1.out, decide_eq_true h2, decide_eq_true h3]
          rfl
        have q1 : ((n : Int) != 35) = true := by rw [bne_iff_ne]; omega
        have q2 : ((n : Int) != 45) = true := by rw [bne_iff_ne]; omega
        go_wp2_with fail
        refine IN.out.mono ?_
        rintro e1 w1 ⟨rfl, rfl⟩
        go_wp2_with fail
        go_ret
        rw [HB.out]
        exact ⟨rfl, rfl⟩
      · have hq : (decide ((1 : Int) ≤ s.size) && decide ((s.size : Int) ≤ 24)) = false := by
          rw [Bool.and_eq_false_iff, decide_eq_false_iff_not, decide_eq_false_iff_not]
          omega
        rw [hq] at IN
        clear hq
        have HB : Hid (nameS s = false) := by
          show _ = _
          rw [HE.out]
          have : (decide (1 ≤ s.size) && decide (s.size ≤ 24)) = false := by
            rw [Bool.and_eq_false_iff, decide_eq_false_iff_not, decide_eq_false_iff_not]
            omega
          rw [this]
          rfl
        go_wp2_with fail
        refine IN.out.mono ?_
        rintro e1 w1 ⟨rfl, rfl⟩
        go_wp2_with fail
        go_ret
        rw [HB.out]
        exact ⟨rfl, rfl⟩

/-! ### blanks at the ends, one by one -/
theorem trimS_cons {x : UInt8} {l cs : List UInt8} (hx : cs.contains x = true) : Lib.trimS (x :: l) cs = Lib.trimS l cs := by
  unfold Lib.trimS Lib.trimLeftS Lib.trimRightS
  rw [List.reverse_cons, List.dropWhile_append]
  split
  · rename_i h
    have h' : l.reverse.dropWhile (cs.contains ·) = [] := by simpa using h
    rw [h', List.dropWhile_cons, if_pos hx]
    rfl
  · rw [List.reverse_append, List.reverse_cons, List.reverse_nil, List.nil_append, List.singleton_append, List.dropWhile_cons, if_pos hx]
theorem trimS_snoc {x : UInt8} {l cs : List UInt8} (hx : cs.contains x = true) : Lib.trimS (l ++ [x]) cs = Lib.trimS l cs := by
  unfold Lib.trimS Lib.trimRightS
  rw [List.reverse_append, List.reverse_cons, List.reverse_nil, List.nil_append, List.singleton_append, List.dropWhile_cons, if_pos hx]
theorem first_part (s : ByteArray) (h : 0 < s.size) : s.data.toList = s[0]'h :: (s.extract 1 s.size).data.toList ∧ (s.extract 1 s.size).size + 1 = s.size := by
  have hg := get_at s 0 h
  have hl : s.data.toList.length = s.size := rfl
  have e1 : (s.extract 1 s.size).data.toList = s.data.toList.drop 1 := by
    rw [Lib.extract_data]
    exact List.take_of_length_le (by rw [List.length_drop, hl]; omega)
  refine ⟨?_, ?_⟩
  · rw [e1]
    cases e : s.data.toList with
    | nil => rw [e] at hl; exfalso; simp at hl; omega
    | cons a l =>
      rw [e] at hg
      simp only [List.getElem?_cons_zero, Option.some.injEq] at hg
      rw [← hg]
      rfl
  · have h2 : (s.extract 1 s.size).size = (s.extract 1 s.size).data.toList.length := rfl
    rw [h2, e1, List.length_drop, hl]
    omega
theorem last_part (s : ByteArray) (h : 0 < s.size) : s.data.toList = (s.extract 0 (s.size - 1)).data.toList ++ [s[s.size - 1]'(by omega)] ∧ (s.extract 0 (s.size - 1)).size + 1 = s.size := by
  have hg := get_at s (s.size - 1) (by omega)
  have hl : s.data.toList.length = s.size := rfl
  have e1 : (s.extract 0 (s.size - 1)).data.toList = s.data.toList.take (s.size - 1) := by
    rw [Lib.extract_data]
    simp
  refine ⟨?_, ?_⟩
  · rw [e1]
    obtain ⟨h1, h2⟩ := List.getElem?_eq_some_iff.1 hg
    rw [← h2, ← List.take_succ_eq_append_getElem h1]
    exact (List.take_of_length_le (by rw [hl]; omega)).symm
  · have h2 : (s.extract 0 (s.size - 1)).size = (s.extract 0 (s.size - 1)).data.toList.length := rfl
    rw [h2, e1, List.length_take, hl]
    omega
theorem blank_contains (c : UInt8) : ([32, 9] : List UInt8).contains c = blankC c := rfl
theorem trimB_first {s : ByteArray} (h : 0 < s.size) (hc : blankC (s[0]'h) = true) : trimB (s.extract 1 s.size) = trimB s := by
  unfold trimB
  conv => rhs; rw [(first_part s h).1]
  rw [trimS_cons hc]
theorem trimB_last {s : ByteArray} (h : 0 < s.size) (hc : blankC (s[s.size - 1]'(by omega)) = true) : trimB (s.extract 0 (s.size - 1)) = trimB s := by
  unfold trimB
  conv => rhs; rw [(last_part s h).1]
  rw [trimS_snoc hc]
theorem trimB_self {s : ByteArray} (h1 : ∀ h : 0 < s.size, blankC (s[0]'h) = false) (h2 : ∀ h : 0 < s.size, blankC (s[s.size - 1]'(by omega)) = false) : trimB s = s := by
  unfold trimB
  rw [trimS_self (l := s.data.toList)]
  · rfl
  · intro x hx
    by_cases h : 0 < s.size
    · rw [(first_part s h).1] at hx
      injection hx with hx
      rw [← hx]
      exact h1 h
    · have : s.data.toList = [] := List.eq_nil_of_length_eq_zero (by show s.size = 0; omega)
      rw [this] at hx
      cases hx
  · intro x hx
    by_cases h : 0 < s.size
    · rw [(last_part s h).1, List.getLast?_append] at hx
      injection hx with hx
      rw [← hx]
      exact h2 h
    · have : s.data.toList = [] := List.eq_nil_of_length_eq_zero (by show s.size = 0; omega)
      rw [this] at hx
      cases hx
/-- Nothing, or no blank at its head. -/
def HeadOk (s : ByteArray) : Prop := ∀ h : 0 < s.size, blankC (s[0]'h) = false
theorem HeadOk.last {s : ByteArray} (h : HeadOk s) (hp : 0 < s.size) : HeadOk (s.extract 0 (s.size - 1)) := by
  intro h'
  have h0 := get_at s 0 hp
  have h1 := get_at (s.extract 0 (s.size - 1)) 0 h'
  rw [(last_part s hp).1, List.getElem?_append_left (by exact h')] at h0
  rw [h0] at h1
  injection h1 with h1
  rw [← h1]
  exact h hp

theorem rtrim_calls (s : ByteArray) (w : World) (hs : s.size ≤ 1000000) :
    Calls Tryd.prog 26 #[.string s] w fun e w' => e = .returned (.string (trimB s)) ∧ w = w' := by
  go_enter Tryd.func26, Tryd.ntmps26
  go_wp2_with fail
  go_loopg [0] s.size (fun k v0 wr => ∃ x : ByteArray, v0 = .string x ∧ x.size ≤ 1000000 ∧ k = x.size ∧ wr = w ∧ trimB x = trimB s)
  case atStart => exact ⟨s, rfl, hs, rfl, rfl, rfl⟩
  case round =>
    obtain ⟨x, rfl, hx, hk, hw, hT⟩ := hrel
    obtain rfl : w = wr := hw.symm
    have HT := Lib.hid hT
    clear hT
    subst hk
    by_cases h0 : x.size = 0
    · obtain ⟨t1, t2⟩ := emptyL h0
      have HO : Hid (HeadOk x) := fun h => by omega
      clear h0
      go_wp2_with fail
      clear t1 t2
      go_loopg [0] x.size (fun k v0 wr => ∃ y : ByteArray, v0 = .string y ∧ y.size ≤ 1000000 ∧ k = y.size ∧ wr = w ∧ trimB y = trimB s ∧ HeadOk y)
      case atStart => exact ⟨x, rfl, hx, rfl, rfl, HT.out, HO.out⟩
      case round =>
        obtain ⟨y, rfl, hy, hk, hw, hT⟩ := hrel
        obtain rfl : w = wr := hw.symm
        have HT := Lib.hid hT
        clear hT
        subst hk
        by_cases h0 : y.size = 0
        · obtain ⟨t1, t2⟩ := emptyL h0
          have HR : Hid (trimB s = y) := by
            show _ = _
            rw [← HT.out.1]
            exact trimB_self HT.out.2 (fun h => by omega)
          clear h0
          go_wp2_with fail
          go_ret
          rw [HR.out]
          exact ⟨rfl, rfl⟩
        · obtain ⟨t1, t2⟩ := emptyN h0
          have hp : 0 < y.size := by omega
          have hq : y.size - 1 < y.size := by omega
          have qi : (y.size : Int) - 1 = ((y.size - 1 : Nat) : Int) := by omega
          have BL := Lib.hid (blank_calls (y[y.size - 1]'hq) w)
          cases hb : blankC (y[y.size - 1]'hq)
          · have HR : Hid (trimB s = y) := by
              show _ = _
              rw [← HT.out.1]
              exact trimB_self HT.out.2 (fun h => hb)
            rw [hb] at BL
            clear hb
            go_wp2_with fail
            refine BL.out.mono ?_
            rintro e1 w1 ⟨rfl, rfl⟩
            go_wp2_with fail
            go_ret
            rw [HR.out]
            exact ⟨rfl, rfl⟩
          · have HX : Hid (trimB (y.extract 0 (y.size - 1)) = trimB s ∧ HeadOk (y.extract 0 (y.size - 1))) := ⟨(trimB_last hp hb).trans HT.out.1, HT.out.2.last hp⟩
            have HS := Lib.hid (last_part y hp).2
            rw [hb] at BL
            clear hb
            go_wp2_with fail
            refine BL.out.mono ?_
            rintro e1 w1 ⟨rfl, rfl⟩
            go_wp2_with fail
            go_roundg (y.extract 0 (y.size - 1)).size
            case rel => exact ⟨_, rfl, by have := HS.out; omega, rfl, rfl, HX.out⟩
            case measure => have := HS.out; omega
    · obtain ⟨t1, t2⟩ := emptyN h0
      have hp : 0 < x.size := by omega
      have BL := Lib.hid (blank_calls (x[0]'hp) w)
      cases hb : blankC (x[0]'hp)
      · have HO : Hid (HeadOk x) := fun h => hb
        rw [hb] at BL
        clear hb
        go_wp2_with fail
        refine BL.out.mono ?_
        rintro e1 w1 ⟨rfl, rfl⟩
        clear BL
        go_wp2_with fail
        go_loopg [0] x.size (fun k v0 wr => ∃ y : ByteArray, v0 = .string y ∧ y.size ≤ 1000000 ∧ k = y.size ∧ wr = w ∧ trimB y = trimB s ∧ HeadOk y)
        case atStart => exact ⟨x, rfl, hx, rfl, rfl, HT.out, HO.out⟩
        case round =>
          obtain ⟨y, rfl, hy, hk, hw, hT⟩ := hrel
          obtain rfl : w = wr := hw.symm
          have HT := Lib.hid hT
          clear hT
          subst hk
          by_cases h0 : y.size = 0
          · obtain ⟨t1, t2⟩ := emptyL h0
            have HR : Hid (trimB s = y) := by
              show _ = _
              rw [← HT.out.1]
              exact trimB_self HT.out.2 (fun h => by omega)
            clear h0
            go_wp2_with fail
            go_ret
            rw [HR.out]
            exact ⟨rfl, rfl⟩
          · obtain ⟨t1, t2⟩ := emptyN h0
            have hp : 0 < y.size := by omega
            have hq : y.size - 1 < y.size := by omega
            have qi : (y.size : Int) - 1 = ((y.size - 1 : Nat) : Int) := by omega
            have BL := Lib.hid (blank_calls (y[y.size - 1]'hq) w)
            cases hb : blankC (y[y.size - 1]'hq)
            · have HR : Hid (trimB s = y) := by
                show _ = _
                rw [← HT.out.1]
                exact trimB_self HT.out.2 (fun h => hb)
              rw [hb] at BL
              clear hb
              go_wp2_with fail
              refine BL.out.mono ?_
              rintro e1 w1 ⟨rfl, rfl⟩
              go_wp2_with fail
              go_ret
              rw [HR.out]
              exact ⟨rfl, rfl⟩
            · have HX : Hid (trimB (y.extract 0 (y.size - 1)) = trimB s ∧ HeadOk (y.extract 0 (y.size - 1))) := ⟨(trimB_last hp hb).trans HT.out.1, HT.out.2.last hp⟩
              have HS := Lib.hid (last_part y hp).2
              rw [hb] at BL
              clear hb
              go_wp2_with fail
              refine BL.out.mono ?_
              rintro e1 w1 ⟨rfl, rfl⟩
              go_wp2_with fail
              go_roundg (y.extract 0 (y.size - 1)).size
              case rel => exact ⟨_, rfl, by have := HS.out; omega, rfl, rfl, HX.out⟩
              case measure => have := HS.out; omega
      · have HX : Hid (trimB (x.extract 1 x.size) = trimB s) := (trimB_first hp hb).trans HT.out
        have HS := Lib.hid (first_part x hp).2
        rw [hb] at BL
        clear hb
        go_wp2_with fail
        refine BL.out.mono ?_
        rintro e1 w1 ⟨rfl, rfl⟩
        go_wp2_with fail
        go_roundg (x.extract 1 x.size).size
        case rel => exact ⟨_, rfl, by have := HS.out; omega, rfl, rfl, HX.out⟩
        case measure => have := HS.out; omega

theorem rtrim_below (s : ByteArray) (w : World) (hs : s.size ≤ 1000000) :
    Calls Tryd.prog 26 #[.string s] w fun e w' => e = .returned (.string (trimB s)) ∧ Below w.heap.size w w' := by
  refine (rtrim_calls s w hs).mono ?_
  rintro e w' ⟨rfl, rfl⟩
  exact ⟨rfl, Below.refl _ _⟩

theorem rline_calls (s : ByteArray) (w : World) (hs : s.size ≤ 1000000) :
    Calls Tryd.prog 28 #[.string s] w fun e w' => e = .returned (.bool (lineS s)) ∧ Below w.heap.size w w' := by
  have TR := Lib.hid (rtrim_below s w hs)
  go_enter Tryd.func28, Tryd.ntmps28
  go_wp2_with fail
  go_loopg [6] s.size (fun k v6 wr => ∃ i : Nat, v6 = .int .i64 i ∧ i ≤ s.size ∧ k = s.size - i ∧ wr = w ∧ (s.data.toList.take i).all lineC = true)
  case atStart => exact ⟨0, rfl, Nat.zero_le _, rfl, rfl, rfl⟩
  case round =>
    obtain ⟨i, rfl, hi, hk, hw, hall⟩ := hrel
    obtain rfl : w = wr := hw.symm
    have Hk := Lib.hid hk
    have Hall := Lib.hid hall
    clear hk hall
    by_cases hlt : i < s.size
    · have hg := get_at s i hlt
      obtain ⟨c, hc⟩ : ∃ c, s[i]'hlt = c := ⟨_, rfl⟩
      rw [hc] at hg
      obtain ⟨n, hn⟩ : ∃ n, c.toNat = n := ⟨_, rfl⟩
      have hn256 : n < 256 := by rw [← hn]; exact c.toNat_lt
      have HN : Hid (lineC c = true ↔ (32 ≤ n ∨ n = 9) ∧ n ≠ 127) := by rw [← hn]; exact lineC_iff c
      have HG := Lib.hid hg
      clear hg
      have BAD : Hid (¬ ((32 ≤ n ∨ n = 9) ∧ n ≠ 127) → lineS s = false) := fun h => lineS_no s (all_more lineC HG.out (Bool.eq_false_iff.2 fun h' => h (HN.out.1 h')))
      have GOOD : Hid ((32 ≤ n ∨ n = 9) ∧ n ≠ 127 → (s.data.toList.take (i + 1)).all lineC = true) := by
        intro h
        show _ = _
        rw [all_take lineC HG.out, Hall.out, HN.out.2 h]
        rfl
      by_cases h1 : n < 32
      · have q1 : decide ((n : Int) < 32) = true := decide_eq_true (by omega)
        have q3 : ((n : Int) == 127) = false := by rw [beq_eq_false_iff_ne]; omega
        by_cases h2 : n = 9
        · have q2 : ((n : Int) != 9) = false := by rw [bne_eq_false_iff_eq]; omega
          have HA := Lib.hid (GOOD.out (by omega))
          go_wp2_with fail
          go_roundg (s.size - (i + 1))
          case rel => exact ⟨i + 1, by go_num, by omega, rfl, rfl, HA.out⟩
          case measure => have := Hk.out; omega
        · have q2 : ((n : Int) != 9) = true := by rw [bne_iff_ne]; omega
          have HB := Lib.hid (BAD.out (by omega))
          go_wp2_with fail
          go_ret
          rw [HB.out]
          exact ⟨rfl, Below.refl _ _⟩
      · have q1 : decide ((n : Int) < 32) = false := decide_eq_false (by omega)
        by_cases h2 : n = 127
        · have q2 : ((n : Int) == 127) = true := by rw [beq_iff_eq]; omega
          have HB := Lib.hid (BAD.out (by omega))
          go_wp2_with fail
          go_ret
          rw [HB.out]
          exact ⟨rfl, Below.refl _ _⟩
        · have q2 : ((n : Int) == 127) = false := by rw [beq_eq_false_iff_ne]; omega
          have HA := Lib.hid (GOOD.out (by omega))
          go_wp2_with fail
          go_roundg (s.size - (i + 1))
          case rel => exact ⟨i + 1, by go_num, by omega, rfl, rfl, HA.out⟩
          case measure => have := Hk.out; omega
    · obtain rfl : i = s.size := by omega
      have hall := Hall.out
      rw [take_size] at hall
      have HE := Lib.hid (lineS_split s hall)
      clear hall
      go_wp2_with fail
      refine TR.out.mono ?_
      rintro e1 w1 ⟨rfl, hb⟩
      obtain ⟨t, ht⟩ : ∃ t, trimB s = t := ⟨_, rfl⟩
      rw [ht] at HE ⊢
      clear ht TR
      by_cases h : t = s
      · have HR : Hid (lineS s = true) := HE.out.trans (decide_eq_true h)
        subst h
        go_wp2_with fail
        go_ret
        rw [HR.out]
        exact ⟨by simp, hb⟩
      · have HR : Hid (lineS s = false) := HE.out.trans (decide_eq_false h)
        have q1 : (t.toList == s.toList) = false := by rw [beq_eq_false_iff_ne]; exact fun e => h (toL_iff.1 e)
        have q2 : decide (t.toList = s.toList) = false := decide_eq_false fun e => h (toL_iff.1 e)
        go_wp2_with fail
        go_ret
        rw [HR.out]
        exact ⟨by first | rfl | simp, hb⟩
end Go.Proofs.YtpiobckemlkomaaDoor
