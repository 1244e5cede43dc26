/- stevedoreref.half: two parts, by turns. · version.weight, part; cmp.Or. -/
import Derived.Test.YtnfnebfioibndaaGreatDoorM02
import Derived.Test.YtnfnebfioibndaaGreatDoorM03
import Derived.LoopTactic
import Derived.Deep.LoopGhost
import Derived.Deep.CutBlock
import Derived.Deep.DeepCutAuto
import Derived.Outline
import Derived.Laws.Concat
import Derived.Shelf.Strings.SlTrimAscii
namespace Go.Proofs.YtnfnebfioibndaaGreatDoor
open Go.RowKit
set_option maxRecDepth 100000

theorem rank_at (s : ByteArray) (r : Int) (h : rk s.data.toList = r) (w : World) :
    Calls Tryz.prog 122 #[.string s] w fun e w' => e = .returned (.int .i64 r) ∧ w = w' := by
  subst h
  exact rank_calls s w

/-- Two texts that compare so. -/
structure Pair (V : Int) (a b : ByteArray) : Prop where
  val : cmpV a.data.toList b.data.toList = V
  la : a.size ≤ 1000
  lb : b.size ≤ 1000

theorem Pair.diff {V : Int} {a b : ByteArray} (h : Pair V a b) {ra rb : Int} (ha : rk a.data.toList = ra) (hb : rk b.data.toList = rb) (hn : ra ≠ rb) : Lib.compareInt (ra - rb) 0 = V := by
  obtain ⟨e1, l1, _⟩ := rk_of a.data.toList
  obtain ⟨e2, l2, _⟩ := rk_of b.data.toList
  obtain ⟨k1, _, k3, _⟩ := rkOf_lt l1 l2
  have k2 := (rkOf_lt l2 l1).1
  rw [← h.val]
  rw [e1] at ha
  rw [e2] at hb
  subst ha hb
  rw [cmpV_diff (fun e => hn (k3.2 e))]
  unfold Lib.compareInt
  by_cases h1 : wt a.data.toList < wt b.data.toList
  · rw [if_pos h1, if_pos (by have := k1.2 h1; omega)]
  · have : wt b.data.toList < wt a.data.toList := by
      have : wt a.data.toList ≠ wt b.data.toList := fun e => hn (k3.2 e)
      omega
    have h2 := k2.2 this
    rw [if_neg h1, if_neg (by omega), if_pos this, if_pos (by omega)]

theorem Pair.skip {V : Int} {a b : ByteArray} (h : Pair V a b) {ra : Int} (ha : rk a.data.toList = ra) (hb : rk b.data.toList = ra) (hn : ra ≠ 1) :
    0 < a.size ∧ 0 < b.size ∧ Pair V (a.extract 1 a.size) (b.extract 1 b.size) ∧ (a.extract 1 a.size).size + 1 = a.size ∧ (b.extract 1 b.size).size + 1 = b.size := by
  obtain ⟨e1, l1, _⟩ := rk_of a.data.toList
  obtain ⟨e2, l2, _⟩ := rk_of b.data.toList
  obtain ⟨_, k2, k3, _⟩ := rkOf_lt l1 l2
  rw [e1] at ha
  rw [e2] at hb
  have h0 : wt a.data.toList ≠ 0 := fun e => hn (ha.symm.trans (k2.2 e))
  have hw : wt a.data.toList = wt b.data.toList := k3.1 (ha.trans hb.symm)
  have na := wt_ne h0
  have nb := wt_ne (by rw [← hw]; exact h0)
  have pa : 0 < a.size := by rw [Lib.size_eq]; exact List.length_pos_iff.2 na
  have pb : 0 < b.size := by rw [Lib.size_eq]; exact List.length_pos_iff.2 nb
  obtain ⟨c, l, q1, _, _, q2, q3⟩ := str_cons a pa
  obtain ⟨c', l', q1', _, _, q2', q3'⟩ := str_cons b pb
  refine ⟨pa, pb, ⟨?_, by have := h.la; omega, by have := h.lb; omega⟩, q3, q3'⟩
  rw [q2, q2', ← h.val, cmpV_skip h0 hw, q1, q1']
  rfl

theorem rk_one {a : ByteArray} (h : rk a.data.toList = 1) : wt a.data.toList = 0 := by
  obtain ⟨e1, l1, _⟩ := rk_of a.data.toList
  rw [e1] at h
  exact (rkOf_lt l1 l1).2.1.1 h

/-- The digits that have been taken, and what is left. -/
structure DigInv (A : List UInt8) (a x : ByteArray) : Prop where
  rest : a.data.toList.dropWhile dig = A.dropWhile dig
  acc : x.data.toList ++ (if x.size = 0 then strip0 (a.data.toList.takeWhile dig) else a.data.toList.takeWhile dig) = strip0 (A.takeWhile dig)
  len : x.size + a.size ≤ A.length

theorem DigInv.start (a : ByteArray) : DigInv a.data.toList a ⟨#[]⟩ := ⟨rfl, by show [] ++ (if (0 : Nat) = 0 then _ else _) = _; rw [if_pos rfl]; rfl, by show 0 + a.size ≤ _; rw [Lib.size_eq]; omega⟩

theorem DigInv.done {A : List UInt8} {a x : ByteArray} (h : DigInv A a x) (he : a.size = 0 ∨ ∃ h0 : 0 < a.size, dig a[0] = false) : x.data.toList = strip0 (A.takeWhile dig) ∧ a.data.toList = A.dropWhile dig := by
  have ht : a.data.toList.takeWhile dig = [] ∧ a.data.toList.dropWhile dig = a.data.toList := by
    rcases he with he | ⟨h0, hd⟩
    · rw [(str_nil a he).1]; exact ⟨rfl, rfl⟩
    · obtain ⟨c, l, e1, e2, _⟩ := str_cons a h0
      rw [e2] at hd
      rw [e1]
      simp [hd]
  refine ⟨?_, by rw [← ht.2]; exact h.rest⟩
  have := h.acc
  rw [ht.1] at this
  simpa [strip0] using this

theorem DigInv.step {A : List UInt8} {a x : ByteArray} (h : DigInv A a x) (h0 : 0 < a.size) (hd : dig a[0] = true) (hk : x.size ≠ 0 ∨ a[0].toNat ≠ 48) :
    DigInv A (a.extract 1 a.size) (x ++ a.extract 0 1) := by
  obtain ⟨c, l, e1, e2, _, e4, e5⟩ := str_cons a h0
  rw [e2] at hd hk
  have e6 : (a.extract 0 1).data.toList = [c] := by rw [Lib.extract_data, e1]; simp
  have e7 : (x ++ a.extract 0 1).data.toList = x.data.toList ++ [c] := by
    rw [ByteArray.data_append, Array.toList_append, e6]
  have e8 : (x ++ a.extract 0 1).size = x.size + 1 := by rw [Lib.size_eq, e7, List.length_append, ← Lib.size_eq]; rfl
  refine ⟨?_, ?_, by have := h.len; omega⟩
  · have := h.rest
    rw [e1, List.dropWhile_cons, if_pos hd] at this
    rw [e4]
    exact this
  · have := h.acc
    rw [e1, List.takeWhile_cons, if_pos hd] at this
    rw [e7, if_neg (by omega), e4, ← this]
    by_cases hx : x.size = 0
    · have hc : c.toNat ≠ 48 := by
        rcases hk with k | k
        · exact absurd hx k
        · exact k
      rw [if_pos hx]
      simp [strip0, List.dropWhile_cons, hc]
    · rw [if_neg hx]
      simp

theorem DigInv.skip {A : List UInt8} {a x : ByteArray} (h : DigInv A a x) (h0 : 0 < a.size) (hd : dig a[0] = true) (hx : x.size = 0) (hc : a[0].toNat = 48) :
    DigInv A (a.extract 1 a.size) x := by
  obtain ⟨c, l, e1, e2, _, e4, e5⟩ := str_cons a h0
  rw [e2] at hd hc
  refine ⟨?_, ?_, by have := h.len; omega⟩
  · have := h.rest
    rw [e1, List.dropWhile_cons, if_pos hd] at this
    rw [e4]
    exact this
  · have := h.acc
    rw [e1, List.takeWhile_cons, if_pos hd, if_pos hx] at this
    rw [if_pos hx, e4, ← this]
    simp [strip0, List.dropWhile_cons, hc]

/-- What comes of the numbers at the heads. -/
theorem Pair.num {V : Int} {a b a3 b3 x y : ByteArray} (h : Pair V a b) (hz : wt a.data.toList = 0 ∧ wt b.data.toList = 0) (hx : x.data.toList = strip0 (a.data.toList.takeWhile dig) ∧ a3.data.toList = a.data.toList.dropWhile dig)
    (hy : y.data.toList = strip0 (b.data.toList.takeWhile dig) ∧ b3.data.toList = b.data.toList.dropWhile dig) :
    (x.size ≠ y.size → Lib.compareInt (x.size : Int) (y.size : Int) = V) ∧
    (x.size = y.size → Lib.compareBytes x.data.toList y.data.toList ≠ 0 → Lib.compareBytes x.data.toList y.data.toList = V) ∧
    (x.size = y.size → Lib.compareBytes x.data.toList y.data.toList = 0 → a.size + b.size ≠ 0 → Pair V a3 b3 ∧ a3.size + b3.size < a.size + b.size) ∧
    (x.size = y.size → Lib.compareBytes x.data.toList y.data.toList = 0 → a.size + b.size = 0 → V = 0) := by
  obtain ⟨x1, x2⟩ := hx
  obtain ⟨y1, y2⟩ := hy
  rw [Lib.size_eq x, Lib.size_eq y, x1, y1, ← h.val]
  refine ⟨fun hn => (cmpV_len hz.1 hz.2 hn).symm, fun hl hc => (cmpV_num hz.1 hz.2 hl hc).symm, fun hl hc hne => ?_, fun hl hc he => ?_⟩
  · have l1 := dropWhile_le dig a.data.toList
    have l2 := dropWhile_le dig b.data.toList
    have s1 := Lib.size_eq a
    have s2 := Lib.size_eq b
    have s3 := Lib.size_eq a3
    have s4 := Lib.size_eq b3
    rw [x2] at s3
    rw [y2] at s4
    refine ⟨⟨?_, by have := h.la; omega, by have := h.lb; omega⟩, ?_⟩
    · rw [x2, y2, ← cmpV_next hz.1 hz.2 hl hc]
    · by_cases ha : a.data.toList = []
      · have hb : b.data.toList ≠ [] := by
          intro e
          rw [ha, List.length_nil] at s1
          rw [e, List.length_nil] at s2
          omega
        have := dropWhile_lt hz.2 hb
        omega
      · have := dropWhile_lt hz.1 ha
        omega
  · have e1 := (str_nil a (by omega)).1
    have e2 := (str_nil b (by omega)).1
    rw [e1, e2, cmpV_nil]

theorem compareInt_sub (x y : Int) : Lib.compareInt (x - y) 0 = Lib.compareInt x y := by
  unfold Lib.compareInt
  split <;> split <;> (try split) <;> omega
theorem compareInt_self0 {n : Int} (h : n = -1 ∨ n = 0 ∨ n = 1) : Lib.compareInt n 0 = n := by
  rcases h with h | h | h <;> subst h <;> rfl
theorem eq_of_data {x y : ByteArray} : (x.toList == y.toList) = decide (Lib.compareBytes x.data.toList y.data.toList = 0) := by
  rw [Lib.toList_data, Lib.toList_data, Bool.eq_iff_iff, decide_eq_true_iff, compareBytes_zero, beq_iff_eq]

set_option maxHeartbeats 4000000 in
theorem half_calls (a b : ByteArray) (w : World) (ha : a.size ≤ 1000) (hb : b.size ≤ 1000) :
    Calls Tryz.prog 117 #[.string a, .string b] w fun e w' => e = .returned (.int .i64 (cmpV a.data.toList b.data.toList)) ∧ Below w.heap.size w w' := by
  obtain ⟨V, hV⟩ : ∃ V, cmpV a.data.toList b.data.toList = V := ⟨_, rfl⟩
  rw [hV]
  have hP : Pair V a b := ⟨hV, ha, hb⟩
  clear hV ha hb
  go_enter Tryz.func117, Tryz.ntmps117
  go_wp2_with fail
  go_loopg [0, 1] (a.size + b.size) (fun k v0 v1 wr => ∃ a' b', v0 = .string a' ∧ v1 = .string b' ∧ Pair V a' b' ∧ k = a'.size + b'.size ∧ Below w.heap.size w wr)
  case atStart => exact ⟨a, b, rfl, rfl, hP, rfl, Below.refl _ _⟩
  case round =>
    clear hP
    obtain ⟨a1, b1, rfl, rfl, hP, hk, hB⟩ := hrel
    have Hk := Lib.hid hk
    clear hk
    obtain ⟨wo, rfl⟩ : ∃ wo : World, wo = wr := ⟨_, rfl⟩
    go_upto_block 2 with (fail)
    go_cut [0, 1] (fun v0 v1 wx => ∃ a2 b2, v0 = .string a2 ∧ v1 = .string b2 ∧ Pair V a2 b2 ∧ (wt a2.data.toList = 0 ∧ wt b2.data.toList = 0) ∧ a2.size + b2.size ≤ a1.size + b1.size ∧ Below w.heap.size w wx)
    case first =>
      go_wp2_with fail
      go_loopg [0, 1] (a1.size + b1.size) (fun k v0 v1 wr => ∃ a' b', v0 = .string a' ∧ v1 = .string b' ∧ Pair V a' b' ∧ k = a'.size + b'.size ∧ k ≤ a1.size + b1.size ∧ Below w.heap.size w wr)
      case atStart => exact ⟨a1, b1, rfl, rfl, hP, rfl, Nat.le_refl _, hB⟩
      case round =>
        clear hP hB
        obtain ⟨a2, b2, rfl, rfl, hP, hk2, hle, hB⟩ := hrel
        obtain ⟨ra, hra⟩ : ∃ r, rk a2.data.toList = r := ⟨_, rfl⟩
        obtain ⟨rb, hrb⟩ : ∃ r, rk b2.data.toList = r := ⟨_, rfl⟩
        have Hra := Lib.hid hra
        have Hrb := Lib.hid hrb
        have HP := Lib.hid hP
        have Hk2 := Lib.hid hk2
        clear hra hrb hP hk2
        by_cases h12 : ra = 1 ∧ rb = 1
        · have t1 : (ra != 1) = false := by simp [h12.1]
          have t2 : (rb != 1) = false := by simp [h12.2]
          have HZ := Lib.hid (And.intro (rk_one (Hra.out.trans h12.1)) (rk_one (Hrb.out.trans h12.2)))
          clear h12
          go_wp2_with fail
          refine (rank_at _ _ Hra.out _).mono ?_
          rintro e w' ⟨rfl, rfl⟩
          go_wp2_with fail
          refine (rank_at _ _ Hrb.out _).mono ?_
          rintro e w' ⟨rfl, rfl⟩
          go_wp2_with fail
          go_meet
          exact ⟨a2, b2, rfl, rfl, HP.out, HZ.out, by have := Hk2.out; omega, hB⟩
        · by_cases hab : ra = rb
          · subst hab
            have hn : ra ≠ 1 := fun e => h12 ⟨e, e⟩
            have t1 : (ra != 1) = true := by simp [hn]
            have t2 : (ra != ra) = false := by simp
            obtain ⟨p1, p2, hS, l1, l2⟩ := HP.out.skip Hra.out Hrb.out hn
            have HS := Lib.hid hS
            have L1 := Lib.hid l1
            have L2 := Lib.hid l2
            have q1 : (1 : Int) ≤ (a2.size : Int) := by omega
            have q2 : (1 : Int) ≤ (b2.size : Int) := by omega
            clear hS h12 hn l1 l2
            go_wp2_with fail
            refine (rank_at _ _ Hra.out _).mono ?_
            rintro e w' ⟨rfl, rfl⟩
            go_wp2_with fail
            refine (rank_at _ _ Hra.out _).mono ?_
            rintro e w' ⟨rfl, rfl⟩
            go_wp2_with fail
            refine (rank_at _ _ Hrb.out _).mono ?_
            rintro e w' ⟨rfl, rfl⟩
            go_wp2_with fail
            go_quiet (fail)
            go_wp2_with fail
            go_roundg ((a2.extract 1 a2.size).size + (b2.extract 1 b2.size).size)
            case rel => exact ⟨_, _, rfl, rfl, HS.out, rfl, by have := L1.out; have := L2.out; have := Hk2.out; omega, below_drewN hB _⟩
            case measure => have := L1.out; have := L2.out; have := Hk2.out; omega
          · have t1 : (ra != rb) = true := by simp [hab]
            have HV := Lib.hid (HP.out.diff Hra.out Hrb.out hab)
            have hr : 0 ≤ ra ∧ ra < 1000 := by rw [← Hra.out]; have := rk_of a2.data.toList; have := (rkOf_lt this.2.1 this.2.1).2.2.2; have hx := (rk_of a2.data.toList).1; constructor
                                               · omega
                                               · rw [hx]; unfold rkOf; split <;> (try split) <;> (try split) <;> omega
            have hr' : 0 ≤ rb ∧ rb < 1000 := by rw [← Hrb.out]; have := rk_of b2.data.toList; have := (rkOf_lt this.2.1 this.2.1).2.2.2; have hx := (rk_of b2.data.toList).1; constructor
                                                · omega
                                                · rw [hx]; unfold rkOf; split <;> (try split) <;> (try split) <;> omega
            obtain ⟨r1, r2⟩ := hr
            obtain ⟨r3, r4⟩ := hr'
            clear hab
            by_cases h1 : ra = 1
            · have t2 : (ra != 1) = false := by simp [h1]
              have t3 : (rb != 1) = true := by simp; exact fun e => h12 ⟨h1, e⟩
              clear h1 h12
              go_wp2_with fail
              refine (rank_at _ _ Hra.out _).mono ?_
              rintro e w' ⟨rfl, rfl⟩
              go_wp2_with fail
              refine (rank_at _ _ Hrb.out _).mono ?_
              rintro e w' ⟨rfl, rfl⟩
              go_wp2_with fail
              refine (rank_at _ _ Hra.out _).mono ?_
              rintro e w' ⟨rfl, rfl⟩
              go_wp2_with fail
              refine (rank_at _ _ Hrb.out _).mono ?_
              rintro e w' ⟨rfl, rfl⟩
              go_wp2_with fail
              refine (rank_at _ _ Hra.out _).mono ?_
              rintro e w' ⟨rfl, rfl⟩
              go_wp2_with fail
              refine (rank_at _ _ Hrb.out _).mono ?_
              rintro e w' ⟨rfl, rfl⟩
              go_wp2_with fail
              refine (refSign_calls _ _).mono ?_
              rintro e w' ⟨rfl, rfl⟩
              go_wp2_with fail
              go_ret
              exact ⟨ret_int HV.out, hB⟩
            · have t2 : (ra != 1) = true := by simp [h1]
              clear h1 h12
              go_wp2_with fail
              refine (rank_at _ _ Hra.out _).mono ?_
              rintro e w' ⟨rfl, rfl⟩
              go_wp2_with fail
              refine (rank_at _ _ Hra.out _).mono ?_
              rintro e w' ⟨rfl, rfl⟩
              go_wp2_with fail
              refine (rank_at _ _ Hrb.out _).mono ?_
              rintro e w' ⟨rfl, rfl⟩
              go_wp2_with fail
              refine (rank_at _ _ Hra.out _).mono ?_
              rintro e w' ⟨rfl, rfl⟩
              go_wp2_with fail
              refine (rank_at _ _ Hrb.out _).mono ?_
              rintro e w' ⟨rfl, rfl⟩
              go_wp2_with fail
              refine (refSign_calls _ _).mono ?_
              rintro e w' ⟨rfl, rfl⟩
              go_wp2_with fail
              go_ret
              exact ⟨ret_int HV.out, hB⟩
    case rest =>
      clear hP hB
      obtain ⟨a2, b2, rfl, rfl, hP, hZ, hle, hB⟩ := hcut
      have HP := Lib.hid hP
      have HZ := Lib.hid hZ
      clear hP hZ
      by_cases hz : a2.size = 0 ∧ b2.size = 0
      · have z1 := (str_nil a2 hz.1).2
        have z2 := (str_nil b2 hz.2).2
        have hV : cmpV a2.data.toList b2.data.toList = 0 := by rw [(str_nil a2 hz.1).1, (str_nil b2 hz.2).1, cmpV_nil]
        have HV := Lib.hid (hV.symm.trans HP.out.val)
        clear hz hV
        go_wp2_with fail
        go_ret
        exact ⟨ret_int HV.out, hB⟩
      · have z : (a2.toList.isEmpty = true ∧ b2.toList.isEmpty = false) ∨ a2.toList.isEmpty = false := by
          rcases Nat.eq_zero_or_pos a2.size with k | k
          · have k2 : 0 < b2.size := by omega
            obtain ⟨_, _, -, -, e, -⟩ := str_cons b2 k2
            exact Or.inl ⟨(str_nil a2 k).2, e⟩
          · obtain ⟨_, _, -, -, e, -⟩ := str_cons a2 k
            exact Or.inr e
        have HL : Hid (a2.size + b2.size ≠ 0) := by show a2.size + b2.size ≠ 0; omega
        clear hz
        rcases z with ⟨z1, z2⟩ | z1
        all_goals
          go_upto_block 4 with (fail)
          go_cut [0, 5] (fun v0 v5 wx => ∃ a3 x, v0 = .string a3 ∧ v5 = .string x ∧ (x.data.toList = strip0 (a2.data.toList.takeWhile dig) ∧ a3.data.toList = a2.data.toList.dropWhile dig) ∧ Below w.heap.size w wx)
          case first =>
            go_wp2_with fail
            obtain ⟨wo2, rfl⟩ : ∃ wo : World, wo = wc := ⟨_, rfl⟩
            go_loopg [0, 5] a2.size (fun k v0 v5 wr => ∃ a3 x, v0 = .string a3 ∧ v5 = .string x ∧ DigInv a2.data.toList a3 x ∧ k = a3.size ∧ Below w.heap.size w wr)
            case atStart => exact ⟨a2, _, rfl, rfl, DigInv.start a2, rfl, hB⟩
            case round =>
              clear hB
              obtain ⟨a3, x, rfl, rfl, hD, hk3, hB⟩ := hrel
              have HD := Lib.hid hD
              have Hk3 := Lib.hid hk3
              clear hD hk3
              rcases Nat.eq_zero_or_pos a3.size with h0 | h0
              · have HF := Lib.hid (HD.out.done (Or.inl h0))
                have e0 := (str_nil a3 h0).2
                clear h0
                go_wp2_with fail
                go_meet
                exact ⟨a3, x, rfl, rfl, HF.out, hB⟩
              · obtain ⟨_, _, -, -, e0, -, e9⟩ := str_cons a3 h0
                have H9 := Lib.hid e9
                clear e9
                by_cases hd : dig a3[0] = true
                · have HN : Hid (x.size ≠ 0 → DigInv a2.data.toList (a3.extract 1 a3.size) (x ++ a3.extract 0 1)) := fun h => HD.out.step h0 hd (Or.inl h)
                  have HM : Hid (a3[0].toNat ≠ 48 → DigInv a2.data.toList (a3.extract 1 a3.size) (x ++ a3.extract 0 1)) := fun h => HD.out.step h0 hd (Or.inr h)
                  have HS : Hid (x.size = 0 → a3[0].toNat = 48 → DigInv a2.data.toList (a3.extract 1 a3.size) x) := fun h h' => HD.out.skip h0 hd h h'
                  have hxs : x.size ≤ 1000 := by have := HD.out.len; have := HP.out.la; have := HP.out.lb; have := Lib.size_eq a2; have := Lib.size_eq b2; omega
                  have hb : (a3[0].toNat : Int) < 256 := by have := a3[0].toNat_lt; omega
                  rcases Nat.eq_zero_or_pos x.size with hx | hx
                  · have ex := (str_nil x hx).2
                    have HX := Lib.hid hx
                    clear hx
                    by_cases hc : a3[0].toNat = 48
                    · have ec : ((a3[0].toNat : Int) != 48) = false := by rw [hc]; rfl
                      have HC := Lib.hid hc
                      clear hc
                      go_wp2_with fail
                      refine (digit_calls _ _).mono ?_
                      rintro e w' ⟨rfl, rfl⟩
                      go_wp2_with fail
                      go_roundg (a3.extract 1 a3.size).size
                      case rel => exact ⟨_, x, rfl, rfl, HS.out HX.out HC.out, rfl, hB⟩
                      case measure => have := H9.out; have := Hk3.out; omega
                    · have ec : ((a3[0].toNat : Int) != 48) = true := by rw [bne_iff_ne]; omega
                      have HC := Lib.hid hc
                      clear hc
                      go_wp2_with fail
                      refine (digit_calls _ _).mono ?_
                      rintro e w' ⟨rfl, rfl⟩
                      go_wp2_with fail
                      go_roundg (a3.extract 1 a3.size).size
                      case rel => exact ⟨_, _, rfl, rfl, HM.out HC.out, rfl, hB⟩
                      case measure => have := H9.out; have := Hk3.out; omega
                  · obtain ⟨_, _, -, -, ex, -, -⟩ := str_cons x hx
                    have HX := Lib.hid (Nat.ne_of_gt hx)
                    clear hx
                    go_wp2_with fail
                    refine (digit_calls _ _).mono ?_
                    rintro e w' ⟨rfl, rfl⟩
                    go_wp2_with fail
                    go_roundg (a3.extract 1 a3.size).size
                    case rel => exact ⟨_, _, rfl, rfl, HN.out HX.out, rfl, hB⟩
                    case measure => have := H9.out; have := Hk3.out; omega
                · rw [Bool.not_eq_true] at hd
                  have HF := Lib.hid (HD.out.done (Or.inr ⟨h0, hd⟩))
                  go_wp2_with fail
                  refine (digit_calls _ _).mono ?_
                  rintro e w' ⟨rfl, rfl⟩
                  go_wp2_with fail
                  go_meet
                  exact ⟨a3, x, rfl, rfl, HF.out, hB⟩
          case rest =>
            clear hB
            obtain ⟨a3, x, rfl, rfl, hX, hB⟩ := hcut
            have HX := Lib.hid hX
            clear hX
            go_upto_block 6 with (fail)
            go_cut [1, 6] (fun v0 v5 wx => ∃ a3 x, v0 = .string a3 ∧ v5 = .string x ∧ (x.data.toList = strip0 (b2.data.toList.takeWhile dig) ∧ a3.data.toList = b2.data.toList.dropWhile dig) ∧ Below w.heap.size w wx)
            case first =>
              go_wp2_with fail
              obtain ⟨wo2, rfl⟩ : ∃ wo : World, wo = wc := ⟨_, rfl⟩
              go_loopg [1, 6] b2.size (fun k v0 v5 wr => ∃ a3 x, v0 = .string a3 ∧ v5 = .string x ∧ DigInv b2.data.toList a3 x ∧ k = a3.size ∧ Below w.heap.size w wr)
              case atStart => exact ⟨b2, _, rfl, rfl, DigInv.start b2, rfl, hB⟩
              case round =>
                clear hB
                obtain ⟨a3, x, rfl, rfl, hD, hk3, hB⟩ := hrel
                have HD := Lib.hid hD
                have Hk3 := Lib.hid hk3
                clear hD hk3
                rcases Nat.eq_zero_or_pos a3.size with h0 | h0
                · have HF := Lib.hid (HD.out.done (Or.inl h0))
                  have e0 := (str_nil a3 h0).2
                  clear h0
                  go_wp2_with fail
                  go_meet
                  exact ⟨a3, x, rfl, rfl, HF.out, hB⟩
                · obtain ⟨_, _, -, -, e0, -, e9⟩ := str_cons a3 h0
                  have H9 := Lib.hid e9
                  clear e9
                  by_cases hd : dig a3[0] = true
                  · have HN : Hid (x.size ≠ 0 → DigInv b2.data.toList (a3.extract 1 a3.size) (x ++ a3.extract 0 1)) := fun h => HD.out.step h0 hd (Or.inl h)
                    have HM : Hid (a3[0].toNat ≠ 48 → DigInv b2.data.toList (a3.extract 1 a3.size) (x ++ a3.extract 0 1)) := fun h => HD.out.step h0 hd (Or.inr h)
                    have HS : Hid (x.size = 0 → a3[0].toNat = 48 → DigInv b2.data.toList (a3.extract 1 a3.size) x) := fun h h' => HD.out.skip h0 hd h h'
                    have hxs : x.size ≤ 1000 := by have := HD.out.len; have := HP.out.la; have := HP.out.lb; have := Lib.size_eq a2; have := Lib.size_eq b2; omega
                    have hb : (a3[0].toNat : Int) < 256 := by have := a3[0].toNat_lt; omega
                    rcases Nat.eq_zero_or_pos x.size with hx | hx
                    · have ex := (str_nil x hx).2
                      have HX := Lib.hid hx
                      clear hx
                      by_cases hc : a3[0].toNat = 48
                      · have ec : ((a3[0].toNat : Int) != 48) = false := by rw [hc]; rfl
                        have HC := Lib.hid hc
                        clear hc
                        go_wp2_with fail
                        refine (digit_calls _ _).mono ?_
                        rintro e w' ⟨rfl, rfl⟩
                        go_wp2_with fail
                        go_roundg (a3.extract 1 a3.size).size
                        case rel => exact ⟨_, x, rfl, rfl, HS.out HX.out HC.out, rfl, hB⟩
                        case measure => have := H9.out; have := Hk3.out; omega
                      · have ec : ((a3[0].toNat : Int) != 48) = true := by rw [bne_iff_ne]; omega
                        have HC := Lib.hid hc
                        clear hc
                        go_wp2_with fail
                        refine (digit_calls _ _).mono ?_
                        rintro e w' ⟨rfl, rfl⟩
                        go_wp2_with fail
                        go_roundg (a3.extract 1 a3.size).size
                        case rel => exact ⟨_, _, rfl, rfl, HM.out HC.out, rfl, hB⟩
                        case measure => have := H9.out; have := Hk3.out; omega
                    · obtain ⟨_, _, -, -, ex, -, -⟩ := str_cons x hx
                      have HX := Lib.hid (Nat.ne_of_gt hx)
                      clear hx
                      go_wp2_with fail
                      refine (digit_calls _ _).mono ?_
                      rintro e w' ⟨rfl, rfl⟩
                      go_wp2_with fail
                      go_roundg (a3.extract 1 a3.size).size
                      case rel => exact ⟨_, _, rfl, rfl, HN.out HX.out, rfl, hB⟩
                      case measure => have := H9.out; have := Hk3.out; omega
                  · rw [Bool.not_eq_true] at hd
                    have HF := Lib.hid (HD.out.done (Or.inr ⟨h0, hd⟩))
                    go_wp2_with fail
                    refine (digit_calls _ _).mono ?_
                    rintro e w' ⟨rfl, rfl⟩
                    go_wp2_with fail
                    go_meet
                    exact ⟨a3, x, rfl, rfl, HF.out, hB⟩
            case rest =>
              clear hB
              obtain ⟨b3, y, rfl, rfl, hY, hB⟩ := hcut
              have HY := Lib.hid hY
              clear hY
              have Q := HP.out.num HZ.out HX.out HY.out
              have HQ := Lib.hid Q
              clear Q
              have hxs : x.size ≤ 1000 := by
                have h1 := congrArg List.length HX.out.1
                have h2 := dropWhile_le (fun c => c.toNat == 48) (a2.data.toList.takeWhile dig)
                have h3 := (digits_head a2.data.toList).1
                have h4 := congrArg List.length h3
                rw [List.length_take] at h4
                have := HP.out.la
                have := Lib.size_eq a2
                have := Lib.size_eq x
                unfold strip0 at h1
                omega
              have hys : y.size ≤ 1000 := by
                have h1 := congrArg List.length HY.out.1
                have h2 := dropWhile_le (fun c => c.toNat == 48) (b2.data.toList.takeWhile dig)
                have h3 := (digits_head b2.data.toList).1
                have h4 := congrArg List.length h3
                rw [List.length_take] at h4
                have := HP.out.lb
                have := Lib.size_eq b2
                have := Lib.size_eq y
                unfold strip0 at h1
                omega
              by_cases hl : x.size = y.size
              · have tl : ((x.size : Int) != (y.size : Int)) = false := by simp [hl]
                have HL2 := Lib.hid hl
                clear hl
                by_cases hc : Lib.compareBytes x.data.toList y.data.toList = 0
                · have tc : (x.toList == y.toList) = true := by rw [eq_of_data, decide_eq_true_iff]; exact hc
                  have HR := Lib.hid (HQ.out.2.2.1 HL2.out hc HL.out)
                  clear hc
                  go_wp2_with fail
                  go_roundg (a3.size + b3.size)
                  case rel => exact ⟨a3, b3, rfl, rfl, HR.out.1, rfl, hB⟩
                  case measure => have := HR.out.2; have := Hk.out; omega
                · have tc : (x.toList == y.toList) = false := by rw [eq_of_data, decide_eq_false_iff_not]; exact hc
                  have HV := Lib.hid (HQ.out.2.1 HL2.out hc)
                  clear hc
                  go_wp2_with fail
                  refine (Tryz.strings_Compare _ _ _).mono ?_
                  rintro e w' ⟨rfl, rfl⟩
                  go_wp2_with fail
                  refine (refSign_calls _ _).mono ?_
                  rintro e w' ⟨rfl, rfl⟩
                  go_wp2_with fail
                  go_ret
                  exact ⟨ret_int ((compareInt_self0 (compareBytes_range _ _)).trans HV.out), hB⟩
              · have tl : ((x.size : Int) != (y.size : Int)) = true := by rw [bne_iff_ne]; omega
                have HV := Lib.hid (HQ.out.1 hl)
                clear hl
                go_wp2_with fail
                refine (refSign_calls _ _).mono ?_
                rintro e w' ⟨rfl, rfl⟩
                go_wp2_with fail
                go_ret
                exact ⟨ret_int ((compareInt_sub _ _).trans HV.out), hB⟩
end Go.Proofs.YtnfnebfioibndaaGreatDoor
namespace Go.Proofs.YtnfnebfioibndaaGreatDoor
open Go.RowKit
set_option maxRecDepth 100000


theorem trimDigits (s : ByteArray) (w : World) :
    Calls Tryz.prog 120 #[.string s, .string ⟨#[48, 49, 50, 51, 52, 53, 54, 55, 56, 57]⟩] w fun e w' => ∃ r : ByteArray, e = .returned (.string r) ∧ r.data.toList = s.data.toList.dropWhile dig ∧ Below w.heap.size w w' := by
  have hcon := Any.strings_TrimLeft_laid Tryz.lays161 (by kernel_rfl) s ⟨#[48, 49, 50, 51, 52, 53, 54, 55, 56, 57]⟩ w (by decide) (ascii_of_all (by decide))
  refine Calls.mono hcon ?_
  rintro e w' ⟨rfl, hb⟩
  refine ⟨_, rfl, ?_, hb⟩
  show Lib.trimLeftS _ _ = _
  unfold Lib.trimLeftS
  congr 1
  funext c
  exact contains_digits c

theorem trimNoughts (s : ByteArray) (w : World) :
    Calls Tryz.prog 120 #[.string s, .string ⟨#[48]⟩] w fun e w' => ∃ r : ByteArray, e = .returned (.string r) ∧ r.data.toList = strip0 s.data.toList ∧ Below w.heap.size w w' := by
  have hcon := Any.strings_TrimLeft_laid Tryz.lays161 (by kernel_rfl) s ⟨#[48]⟩ w (by decide) (ascii_of_all (by decide))
  refine Calls.mono hcon ?_
  rintro e w' ⟨rfl, hb⟩
  refine ⟨_, rfl, ?_, hb⟩
  show Lib.trimLeftS _ _ = _
  unfold Lib.trimLeftS strip0
  congr 1
  funext c
  exact contains_nought c

theorem or2_calls (x y : Int) (b : Nat) (w : World) (h0 : w.cell? ⟨b, 0, none⟩ = some (.int .i64 x)) (h1 : w.cell? ⟨b, 1, none⟩ = some (.int .i64 y)) :
    Calls Tryz.prog 110 #[.slice (some ⟨b, 0, none⟩) 2 2] w fun e w' => e = .returned (.int .i64 (if x = 0 then y else x)) ∧ w = w' := by
  by_cases hx : x = 0
  · have tx : (x != 0) = false := by simp [hx]
    rw [if_pos hx]
    clear hx
    by_cases hy : y = 0
    · have ty : (y != 0) = false := by simp [hy]
      have HY := Lib.hid hy
      clear hy
      go_enter Tryz.func110, Tryz.ntmps110
      go_wp2_with fail
      go_rounds 3
      go_ret
      exact ⟨ret_int HY.out.symm, rfl⟩
    · have ty : (y != 0) = true := by simp [hy]
      clear hy
      go_enter Tryz.func110, Tryz.ntmps110
      go_wp2_with fail
      go_rounds 3
      go_ret
      exact ⟨rfl, rfl⟩
  · have tx : (x != 0) = true := by simp [hx]
    rw [if_neg hx]
    clear hx
    go_enter Tryz.func110, Tryz.ntmps110
    go_wp2_with fail
    go_rounds 3
    go_ret
    exact ⟨rfl, rfl⟩

theorem or3_calls (x y z : Int) (b : Nat) (w : World) (h0 : w.cell? ⟨b, 0, none⟩ = some (.int .i64 x)) (h1 : w.cell? ⟨b, 1, none⟩ = some (.int .i64 y)) (h2 : w.cell? ⟨b, 2, none⟩ = some (.int .i64 z)) :
    Calls Tryz.prog 110 #[.slice (some ⟨b, 0, none⟩) 3 3] w fun e w' => e = .returned (.int .i64 (if x = 0 then (if y = 0 then z else y) else x)) ∧ w = w' := by
  by_cases hx : x = 0
  · have tx : (x != 0) = false := by simp [hx]
    rw [if_pos hx]
    clear hx
    by_cases hy : y = 0
    · have ty : (y != 0) = false := by simp [hy]
      rw [if_pos hy]
      clear hy
      by_cases hz : z = 0
      · have tz : (z != 0) = false := by simp [hz]
        have HZ := Lib.hid hz
        clear hz
        go_enter Tryz.func110, Tryz.ntmps110
        go_wp2_with fail
        go_rounds 4
        go_ret
        exact ⟨ret_int HZ.out.symm, rfl⟩
      · have tz : (z != 0) = true := by simp [hz]
        clear hz
        go_enter Tryz.func110, Tryz.ntmps110
        go_wp2_with fail
        go_rounds 4
        go_ret
        exact ⟨rfl, rfl⟩
    · have ty : (y != 0) = true := by simp [hy]
      rw [if_neg hy]
      clear hy
      go_enter Tryz.func110, Tryz.ntmps110
      go_wp2_with fail
      go_rounds 4
      go_ret
      exact ⟨rfl, rfl⟩
  · have tx : (x != 0) = true := by simp [hx]
    rw [if_neg hx]
    clear hx
    go_enter Tryz.func110, Tryz.ntmps110
    go_wp2_with fail
    go_rounds 4
    go_ret
    exact ⟨rfl, rfl⟩

theorem isDig_calls (c : UInt8) (w : World) :
    Calls Tryz.prog 125 #[.string ⟨#[48, 49, 50, 51, 52, 53, 54, 55, 56, 57]⟩, .int .u8 (c.toNat : Int)] w fun e w' => ∃ k : Int, e = .returned (.int .i64 k) ∧ decide (0 ≤ k) = dig c ∧ w = w' := by
  refine (Tryz.strings_IndexByte _ _ w).mono ?_
  rintro e w' ⟨rfl, rfl⟩
  refine ⟨_, rfl, ?_, rfl⟩
  rw [← index_digits c]
  have e1 : (c.toNat : Int).toNat.toUInt8 = c := by simp
  rw [e1]
theorem isLtr_calls (c : UInt8) (w : World) :
    Calls Tryz.prog 125 #[.string ⟨#[97, 98, 99, 100, 101, 102, 103, 104, 105, 106, 107, 108, 109, 110, 111, 112, 113, 114, 115, 116, 117, 118, 119, 120, 121, 122, 65, 66, 67, 68, 69, 70, 71, 72, 73, 74, 75, 76, 77, 78, 79, 80, 81, 82, 83, 84, 85, 86, 87, 88, 89, 90]⟩, .int .u8 (c.toNat : Int)] w fun e w' => ∃ k : Int, e = .returned (.int .i64 k) ∧ decide (0 ≤ k) = ltr c ∧ w = w' := by
  refine (Tryz.strings_IndexByte _ _ w).mono ?_
  rintro e w' ⟨rfl, rfl⟩
  refine ⟨_, rfl, ?_, rfl⟩
  rw [← index_letters c]
  have e1 : (c.toNat : Int).toNat.toUInt8 = c := by simp
  rw [e1]
  rfl

set_option maxHeartbeats 1000000 in
theorem weight_calls (s : ByteArray) (w : World) :
    Calls Tryz.prog 119 #[.string s] w fun e w' => e = .returned (.int .i64 (wt s.data.toList)) ∧ w = w' := by
  by_cases hs : s.size = 0
  · obtain ⟨e1, e2⟩ := str_nil s hs
    rw [e1]
    clear e1 hs
    go_enter Tryz.func119, Tryz.ntmps119
    go_wp2
    go_ret
    exact ⟨rfl, rfl⟩
  · have hpos : 0 < s.size := by omega
    obtain ⟨c, l, e1, e2, e3, -, -⟩ := str_cons s hpos
    rw [e1]
    have hb : (s[0].toNat : Int) < 256 := by have := s[0].toNat_lt; omega
    subst e2
    clear e1 hs
    show Calls _ _ _ _ fun e w' => e = .returned (.int .i64 (wtB s[0])) ∧ w = w'
    unfold wtB
    cases hd : dig s[0]
    · by_cases ht : s[0].toNat = 126
      · have ht' : ((s[0].toNat : Int) == 126) = true := by rw [ht]; rfl
        rw [if_neg (by simp), if_pos ht]
        have Hd := Lib.hid hd
        clear ht hd
        go_enter Tryz.func119, Tryz.ntmps119
        go_wp2_with fail
        refine (isDig_calls _ _).mono ?_
        rintro e w' ⟨k, rfl, hk, rfl⟩
        have hk' : k < 0 := by rw [Hd.out, decide_eq_false_iff_not] at hk; omega
        clear hk
        go_wp2_with fail
        go_ret
        exact ⟨rfl, rfl⟩
      · have ht' : ((s[0].toNat : Int) == 126) = false := by simpa using (show (s[0].toNat : Int) ≠ 126 by omega)
        rw [if_neg (by simp), if_neg ht]
        have Hd := Lib.hid hd
        clear ht hd
        cases hl : ltr s[0]
        · have Hl := Lib.hid hl
          clear hl
          go_enter Tryz.func119, Tryz.ntmps119
          go_wp2_with fail
          refine (isDig_calls _ _).mono ?_
          rintro e w' ⟨k, rfl, hk, rfl⟩
          have hk' : k < 0 := by rw [Hd.out, decide_eq_false_iff_not] at hk; omega
          clear hk
          go_wp2_with fail
          refine (isLtr_calls _ _).mono ?_
          rintro e w' ⟨k2, rfl, hk2, rfl⟩
          have hk2' : k2 < 0 := by rw [Hl.out, decide_eq_false_iff_not] at hk2; omega
          clear hk2
          go_wp2_with fail
          go_ret
          exact ⟨rfl, rfl⟩
        · have Hl := Lib.hid hl
          clear hl
          go_enter Tryz.func119, Tryz.ntmps119
          go_wp2_with fail
          refine (isDig_calls _ _).mono ?_
          rintro e w' ⟨k, rfl, hk, rfl⟩
          have hk' : k < 0 := by rw [Hd.out, decide_eq_false_iff_not] at hk; omega
          clear hk
          go_wp2_with fail
          refine (isLtr_calls _ _).mono ?_
          rintro e w' ⟨k2, rfl, hk2, rfl⟩
          have hk2' : 0 ≤ k2 := by rw [Hl.out, decide_eq_true_iff] at hk2; omega
          clear hk2
          go_wp2_with fail
          go_ret
          exact ⟨rfl, rfl⟩
    · rw [if_pos (by simp)]
      have Hd := Lib.hid hd
      clear hd
      go_enter Tryz.func119, Tryz.ntmps119
      go_wp2_with fail
      refine (isDig_calls _ _).mono ?_
      rintro e w' ⟨k, rfl, hk, rfl⟩
      have hk' : 0 ≤ k := by rw [Hd.out, decide_eq_true_iff] at hk; omega
      clear hk
      go_wp2_with fail
      go_ret
      exact ⟨rfl, rfl⟩
end Go.Proofs.YtnfnebfioibndaaGreatDoor
