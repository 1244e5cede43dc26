/- DiskPlays. (Written by gen_diskl.py.) -/
import Derived.Test.YtodmnogoacghpaaDoorDiskSw
namespace Go.Proofs.YtodmnogoacghpaaDoor
open Go.RowKit
set_option maxRecDepth 100000
set_option maxHeartbeats 4000000

theorem diskPlays_calls (v : Value) (l : List ActD) (w : World) (hv : ErrVar w) (hA : Acts w v l) :
    Calls Tryd.prog 3 #[v] w fun e w' => e = .returned (.bool true) ∧ Below w.heap.size w w' := by
  obtain ⟨⟨aa, ca, rfl, hca, hma, hcella⟩, hok⟩ := hA
  unfold maxLen at hma
  obtain ⟨n, hn⟩ : ∃ n, l.length = n := ⟨_, rfl⟩
  rw [hn] at hca hcella ⊢
  have Ha := Lib.hid hcella
  have Hok := Lib.hid (Acts.get hok)
  have Hn := Lib.hid hn
  have Hv := Lib.hid hv
  clear hcella hok hn hv
  by_cases h60 : n > 60
  · have e60 : decide (60 < (n : Int)) = true := decide_eq_true (by omega)
    go_enter Tryd.func3, Tryd.ntmps3
    go_wp2_with fail
    go_ret
    exact ⟨rfl, Below.refl _ _⟩
  have e60 : decide (60 < (n : Int)) = false := decide_eq_false (by omega)
  obtain ⟨w0, hw0⟩ : ∃ w0 : World, w0 = w.alloc (.cells #[.map none, .map none, .int .i64 0, .bool false, .int .i64 0, .bool false] 25) := ⟨_, rfl⟩
  have hz0 : w0.heap.size = w.heap.size + 1 := by rw [hw0]; simp
  have HB0 : Hid (Below w.heap.size w w0) := by rw [hw0]; exact (Below.refl _ _).alloc (Nat.le_refl _) _
  have HP0 : Hid (PDisk w0 w.heap.size [w.heap.size] zeroD) := ⟨_, _, 0, 0, ⟨by rw [hw0]; exact heap_alloc_new w _, (fun h => absurd h (by decide)), (fun h => absurd h (by decide))⟩, Or.inl ⟨rfl, rfl, rfl, rfl⟩⟩
  have HN := Lib.hid (newDisk_calls w0)
  have Hw0 := Lib.hid hw0
  have Hz0 := Lib.hid hz0
  clear hw0 hz0
  go_enter Tryd.func3, Tryd.ntmps3
  go_wp2_with fail
  rw [← Hw0.out]
  go_wp2_with fail
  refine HN.out.mono ?_
  rintro e1 w1 ⟨rfl, hR0, hb0⟩
  have HR0 := Lib.hid hR0
  have Hb0 := Lib.hid hb0
  clear hR0 hb0
  go_wp2_with fail
  have hR0 := HR0.out
  have hb0 := Hb0.out
  clear HR0 Hb0
  obtain ⟨A, hA⟩ : ∃ A, w.heap.size = A := ⟨_, rfl⟩
  obtain ⟨R, hR⟩ : ∃ R, w0.heap.size + 1 = R := ⟨_, rfl⟩
  have HT0 : Hid (Two w1 A [] A R zeroD zeroD) := by
    have hz := Hz0.out
    refine ⟨[A], w0.heap.size, [], ?_, by rw [← hR]; exact hR0, fun k hk => ?_, fun k hk => by rw [List.mem_singleton.1 hk]; exact Nat.le_refl _, ⟨by omega, by omega, fun k hk => by cases hk⟩, fun k hk => by cases hk⟩
    · rw [← hA]
      exact HP0.out.keep fun k hk => hb0.block k (by rw [List.mem_singleton.1 hk]; omega)
    · rw [List.mem_singleton.1 hk]
      exact ⟨by omega, by omega, by simp⟩
  have HB1 := Lib.hid (HB0.out.trans (hb0.mono HB0.out.size))
  rw [hR]
  rw [hA] at HB1 ⊢
  have hAw : A ≤ w.heap.size := by omega
  have hwA : w.heap.size ≤ A := by omega
  have HA := Lib.hid hA
  clear hR0 hb0 HN HP0 HB0 Hw0 hR hA
  try go_frame
  go_loopg [5] n (fun k v5 wr => ∃ (i : Nat) (d : DiskD), v5 = .int .i64 ((i : Nat) : Int) ∧ i ≤ n ∧ k = n - i ∧ Two wr A [] A R d d ∧ GoodD i 200 d ∧ Below A w wr)
  case atStart => exact ⟨0, zeroD, rfl, Nat.zero_le _, rfl, HT0.out, GoodD.zero _ _, HB1.out⟩
  case round =>
    obtain ⟨i, d, rfl, hi, hk, hT, hG, hB⟩ := hrel
    have HT := Lib.hid hT
    have HG := Lib.hid hG
    have HB := Lib.hid hB
    have Hk := Lib.hid hk
    clear hT hG hB hk
    by_cases hlt : i < n
    case' neg =>
      go_wp2_with fail
      go_ret
      exact ⟨rfl, by rw [HA.out]; exact HB.out⟩
    obtain ⟨b, o, rfl, hb, hc⟩ := Ha.out.resolve_left (by omega)
    obtain ⟨⟨⟨what, num⟩, file, dst⟩, hx⟩ : ∃ x : ActD, l.getD i noAct = x := ⟨_, rfl⟩
    have hox := Hok.out i
    rw [hx] at hox
    obtain ⟨⟨hw1, hw2⟩, ⟨hn1, hn2⟩, hf, ht⟩ := hox
    dsimp only at hw1 hw2 hn1 hn2 hf ht
    unfold maxLen at hf ht
    have dc : ∀ j, j < 4 → wr.cell? ⟨b, o + i * 4 + j, none⟩ = some (actCell ((what, num), (file, dst)) j) := fun j hj => (HB.out.cell (p := ⟨b, o + i * 4 + j, none⟩) (show b < A by omega)).trans (by rw [hc i j hlt hj, hx])
    have d0 : wr.cell? ⟨b, o + i * 4, none⟩ = some (.int .i64 what) := dc 0 (by decide)
    have d1 : wr.cell? ⟨b, o + i * 4 + 1, none⟩ = some (.int .i64 num) := dc 1 (by decide)
    have d2 : wr.cell? ⟨b, o + i * 4 + 2, none⟩ = some (.string file) := dc 2 (by decide)
    have d3 : wr.cell? ⟨b, o + i * 4 + 3, none⟩ = some (.string dst) := dc 3 (by decide)
    clear dc hc hx
    by_cases hl1 : 100 < file.size
    case' pos =>
      have e1 : decide ((100 : Int) < (file.size : Int)) = true := decide_eq_true (by omega)
      go_wp2_with fail
      go_roundg (n - (i + 1))
      case rel => exact ⟨i + 1, d, by go_num, by omega, rfl, (HT.out.push _).less, HG.out.mono (Nat.le_succ _) (Nat.le_refl _), HB.out.alloc (Nat.le_trans hAw HB.out.size) _⟩
      case measure => have := Hk.out; omega
    have e1 : decide ((100 : Int) < (file.size : Int)) = false := decide_eq_false (by omega)
    by_cases hl2 : 200 < dst.size
    case' pos =>
      have e2 : decide ((200 : Int) < (dst.size : Int)) = true := decide_eq_true (by omega)
      go_wp2_with fail
      go_roundg (n - (i + 1))
      case rel => exact ⟨i + 1, d, by go_num, by omega, rfl, (HT.out.push _).less, HG.out.mono (Nat.le_succ _) (Nat.le_refl _), HB.out.alloc (Nat.le_trans hAw HB.out.size) _⟩
      case measure => have := Hk.out; omega
    have e2 : decide ((200 : Int) < (dst.size : Int)) = false := decide_eq_false (by omega)
    obtain ⟨w6, hw6⟩ : ∃ w6 : World, w6 = wr.alloc (.cells #[.int .i64 what, .int .i64 num, .string file, .string dst] 29) := ⟨_, rfl⟩
    have HB6 : Hid (Below A w w6) := by rw [hw6]; exact HB.out.alloc (Nat.le_trans hAw HB.out.size) _
    obtain ⟨b6, hb6⟩ : ∃ b6, wr.heap.size = b6 := ⟨_, rfl⟩
    have HT6 : Hid (Two w6 A [b6] A R d d) := by rw [hw6, ← hb6]; exact (HT.out.push _)
    have c60 : w6.cell? ⟨b6, 0, none⟩ = some (.int .i64 what) := by rw [hw6, ← hb6]; simp
    have c61 : w6.cell? ⟨b6, 1, none⟩ = some (.int .i64 num) := by rw [hw6, ← hb6]; simp
    have c62 : w6.cell? ⟨b6, 2, none⟩ = some (.string file) := by rw [hw6, ← hb6]; simp
    have c63 : w6.cell? ⟨b6, 3, none⟩ = some (.string dst) := by rw [hw6, ← hb6]; simp
    have hV8 : ∀ W, Below A w W → ErrVar W := fun W hb => Hv.out.below (by rw [HA.out]; exact hb)
    have HV8 := Lib.hid hV8
    clear hV8
    have hA6 : A ≤ w6.heap.size := Nat.le_trans hAw HB6.out.size
    have Hw6 := Lib.hid hw6
    have Hb6 := Lib.hid hb6
    clear hw6
    go_upto_block 2 with (fail)
    rw [← Hw6.out]
    clear Ha d0 d1 d2 d3
    refine wp_swq (sw_calls (w := w) (A := A) (R := R) (b6 := b6) (i := i) (d := d) (num := num) (file := file) (dst := dst) (by omega) (by omega) (by omega) hn1 hn2 hAw hA6 HT6 HG HB6 HV8 c61 c62 c63 ?_)
    intro u2 u41 u42 u43 u44 u45 u46 u47 u48 u49 u50 u51 u52 u53 u54 u55 u56 u57 u58 u59 u60 u61 u62 u63 u64 u65 u66 u67 u68 u69 u70 u71 u72 u73 u74 u75 u76 u77 u78 u79 u80 u81 u82 u83 u84 u85 u86 u87 u88 u89 u90 u91 u92 u93 u94 u95 u96 u97 u98 u99 u100 u101 u102 u103 u104 u105 u106 u107 u108 u109 u110 u111 u112 u113 u114 u115 u116 u117 u118 u119 u120 u121 u122 u123 wc hcut
    unfold SwP at hcut
    obtain ⟨d9, hT9, hG9, hB9, hC9⟩ := hcut
    have HT9 := Lib.hid hT9
    have HG9 := Lib.hid hG9
    have HB9 := Lib.hid hB9
    have HC9 := Lib.hid hC9
    have hb6lt9 : b6 < wc.heap.size := hT9.xlt b6 (by simp)
    clear hT9 hG9 hB9 hC9 c60 c61 c62 c63 HT6 HT HB6 HG
    go_wp2_with fail
    have HG1 := Lib.hid (HG9.out.mono (show i + 1 ≤ 1000 by omega) (Nat.le_refl 200))
    have hA9 := Nat.le_trans hAw HB9.out.size
    go_wp2_with fail
    refine (two_names HT9.out HG1.out (by decide)).mono ?_
    rintro e10 w10 ⟨vn, rfl, hS10, hb10⟩
    obtain ⟨an, cn, rfl, hcn, hmn, hcelln⟩ := hS10.1
    have HT10 := Lib.hid (HT9.out.other hb10)
    have HB10 := Lib.hid (HB9.out.trans (hb10.mono hA9))
    have hA10 := Nat.le_trans hAw HB10.out.size
    have c103 : w10.cell? ⟨b6, 3, none⟩ = some (.string dst) := (hb10.cell (p := ⟨b6, 3, none⟩) hb6lt9).trans HC9.out
    have HC10 := Lib.hid c103
    have hb6lt : b6 < w10.heap.size := Nat.lt_of_lt_of_le hb6lt9 hb10.size
    obtain ⟨m, hm⟩ : ∃ m, (sortB (d9.fs.map (·.1))).length = m := ⟨_, rfl⟩
    have HS10' : Hid (Strs w10 (.slice an m cn) (sortB (d9.fs.map (·.1)))) := by rw [← hm]; exact hS10
    rw [hm] at hcn hcelln ⊢
    have Hcn := Lib.hid hcelln
    have Hm := Lib.hid hm
    unfold maxLen at hmn
    clear hS10 hb10 hcelln hm c103
    have HLL : Hid (∀ W, Below w10.heap.size w10 W → ∃ bf, W.cell? ⟨R, 0, none⟩ = some (.map (some bf)) ∧ W.cell? ⟨R, 1, none⟩ = some (.int .i64 d9.left)) := fun W hb => by
      obtain ⟨bf, h1, h2, -⟩ := (HT10.out.other hb).cellL
      exact ⟨bf, h1, h2⟩
    have hRl : R < w10.heap.size := by
      obtain ⟨bf, -, -, h, -⟩ := HT10.out.cellL
      exact h
    have hleft : w10.cell? ⟨R, 1, none⟩ = some (.int .i64 d9.left) := by
      obtain ⟨bf, -, h, -⟩ := HT10.out.cellL
      exact h
    have Hleft := Lib.hid hleft
    obtain ⟨L, hL⟩ : ∃ L, d9.left = L := ⟨_, rfl⟩
    have HON : Hid (onB d9 = !(L == 0)) := by rw [← hL]; exact rfl
    rw [hL] at Hleft
    have HCL : Hid (∀ W, Below w10.heap.size w10 W → W.cell? ⟨R, 1, none⟩ = some (.int .i64 L)) := fun W hb => (hb.cell (p := ⟨R, 1, none⟩) hRl).trans Hleft.out
    clear hleft hL Hleft
    go_wp2_with fail
    refine wp_region_held_drew (S := fun w' => Below w10.heap.size w10 w') (by kernel_rfl) ?_ (fun hHeld => ?_)
    · exact (Below.refl _ _).drew
    refine wpAnyH_take (i := 1) (oi := _) (v := .slice an m cn) rfl (by kernel_rfl) (by kernel_rfl) (by kernel_rfl) (fun _ _ _ h => h) (Or.inl ⟨by kernel_rfl, fun w hSw => ?_⟩) hHeld ?_
    · (try dsimp only at hSw); go_simp
    try simp only [Act.put, List.getElem_toArray, List.getElem_cons_succ, List.getElem_cons_zero, List.setIfInBounds_toArray, List.set_cons_zero, List.set_cons_succ]
    refine wpAnyH_ready (rs := [0]) (by kernel_rfl) (by simp) ?_
    refine AllReadyH.cons (o := _) rfl (fun K hK => ?_) AllReadyH.nil
    go_simp
    go_at_call 19
    refine (two_list (HT10.out.other hHeld) HG1.out (by decide)).mono ?_
    rintro e11 w11 ⟨vl, rfl, hS11, hb11⟩
    have HS11 := Lib.hid hS11
    clear hS11
    refine hK.out _ _ (hHeld.trans (hb11.mono hHeld.size)) (fun hHeld2 => ?_)
    clear hb11
    clear hK K hHeld
    have hHeld := hHeld2
    clear hHeld2
    try simp only [Act.put, List.getElem_toArray, List.getElem_cons_succ, List.getElem_cons_zero, List.setIfInBounds_toArray, List.set_cons_zero, List.set_cons_succ]
    refine wpAnyH_ready (rs := [2]) (by kernel_rfl) (by simp) ?_
    refine AllReadyH.cons (o := _) rfl (fun K hK => ?_) AllReadyH.nil
    go_simp
    go_at_call 18
    refine (sameTexts_calls _ _ _ _ HS11.out ?_).mono ?_
    · exact HS10'.out.below hHeld (Nat.le_refl _)
    rintro e12 w12 ⟨rfl, hb12⟩
    refine hK.out _ _ (hHeld.trans (hb12.mono hHeld.size)) (fun hHeld2 => ?_)
    clear hb12 HS11
    clear hK K hHeld
    have hHeld := hHeld2
    clear hHeld2
    try simp only [Act.put, List.getElem_toArray, List.getElem_cons_succ, List.getElem_cons_zero, List.setIfInBounds_toArray, List.set_cons_zero, List.set_cons_succ]
    refine wpAnyH_take (i := 3) (oi := _) (v := .bool false) rfl (by kernel_rfl) (by kernel_rfl) (by kernel_rfl) (fun _ _ _ h => h) (Or.inl ⟨by kernel_rfl, fun w hSw => ?_⟩) hHeld ?_
    · (try dsimp only at hSw); go_simp
    try simp only [Act.put, List.getElem_toArray, List.getElem_cons_succ, List.getElem_cons_zero, List.setIfInBounds_toArray, List.set_cons_zero, List.set_cons_succ]
    refine wpAnyH_take (i := 4) (oi := _) (v := .bool false) rfl (by kernel_rfl) (by kernel_rfl) (by kernel_rfl) (fun _ _ _ h => h) (Or.inl ⟨by kernel_rfl, fun w hSw => ?_⟩) hHeld ?_
    · (try dsimp only at hSw); go_simp
    try simp only [Act.put, List.getElem_toArray, List.getElem_cons_succ, List.getElem_cons_zero, List.setIfInBounds_toArray, List.set_cons_zero, List.set_cons_succ]
    refine wpAnyH_take (i := 6) (oi := _) (v := .pointer (some ⟨R, 0, none⟩)) rfl (by kernel_rfl) (by kernel_rfl) (by kernel_rfl) (fun _ _ _ h => h) (Or.inl ⟨by kernel_rfl, fun w hSw => ?_⟩) hHeld ?_
    · (try dsimp only at hSw); go_simp
    try simp only [Act.put, List.getElem_toArray, List.getElem_cons_succ, List.getElem_cons_zero, List.setIfInBounds_toArray, List.set_cons_zero, List.set_cons_succ]
    refine wpAnyH_take (i := 7) (oi := _) (v := .pointer (some ⟨R, 0, none⟩)) rfl (by kernel_rfl) (by kernel_rfl) (by kernel_rfl) (fun _ _ _ h => h) (Or.inl ⟨by kernel_rfl, fun w hSw => ?_⟩) hHeld ?_
    · (try dsimp only at hSw); go_simp
    try simp only [Act.put, List.getElem_toArray, List.getElem_cons_succ, List.getElem_cons_zero, List.setIfInBounds_toArray, List.set_cons_zero, List.set_cons_succ]
    refine wpAnyH_take (i := 8) (oi := _) (v := .pointer (some ⟨R, 1, none⟩)) rfl (by kernel_rfl) (by kernel_rfl) (by kernel_rfl) (fun _ _ _ h => h) (Or.inl ⟨by kernel_rfl, fun w hSw => ?_⟩) hHeld ?_
    · (try dsimp only at hSw); go_simp
    try simp only [Act.put, List.getElem_toArray, List.getElem_cons_succ, List.getElem_cons_zero, List.setIfInBounds_toArray, List.set_cons_zero, List.set_cons_succ]
    refine wpAnyH_take (i := 9) (oi := _) (v := .int .i64 L) rfl (by kernel_rfl) (by kernel_rfl) (by kernel_rfl) (fun _ _ _ h => h) (Or.inl ⟨by kernel_rfl, fun w hSw => ?_⟩) hHeld ?_
    · (try dsimp only at hSw); have hh := HCL.out _ hSw; go_simp
    try simp only [Act.put, List.getElem_toArray, List.getElem_cons_succ, List.getElem_cons_zero, List.setIfInBounds_toArray, List.set_cons_zero, List.set_cons_succ]
    refine wpAnyH_take (i := 10) (oi := _) (v := .bool (!(L == 0))) rfl (by kernel_rfl) (by kernel_rfl) (by kernel_rfl) (fun _ _ _ h => h) (Or.inl ⟨by kernel_rfl, fun w hSw => ?_⟩) hHeld ?_
    · (try dsimp only at hSw); go_simp; rfl
    try simp only [Act.put, List.getElem_toArray, List.getElem_cons_succ, List.getElem_cons_zero, List.setIfInBounds_toArray, List.set_cons_zero, List.set_cons_succ]
    refine wpAnyH_ready (rs := [5]) (by kernel_rfl) (by simp) ?_
    refine AllReadyH.cons (o := _) rfl (fun K hK => ?_) AllReadyH.nil
    go_simp
    go_at_call 20
    refine (two_on (HT10.out.other hHeld)).mono ?_
    rintro e13 w13 ⟨rfl, rfl⟩
    rw [HON.out]
    refine hK.out _ _ hHeld (fun hHeld2 => ?_)
    clear hK K hHeld
    have hHeld := hHeld2
    clear hHeld2
    try simp only [Act.put, List.getElem_toArray, List.getElem_cons_succ, List.getElem_cons_zero, List.setIfInBounds_toArray, List.set_cons_zero, List.set_cons_succ]
    refine wpAnyH_take (i := 11) (oi := _) (v := .bool false) rfl (by kernel_rfl) (by kernel_rfl) (by kernel_rfl) (fun _ _ _ h => h) (Or.inl ⟨by kernel_rfl, fun w hSw => ?_⟩) hHeld ?_
    · (try dsimp only at hSw); go_simp
    try simp only [Act.put, List.getElem_toArray, List.getElem_cons_succ, List.getElem_cons_zero, List.setIfInBounds_toArray, List.set_cons_zero, List.set_cons_succ]
    refine wpAnyH_take (i := 12) (oi := _) (v := .bool false) rfl (by kernel_rfl) (by kernel_rfl) (by kernel_rfl) (fun _ _ _ h => h) (Or.inl ⟨by kernel_rfl, fun w hSw => ?_⟩) hHeld ?_
    · (try dsimp only at hSw); go_simp
    try simp only [Act.put, List.getElem_toArray, List.getElem_cons_succ, List.getElem_cons_zero, List.setIfInBounds_toArray, List.set_cons_zero, List.set_cons_succ]
    refine wpAnyH_done (by kernel_rfl) ?_ _
    have HB13 := Lib.hid hHeld
    clear hHeld HON HCL
    have hb6l10 := hb6lt
    go_wp2_with fail
    try go_frame
    go_loopg [8] m (fun k v8 wx => ∃ j : Nat, v8 = .int .i64 ((j : Nat) : Int) ∧ j ≤ m ∧ k = m - j ∧ Below w10.heap.size w10 wx)
    case atStart => exact ⟨0, rfl, Nat.zero_le _, rfl, HB13.out⟩
    case round =>
      obtain ⟨wx, rfl⟩ : ∃ wx : World, wx = wr := ⟨_, rfl⟩
      obtain ⟨j, rfl, hj, hk2, hB2⟩ := hrel
      have HK2 := Lib.hid hk2
      have HBx := Lib.hid hB2
      have hzx := hB2.size
      clear hk2 hB2
      by_cases hjl : j < m
      · obtain ⟨bn, on, rfl, hbn, hcn⟩ := Hcn.out.resolve_left (by omega)
        obtain ⟨z, hz⟩ : ∃ z, (sortB (d9.fs.map (·.1))).getD j ⟨#[]⟩ = z := ⟨_, rfl⟩
        have HX : Hid (∃ x, fget d9.fs z = some x) := names_some (by rw [Hm.out]; exact hjl) hz
        obtain ⟨x, hx⟩ := HX.out
        have hzs : z.size ≤ 80 := (HG9.out.get hx).1
        have hcz : w10.cell? ⟨bn, on + j, none⟩ = some (.string z) := by
          have h1 : w10.cell? ⟨bn, on + j * 1 + 0, none⟩ = some (.string ((sortB (d9.fs.map (·.1))).getD j ⟨#[]⟩)) := hcn j 0 hjl (by decide)
          rw [hz] at h1
          simpa using h1
        have HZ : Hid (∀ W, Below w10.heap.size w10 W → W.cell? ⟨bn, on + j, none⟩ = some (.string z)) := fun W hb => (hb.cell (p := ⟨bn, on + j, none⟩) hbn).trans hcz
        obtain ⟨bf, P, hL1⟩ := two_look HT10.out hx (by unfold maxLen; omega)
        have HLK := Lib.hid hL1
        have HRD : Hid (∀ W, Below w10.heap.size w10 W → Calls Tryd.prog 21 #[.pointer (some ⟨A, 0, none⟩), .string z] W fun e w' => e = .returned (.tuple #[.string x.now, .nilIface]) ∧ W = w') := fun W hb => two_read (HT10.out.other hb) hx (by unfold maxLen; omega)
        have dz := HZ.out _ HBx.out
        clear hcn hz hx hcz hL1 HX
        go_wp2_with fail
        refine (HRD.out _ HBx.out).mono ?_
        rintro e14 w14 ⟨rfl, rfl⟩
        clear dz
        go_wp2_with fail
        refine wp_region_held_drew (S := fun w' => Below w10.heap.size w10 w') (by kernel_rfl) ?_ (fun hHeld => ?_)
        · exact HBx.out.drew
        refine wpAnyH_take (i := 0) (oi := _) (v := .nilIface) rfl (by kernel_rfl) (by kernel_rfl) (by kernel_rfl) (fun _ _ _ h => h) (Or.inl ⟨by kernel_rfl, fun w hSw => ?_⟩) hHeld ?_
        · (try dsimp only at hSw); go_simp
        try simp only [Act.put, List.getElem_toArray, List.getElem_cons_succ, List.getElem_cons_zero, List.setIfInBounds_toArray, List.set_cons_zero, List.set_cons_succ]
        refine wpAnyH_take (i := 1) (oi := _) (v := .bool false) rfl (by kernel_rfl) (by kernel_rfl) (by kernel_rfl) (fun _ _ _ h => h) (Or.inl ⟨by kernel_rfl, fun w hSw => ?_⟩) hHeld ?_
        · (try dsimp only at hSw); go_simp
        try simp only [Act.put, List.getElem_toArray, List.getElem_cons_succ, List.getElem_cons_zero, List.setIfInBounds_toArray, List.set_cons_zero, List.set_cons_succ]
        refine wpAnyH_take (i := 2) (oi := _) (v := .bool false) rfl (by kernel_rfl) (by kernel_rfl) (by kernel_rfl) (fun _ _ _ h => h) (Or.inl ⟨by kernel_rfl, fun w hSw => ?_⟩) hHeld ?_
        · (try dsimp only at hSw); go_simp
        try simp only [Act.put, List.getElem_toArray, List.getElem_cons_succ, List.getElem_cons_zero, List.setIfInBounds_toArray, List.set_cons_zero, List.set_cons_succ]
        refine wpAnyH_take (i := 3) (oi := _) (v := .string x.now) rfl (by kernel_rfl) (by kernel_rfl) (by kernel_rfl) (fun _ _ _ h => h) (Or.inl ⟨by kernel_rfl, fun w hSw => ?_⟩) hHeld ?_
        · (try dsimp only at hSw); go_simp
        try simp only [Act.put, List.getElem_toArray, List.getElem_cons_succ, List.getElem_cons_zero, List.setIfInBounds_toArray, List.set_cons_zero, List.set_cons_succ]
        refine wpAnyH_take (i := 4) (oi := _) (v := .pointer (some ⟨R, 0, none⟩)) rfl (by kernel_rfl) (by kernel_rfl) (by kernel_rfl) (fun _ _ _ h => h) (Or.inl ⟨by kernel_rfl, fun w hSw => ?_⟩) hHeld ?_
        · (try dsimp only at hSw); go_simp
        try simp only [Act.put, List.getElem_toArray, List.getElem_cons_succ, List.getElem_cons_zero, List.setIfInBounds_toArray, List.set_cons_zero, List.set_cons_succ]
        refine wpAnyH_take (i := 5) (oi := _) (v := .pointer (some ⟨R, 0, none⟩)) rfl (by kernel_rfl) (by kernel_rfl) (by kernel_rfl) (fun _ _ _ h => h) (Or.inl ⟨by kernel_rfl, fun w hSw => ?_⟩) hHeld ?_
        · (try dsimp only at hSw); go_simp
        try simp only [Act.put, List.getElem_toArray, List.getElem_cons_succ, List.getElem_cons_zero, List.setIfInBounds_toArray, List.set_cons_zero, List.set_cons_succ]
        refine wpAnyH_take (i := 6) (oi := _) (v := .pointer (some ⟨R, 0, none⟩)) rfl (by kernel_rfl) (by kernel_rfl) (by kernel_rfl) (fun _ _ _ h => h) (Or.inl ⟨by kernel_rfl, fun w hSw => ?_⟩) hHeld ?_
        · (try dsimp only at hSw); go_simp
        try simp only [Act.put, List.getElem_toArray, List.getElem_cons_succ, List.getElem_cons_zero, List.setIfInBounds_toArray, List.set_cons_zero, List.set_cons_succ]
        refine wpAnyH_take (i := 7) (oi := _) (v := .map (some bf)) rfl (by kernel_rfl) (by kernel_rfl) (by kernel_rfl) (fun _ _ _ h => h) (Or.inl ⟨by kernel_rfl, fun w hSw => ?_⟩) hHeld ?_
        · (try dsimp only at hSw); have hh := (HLK.out _ hSw).1; go_simp
        try simp only [Act.put, List.getElem_toArray, List.getElem_cons_succ, List.getElem_cons_zero, List.setIfInBounds_toArray, List.set_cons_zero, List.set_cons_succ]
        refine wpAnyH_take (i := 8) (oi := _) (v := .slice (some ⟨bn, on, none⟩) m cn) rfl (by kernel_rfl) (by kernel_rfl) (by kernel_rfl) (fun _ _ _ h => h) (Or.inl ⟨by kernel_rfl, fun w hSw => ?_⟩) hHeld ?_
        · (try dsimp only at hSw); go_simp
        try simp only [Act.put, List.getElem_toArray, List.getElem_cons_succ, List.getElem_cons_zero, List.setIfInBounds_toArray, List.set_cons_zero, List.set_cons_succ]
        refine wpAnyH_take (i := 9) (oi := _) (v := .int .i64 ((j : Nat) : Int)) rfl (by kernel_rfl) (by kernel_rfl) (by kernel_rfl) (fun _ _ _ h => h) (Or.inl ⟨by kernel_rfl, fun w hSw => ?_⟩) hHeld ?_
        · (try dsimp only at hSw); go_simp
        try simp only [Act.put, List.getElem_toArray, List.getElem_cons_succ, List.getElem_cons_zero, List.setIfInBounds_toArray, List.set_cons_zero, List.set_cons_succ]
        refine wpAnyH_take (i := 10) (oi := _) (v := .pointer (some ⟨bn, on + j, none⟩)) rfl (by kernel_rfl) (by kernel_rfl) (by kernel_rfl) (fun _ _ _ h => h) (Or.inl ⟨by kernel_rfl, fun w hSw => ?_⟩) hHeld ?_
        · (try dsimp only at hSw); go_simp
        try simp only [Act.put, List.getElem_toArray, List.getElem_cons_succ, List.getElem_cons_zero, List.setIfInBounds_toArray, List.set_cons_zero, List.set_cons_succ]
        refine wpAnyH_take (i := 11) (oi := _) (v := .string z) rfl (by kernel_rfl) (by kernel_rfl) (by kernel_rfl) (fun _ _ _ h => h) (Or.inl ⟨by kernel_rfl, fun w hSw => ?_⟩) hHeld ?_
        · (try dsimp only at hSw); have hh := HZ.out _ hSw; go_simp
        try simp only [Act.put, List.getElem_toArray, List.getElem_cons_succ, List.getElem_cons_zero, List.setIfInBounds_toArray, List.set_cons_zero, List.set_cons_succ]
        refine wpAnyH_take (i := 12) (oi := _) (v := .agg #[.string x.now, .pointer P]) rfl (by kernel_rfl) (by kernel_rfl) (by kernel_rfl) (fun _ _ _ h => h) (Or.inl ⟨by kernel_rfl, fun w hSw => ?_⟩) hHeld ?_
        · (try dsimp only at hSw); have hh := (HLK.out _ hSw).2.1; simp only [execOp]; go_simp
        try simp only [Act.put, List.getElem_toArray, List.getElem_cons_succ, List.getElem_cons_zero, List.setIfInBounds_toArray, List.set_cons_zero, List.set_cons_succ]
        refine wpAnyH_take (i := 13) (oi := _) (v := .string x.now) rfl (by kernel_rfl) (by kernel_rfl) (by kernel_rfl) (fun _ _ _ h => h) (Or.inl ⟨by kernel_rfl, fun w hSw => ?_⟩) hHeld ?_
        · (try dsimp only at hSw); kernel_rfl
        try simp only [Act.put, List.getElem_toArray, List.getElem_cons_succ, List.getElem_cons_zero, List.setIfInBounds_toArray, List.set_cons_zero, List.set_cons_succ]
        refine wpAnyH_take (i := 14) (oi := _) (v := .bool false) rfl (by kernel_rfl) (by kernel_rfl) (by kernel_rfl) (fun _ _ _ h => h) (Or.inl ⟨by kernel_rfl, fun w hSw => ?_⟩) hHeld ?_
        · (try dsimp only at hSw); go_simp
        try simp only [Act.put, List.getElem_toArray, List.getElem_cons_succ, List.getElem_cons_zero, List.setIfInBounds_toArray, List.set_cons_zero, List.set_cons_succ]
        refine wpAnyH_take (i := 15) (oi := _) (v := .bool false) rfl (by kernel_rfl) (by kernel_rfl) (by kernel_rfl) (fun _ _ _ h => h) (Or.inl ⟨by kernel_rfl, fun w hSw => ?_⟩) hHeld ?_
        · (try dsimp only at hSw); go_simp
        try simp only [Act.put, List.getElem_toArray, List.getElem_cons_succ, List.getElem_cons_zero, List.setIfInBounds_toArray, List.set_cons_zero, List.set_cons_succ]
        refine wpAnyH_done (by kernel_rfl) ?_ _
        have HB15 := Lib.hid hHeld
        clear hHeld
        go_wp2_with fail
        go_roundg (m - (j + 1))
        case rel => exact ⟨j + 1, by go_num, by omega, rfl, HB15.out⟩
        case measure => have := HK2.out; omega
      · have HTO : Hid (∀ W, Below w10.heap.size w10 W → W.cell? ⟨b6, 3, none⟩ = some (.string dst)) := fun W hb => (hb.cell (p := ⟨b6, 3, none⟩) hb6lt).trans HC10.out
        cases hx2 : fget d9.fs dst with
        | some x =>
          obtain ⟨bf, P, hL2⟩ := two_look HT10.out hx2 (by unfold maxLen; omega)
          have HL2 := Lib.hid hL2
          clear hL2 hx2
          go_wp2_with fail
          refine wp_region_held_drew (S := fun w' => Below w10.heap.size w10 w') (by kernel_rfl) ?_ (fun hHeld => ?_)
          · exact HBx.out.drew
          refine wpAnyH_take (i := 0) (oi := _) (v := .pointer (some ⟨R, 0, none⟩)) rfl (by kernel_rfl) (by kernel_rfl) (by kernel_rfl) (fun _ _ _ h => h) (Or.inl ⟨by kernel_rfl, fun w hSw => ?_⟩) hHeld ?_
          · (try dsimp only at hSw); go_simp
          try simp only [Act.put, List.getElem_toArray, List.getElem_cons_succ, List.getElem_cons_zero, List.setIfInBounds_toArray, List.set_cons_zero, List.set_cons_succ]
          refine wpAnyH_take (i := 1) (oi := _) (v := .pointer (some ⟨R, 0, none⟩)) rfl (by kernel_rfl) (by kernel_rfl) (by kernel_rfl) (fun _ _ _ h => h) (Or.inl ⟨by kernel_rfl, fun w hSw => ?_⟩) hHeld ?_
          · (try dsimp only at hSw); go_simp
          try simp only [Act.put, List.getElem_toArray, List.getElem_cons_succ, List.getElem_cons_zero, List.setIfInBounds_toArray, List.set_cons_zero, List.set_cons_succ]
          refine wpAnyH_take (i := 2) (oi := _) (v := .pointer (some ⟨R, 0, none⟩)) rfl (by kernel_rfl) (by kernel_rfl) (by kernel_rfl) (fun _ _ _ h => h) (Or.inl ⟨by kernel_rfl, fun w hSw => ?_⟩) hHeld ?_
          · (try dsimp only at hSw); go_simp
          try simp only [Act.put, List.getElem_toArray, List.getElem_cons_succ, List.getElem_cons_zero, List.setIfInBounds_toArray, List.set_cons_zero, List.set_cons_succ]
          refine wpAnyH_take (i := 3) (oi := _) (v := .map (some bf)) rfl (by kernel_rfl) (by kernel_rfl) (by kernel_rfl) (fun _ _ _ h => h) (Or.inl ⟨by kernel_rfl, fun w hSw => ?_⟩) hHeld ?_
          · (try dsimp only at hSw); have hh := (HL2.out _ hSw).1; go_simp
          try simp only [Act.put, List.getElem_toArray, List.getElem_cons_succ, List.getElem_cons_zero, List.setIfInBounds_toArray, List.set_cons_zero, List.set_cons_succ]
          refine wpAnyH_take (i := 4) (oi := _) (v := .pointer (some ⟨b6, 3, none⟩)) rfl (by kernel_rfl) (by kernel_rfl) (by kernel_rfl) (fun _ _ _ h => h) (Or.inl ⟨by kernel_rfl, fun w hSw => ?_⟩) hHeld ?_
          · (try dsimp only at hSw); go_simp
          try simp only [Act.put, List.getElem_toArray, List.getElem_cons_succ, List.getElem_cons_zero, List.setIfInBounds_toArray, List.set_cons_zero, List.set_cons_succ]
          refine wpAnyH_take (i := 5) (oi := _) (v := .string dst) rfl (by kernel_rfl) (by kernel_rfl) (by kernel_rfl) (fun _ _ _ h => h) (Or.inl ⟨by kernel_rfl, fun w hSw => ?_⟩) hHeld ?_
          · (try dsimp only at hSw); have hh := HTO.out _ hSw; go_simp
          try simp only [Act.put, List.getElem_toArray, List.getElem_cons_succ, List.getElem_cons_zero, List.setIfInBounds_toArray, List.set_cons_zero, List.set_cons_succ]
          refine wpAnyH_take (i := 6) (oi := _) (v := .tuple #[.agg #[.string x.now, .pointer P], .bool true]) rfl (by kernel_rfl) (by kernel_rfl) (by kernel_rfl) (fun _ _ _ h => h) (Or.inl ⟨by kernel_rfl, fun w hSw => ?_⟩) hHeld ?_
          · (try dsimp only at hSw); have hh := (HL2.out _ hSw).2.2; simp only [execOp]; go_simp
          try simp only [Act.put, List.getElem_toArray, List.getElem_cons_succ, List.getElem_cons_zero, List.setIfInBounds_toArray, List.set_cons_zero, List.set_cons_succ]
          refine wpAnyH_take (i := 7) (oi := _) (v := .tuple #[.agg #[.string x.now, .pointer P], .bool true]) rfl (by kernel_rfl) (by kernel_rfl) (by kernel_rfl) (fun _ _ _ h => h) (Or.inl ⟨by kernel_rfl, fun w hSw => ?_⟩) hHeld ?_
          · (try dsimp only at hSw); go_simp
          try simp only [Act.put, List.getElem_toArray, List.getElem_cons_succ, List.getElem_cons_zero, List.setIfInBounds_toArray, List.set_cons_zero, List.set_cons_succ]
          refine wpAnyH_take (i := 8) (oi := _) (v := .agg #[.string x.now, .pointer P]) rfl (by kernel_rfl) (by kernel_rfl) (by kernel_rfl) (fun _ _ _ h => h) (Or.inl ⟨by kernel_rfl, fun w hSw => ?_⟩) hHeld ?_
          · (try dsimp only at hSw); go_simp
          try simp only [Act.put, List.getElem_toArray, List.getElem_cons_succ, List.getElem_cons_zero, List.setIfInBounds_toArray, List.set_cons_zero, List.set_cons_succ]
          refine wpAnyH_take (i := 9) (oi := _) (v := .bool true) rfl (by kernel_rfl) (by kernel_rfl) (by kernel_rfl) (fun _ _ _ h => h) (Or.inl ⟨by kernel_rfl, fun w hSw => ?_⟩) hHeld ?_
          · (try dsimp only at hSw); go_simp
          try simp only [Act.put, List.getElem_toArray, List.getElem_cons_succ, List.getElem_cons_zero, List.setIfInBounds_toArray, List.set_cons_zero, List.set_cons_succ]
          refine wpAnyH_ready (rs := [10]) (by kernel_rfl) (by simp) ?_
          refine AllReadyH.cons (o := _) rfl (fun K hK => ?_) AllReadyH.nil
          go_simp
          refine hK.out _ _ (hHeld.alloc hHeld.size _) (fun hHeld2 => ?_)
          clear hK K hHeld
          have hHeld := hHeld2
          clear hHeld2
          try simp only [Act.put, List.getElem_toArray, List.getElem_cons_succ, List.getElem_cons_zero, List.setIfInBounds_toArray, List.set_cons_zero, List.set_cons_succ]
          refine wpAnyH_ready (rs := [11]) (by kernel_rfl) (by simp) ?_
          refine AllReadyH.cons (o := _) rfl (fun K hK => ?_) AllReadyH.nil
          go_simp
          refine hK.out _ _ (HBx.out.alloc HBx.out.size _).drew (fun hHeld2 => ?_)
          clear hK K hHeld
          have hHeld := hHeld2
          clear hHeld2
          try simp only [Act.put, List.getElem_toArray, List.getElem_cons_succ, List.getElem_cons_zero, List.setIfInBounds_toArray, List.set_cons_zero, List.set_cons_succ]
          refine wpAnyH_take (i := 12) (oi := _) (v := .bool true) rfl (by kernel_rfl) (by kernel_rfl) (by kernel_rfl) (fun _ _ _ h => h) (Or.inl ⟨by kernel_rfl, fun w hSw => ?_⟩) hHeld ?_
          · (try dsimp only at hSw); go_simp
          try simp only [Act.put, List.getElem_toArray, List.getElem_cons_succ, List.getElem_cons_zero, List.setIfInBounds_toArray, List.set_cons_zero, List.set_cons_succ]
          refine wpAnyH_done (by kernel_rfl) ?_ _
          have HB16 := Lib.hid hHeld
          clear hHeld
          go_wp2_with fail
          go_roundg (n - (i + 1))
          case rel => exact ⟨i + 1, d9, by go_num, by omega, rfl, (HT10.out.other HB16.out).less, HG9.out, HB10.out.trans (HB16.out.mono hA10)⟩
          case measure => have := Hk.out; omega
        | none =>
          obtain ⟨bf, hL2⟩ := two_lookN HT10.out hx2 (by unfold maxLen; omega)
          have HL2 := Lib.hid hL2
          have HX2 := Lib.hid hx2
          clear hL2 hx2
          go_wp2_with fail
          refine wp_region_held_drew (S := fun w' => Below w10.heap.size w10 w') (by kernel_rfl) ?_ (fun hHeld => ?_)
          · exact HBx.out.drew
          refine wpAnyH_take (i := 0) (oi := _) (v := .pointer (some ⟨R, 0, none⟩)) rfl (by kernel_rfl) (by kernel_rfl) (by kernel_rfl) (fun _ _ _ h => h) (Or.inl ⟨by kernel_rfl, fun w hSw => ?_⟩) hHeld ?_
          · (try dsimp only at hSw); go_simp
          try simp only [Act.put, List.getElem_toArray, List.getElem_cons_succ, List.getElem_cons_zero, List.setIfInBounds_toArray, List.set_cons_zero, List.set_cons_succ]
          refine wpAnyH_take (i := 1) (oi := _) (v := .pointer (some ⟨R, 0, none⟩)) rfl (by kernel_rfl) (by kernel_rfl) (by kernel_rfl) (fun _ _ _ h => h) (Or.inl ⟨by kernel_rfl, fun w hSw => ?_⟩) hHeld ?_
          · (try dsimp only at hSw); go_simp
          try simp only [Act.put, List.getElem_toArray, List.getElem_cons_succ, List.getElem_cons_zero, List.setIfInBounds_toArray, List.set_cons_zero, List.set_cons_succ]
          refine wpAnyH_take (i := 2) (oi := _) (v := .pointer (some ⟨R, 0, none⟩)) rfl (by kernel_rfl) (by kernel_rfl) (by kernel_rfl) (fun _ _ _ h => h) (Or.inl ⟨by kernel_rfl, fun w hSw => ?_⟩) hHeld ?_
          · (try dsimp only at hSw); go_simp
          try simp only [Act.put, List.getElem_toArray, List.getElem_cons_succ, List.getElem_cons_zero, List.setIfInBounds_toArray, List.set_cons_zero, List.set_cons_succ]
          refine wpAnyH_take (i := 3) (oi := _) (v := .map (some bf)) rfl (by kernel_rfl) (by kernel_rfl) (by kernel_rfl) (fun _ _ _ h => h) (Or.inl ⟨by kernel_rfl, fun w hSw => ?_⟩) hHeld ?_
          · (try dsimp only at hSw); have hh := (HL2.out _ hSw).1; go_simp
          try simp only [Act.put, List.getElem_toArray, List.getElem_cons_succ, List.getElem_cons_zero, List.setIfInBounds_toArray, List.set_cons_zero, List.set_cons_succ]
          refine wpAnyH_take (i := 4) (oi := _) (v := .pointer (some ⟨b6, 3, none⟩)) rfl (by kernel_rfl) (by kernel_rfl) (by kernel_rfl) (fun _ _ _ h => h) (Or.inl ⟨by kernel_rfl, fun w hSw => ?_⟩) hHeld ?_
          · (try dsimp only at hSw); go_simp
          try simp only [Act.put, List.getElem_toArray, List.getElem_cons_succ, List.getElem_cons_zero, List.setIfInBounds_toArray, List.set_cons_zero, List.set_cons_succ]
          refine wpAnyH_take (i := 5) (oi := _) (v := .string dst) rfl (by kernel_rfl) (by kernel_rfl) (by kernel_rfl) (fun _ _ _ h => h) (Or.inl ⟨by kernel_rfl, fun w hSw => ?_⟩) hHeld ?_
          · (try dsimp only at hSw); have hh := HTO.out _ hSw; go_simp
          try simp only [Act.put, List.getElem_toArray, List.getElem_cons_succ, List.getElem_cons_zero, List.setIfInBounds_toArray, List.set_cons_zero, List.set_cons_succ]
          refine wpAnyH_take (i := 6) (oi := _) (v := .tuple #[.agg #[.string ⟨#[]⟩, .pointer none], .bool false]) rfl (by kernel_rfl) (by kernel_rfl) (by kernel_rfl) (fun _ _ _ h => h) (Or.inl ⟨by kernel_rfl, fun w hSw => ?_⟩) hHeld ?_
          · (try dsimp only at hSw); have hh := (HL2.out _ hSw).2; simp only [execOp]; go_simp
          try simp only [Act.put, List.getElem_toArray, List.getElem_cons_succ, List.getElem_cons_zero, List.setIfInBounds_toArray, List.set_cons_zero, List.set_cons_succ]
          refine wpAnyH_take (i := 7) (oi := _) (v := .tuple #[.agg #[.string ⟨#[]⟩, .pointer none], .bool false]) rfl (by kernel_rfl) (by kernel_rfl) (by kernel_rfl) (fun _ _ _ h => h) (Or.inl ⟨by kernel_rfl, fun w hSw => ?_⟩) hHeld ?_
          · (try dsimp only at hSw); go_simp
          try simp only [Act.put, List.getElem_toArray, List.getElem_cons_succ, List.getElem_cons_zero, List.setIfInBounds_toArray, List.set_cons_zero, List.set_cons_succ]
          refine wpAnyH_take (i := 8) (oi := _) (v := .agg #[.string ⟨#[]⟩, .pointer none]) rfl (by kernel_rfl) (by kernel_rfl) (by kernel_rfl) (fun _ _ _ h => h) (Or.inl ⟨by kernel_rfl, fun w hSw => ?_⟩) hHeld ?_
          · (try dsimp only at hSw); go_simp
          try simp only [Act.put, List.getElem_toArray, List.getElem_cons_succ, List.getElem_cons_zero, List.setIfInBounds_toArray, List.set_cons_zero, List.set_cons_succ]
          refine wpAnyH_take (i := 9) (oi := _) (v := .bool false) rfl (by kernel_rfl) (by kernel_rfl) (by kernel_rfl) (fun _ _ _ h => h) (Or.inl ⟨by kernel_rfl, fun w hSw => ?_⟩) hHeld ?_
          · (try dsimp only at hSw); go_simp
          try simp only [Act.put, List.getElem_toArray, List.getElem_cons_succ, List.getElem_cons_zero, List.setIfInBounds_toArray, List.set_cons_zero, List.set_cons_succ]
          refine wpAnyH_ready (rs := [10]) (by kernel_rfl) (by simp) ?_
          refine AllReadyH.cons (o := _) rfl (fun K hK => ?_) AllReadyH.nil
          go_simp
          refine hK.out _ _ (hHeld.alloc hHeld.size _) (fun hHeld2 => ?_)
          clear hK K hHeld
          have hHeld := hHeld2
          clear hHeld2
          try simp only [Act.put, List.getElem_toArray, List.getElem_cons_succ, List.getElem_cons_zero, List.setIfInBounds_toArray, List.set_cons_zero, List.set_cons_succ]
          refine wpAnyH_ready (rs := [11]) (by kernel_rfl) (by simp) ?_
          refine AllReadyH.cons (o := _) rfl (fun K hK => ?_) AllReadyH.nil
          go_simp
          refine hK.out _ _ (HBx.out.alloc HBx.out.size _).drew (fun hHeld2 => ?_)
          clear hK K hHeld
          have hHeld := hHeld2
          clear hHeld2
          try simp only [Act.put, List.getElem_toArray, List.getElem_cons_succ, List.getElem_cons_zero, List.setIfInBounds_toArray, List.set_cons_zero, List.set_cons_succ]
          refine wpAnyH_take (i := 12) (oi := _) (v := .bool false) rfl (by kernel_rfl) (by kernel_rfl) (by kernel_rfl) (fun _ _ _ h => h) (Or.inl ⟨by kernel_rfl, fun w hSw => ?_⟩) hHeld ?_
          · (try dsimp only at hSw); go_simp
          try simp only [Act.put, List.getElem_toArray, List.getElem_cons_succ, List.getElem_cons_zero, List.setIfInBounds_toArray, List.set_cons_zero, List.set_cons_succ]
          refine wpAnyH_done (by kernel_rfl) ?_ _
          have HB15 := Lib.hid hHeld
          have dto := HTO.out _ hHeld
          clear hHeld
          go_wp2_with fail
          refine (two_readN (HT10.out.other HB15.out) HX2.out (by unfold maxLen; omega)).mono ?_
          rintro e17 w17 ⟨rfl, rfl⟩
          clear dto
          go_wp2_with fail
          refine (dbare_calls 7 7 _ (HV8.out _ (HB10.out.trans (HB15.out.mono hA10)))).mono ?_
          rintro e18 w18 ⟨rfl, hb18⟩
          have HB16 := Lib.hid (HB15.out.trans (hb18.mono HB15.out.size))
          clear hb18
          rw [show ((7 : Int) == 7) = true by decide]
          go_wp2_with fail
          go_roundg (n - (i + 1))
          case rel => exact ⟨i + 1, d9, by go_num, by omega, rfl, (HT10.out.other HB16.out).less, HG9.out, HB10.out.trans (HB16.out.mono hA10)⟩
          case measure => have := Hk.out; omega
end Go.Proofs.YtodmnogoacghpaaDoor
