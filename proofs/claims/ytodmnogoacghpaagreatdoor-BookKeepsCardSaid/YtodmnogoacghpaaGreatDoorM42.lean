/- BookKeeps. · Down from the row's reading to the notes and cuts of BookKeeps. -/
import Derived.Test.YtodmnogoacghpaaGreatDoorM41
import Derived.Deep.Strs
import Derived.Lib.SmallJoins
import Derived.OpenShut
namespace Go.Proofs.YtodmnogoacghpaaGreatDoor
open Go.RowKit
set_option maxRecDepth 1000000
set_option maxHeartbeats 8000000

theorem bookKeeps_calls (lv cv : Value) (l : List NoteK) (cs : List Int) (w : World) (hv : ErrVar w) (hm : MaxV w) (hA : NotesK w lv l) (hC : IntsK w cv cs) :
    Calls Tryz.prog 4 #[lv, cv] w fun e w' => e = .returned (.bool true) ∧ Below w.heap.size w w' := by
  obtain ⟨⟨aa, ca, rfl, hca, hma, hcella⟩, hok⟩ := hA
  obtain ⟨⟨ac, cc, rfl, hcc, hmc, hcellc⟩, hokc⟩ := hC
  unfold maxLen at hma hmc
  obtain ⟨n, hn⟩ : ∃ n, l.length = n := ⟨_, rfl⟩
  obtain ⟨nc, hnc⟩ : ∃ n, cs.length = n := ⟨_, rfl⟩
  rw [hn] at hca hcella ⊢
  rw [hnc] at hcc hcellc ⊢
  have Hnc := Lib.hid hnc
  have Ha := Lib.hid hcella
  have Hc := Lib.hid hcellc
  have Hok := Lib.hid (NotesK.get hok)
  have Hokc := Lib.hid (IntsK.get hokc)
  have Hv := Lib.hid hv
  have hgl := hm.lt
  have Hm := Lib.hid hm
  clear hcella hcellc hok hokc hn hnc hv hm
  by_cases h40 : 40 < n
  · have e40 : decide ((40 : Int) < (n : Int)) = true := decide_eq_true (by omega)
    go_enter Tryz.func4, Tryz.ntmps4
    go_wp2_with fail
    go_ret
    exact ⟨rfl, Below.refl _ _⟩
  by_cases h41 : 40 < nc
  · have e40 : decide ((40 : Int) < (n : Int)) = false := decide_eq_false (by omega)
    have e41 : decide ((40 : Int) < (nc : Int)) = true := decide_eq_true (by omega)
    go_enter Tryz.func4, Tryz.ntmps4
    go_wp2_with fail
    go_ret
    exact ⟨rfl, Below.refl _ _⟩
  have e40 : decide ((40 : Int) < (n : Int)) = false := decide_eq_false (by omega)
  have e41 : decide ((40 : Int) < (nc : Int)) = false := decide_eq_false (by omega)
  obtain ⟨A, hAe⟩ : ∃ A, w.heap.size = A := ⟨_, rfl⟩
  have ND := Lib.hid (noted_calls w Hm.out)
  have HAe := Lib.hid hAe
  have HV : Hid (∀ W, Below A w W → ErrVar W) := fun W hb => Hv.out.below (by rw [HAe.out]; exact hb)
  have HMx : Hid (∀ W, Below A w W → MaxV W) := fun W hb => Hm.out.below (by rw [HAe.out]; exact hb)
  have hAw : A ≤ w.heap.size := by omega
  rw [hAe] at hgl
  clear hAe Hm Hv
  go_enter Tryz.func4, Tryz.ntmps4
  go_wp2_with fail
  refine ND.out.mono ?_
  rintro e0 w1 ⟨rfl, hb1⟩
  rw [HAe.out] at hb1
  obtain ⟨w2, hw2⟩ : ∃ w2 : World, w2 = w1.alloc (.cells #[.map none, .map none, .int .i64 0, .bool false, .int .i64 0, .bool false] 26) := ⟨_, rfl⟩
  obtain ⟨a, ha⟩ : ∃ a, w1.heap.size = a := ⟨_, rfl⟩
  have hAa : A ≤ a := by rw [← ha]; exact Nat.le_trans hAw hb1.size
  have HB2 : Hid (Below A w w2) := by rw [hw2]; exact hb1.alloc (Nat.le_trans hAw hb1.size) _
  have hs2 : w2.heap.size = a + 1 := by rw [hw2, ← ha]; simp
  have HP2 : Hid (PDisk w2 a [a] zeroD) := ⟨_, _, 0, 0, ⟨by rw [hw2, ← ha]; exact heap_alloc_new w1 _, (fun h => absurd h (by decide)), (fun h => absurd h (by decide))⟩, Or.inl ⟨rfl, rfl, rfl, rfl⟩⟩
  have OP := Lib.hid (open_calls w2 [a] a zeroD HP2.out (HMx.out _ HB2.out) (GoodD.zero _ _))
  have Hw2 := Lib.hid hw2
  have Hae := Lib.hid ha
  have Hs2 := Lib.hid hs2
  clear ND hw2 ha hb1 hs2
  go_wp2_with fail
  rw [← Hw2.out, Hae.out]
  go_wp2_with fail
  refine OP.out.mono ?_
  rintro e3 w3 ⟨rfl, hb3, hK3⟩
  rw [Hs2.out] at hb3 hK3 ⊢
  have HB3 : Hid (Below A w w3) := HB2.out.trans (hb3.mono (by omega))
  have HO3 : Hid (OneB w3 A [] a (a + 2) ⟨zeroD, [], ⟨#[]⟩, false⟩) := by
    have e : openB zeroD = ⟨zeroD, [], ⟨#[]⟩, false⟩ := by kernel_rfl
    rw [e] at hK3
    refine ⟨_, hK3, fun k hk => ?_, fun k hk => (by cases hk), HMx.out _ HB3.out, hgl⟩
    simp only [List.mem_cons, List.not_mem_nil, or_false] at hk
    omega
  clear hb3 hK3 OP HP2 Hw2 Hae Hs2 HB2
  go_wp2_with fail
  try go_frame
  go_loopg [6, 8] n (fun k v6 v8 wr => ∃ (i bb : Nat) (d : DiskD) (m : FS) (t : ByteArray), v6 = .pointer (some ⟨bb, 0, none⟩) ∧ v8 = .int .i64 ((i : Nat) : Int) ∧ i ≤ n ∧ k = n - i ∧ OneB wr A [] a bb ⟨d, m, t, false⟩ ∧ KInv i d m t ∧ Below A w wr)
  case atStart => exact ⟨0, a + 2, zeroD, [], ⟨#[]⟩, rfl, rfl, Nat.zero_le _, rfl, HO3.out, KInv.zero, HB3.out⟩
  case round =>
    obtain ⟨i, bb, d, m, t, rfl, rfl, hi, hk, hO, hI, hB⟩ := hrel
    have HO := Lib.hid hO
    have HI := Lib.hid hI
    have HB := Lib.hid hB
    have Hk := Lib.hid hk
    have hml := hI.len
    clear hO hI hB hk
    by_cases hlt : i < n
    case' neg =>
      go_wp2_with fail
      go_ret
      exact ⟨rfl, by rw [HAe.out]; exact HB.out⟩
    obtain ⟨b, o, rfl, hb, hc⟩ := Ha.out.resolve_left (by omega)
    obtain ⟨⟨what, name, v⟩, hx⟩ : ∃ x : NoteK, l.getD i noK2 = x := ⟨_, rfl⟩
    have hox := Hok.out i
    rw [hx] at hox
    obtain ⟨⟨hw1, hw2⟩, hf, ht⟩ := hox
    dsimp only at hw1 hw2 hf ht
    unfold maxLen at hf ht
    have dc : ∀ j, j < 3 → wr.cell? ⟨b, o + i * 3 + j, none⟩ = some (noteK (what, (name, v)) j) := fun j hj => (HB.out.cell (p := ⟨b, o + i * 3 + j, none⟩) (show b < A by have := HAe.out; omega)).trans (by rw [hc i j hlt hj, hx])
    have d0 : wr.cell? ⟨b, o + i * 3, none⟩ = some (.int .i64 what) := dc 0 (by decide)
    have d1 : wr.cell? ⟨b, o + i * 3 + 1, none⟩ = some (.string name) := dc 1 (by decide)
    have d2 : wr.cell? ⟨b, o + i * 3 + 2, none⟩ = some (.string v) := dc 2 (by decide)
    clear dc hc hx
    by_cases hl1 : 60 < name.size
    case' pos =>
      have e1 : decide ((60 : Int) < (name.size : Int)) = true := decide_eq_true (by omega)
      go_wp2_with fail
      go_roundg (n - (i + 1))
      case rel => exact ⟨i + 1, bb, d, m, t, rfl, by go_num, by omega, rfl, (HO.out.push _).less, HI.out.more, HB.out.alloc (Nat.le_trans hAw HB.out.size) _⟩
      case measure => have := Hk.out; omega
    have e1 : decide ((60 : Int) < (name.size : Int)) = false := decide_eq_false (by omega)
    by_cases hl2 : 400 < v.size
    case' pos =>
      have e2 : decide ((400 : Int) < (v.size : Int)) = true := decide_eq_true (by omega)
      go_wp2_with fail
      go_roundg (n - (i + 1))
      case rel => exact ⟨i + 1, bb, d, m, t, rfl, by go_num, by omega, rfl, (HO.out.push _).less, HI.out.more, HB.out.alloc (Nat.le_trans hAw HB.out.size) _⟩
      case measure => have := Hk.out; omega
    have e2 : decide ((400 : Int) < (v.size : Int)) = false := decide_eq_false (by omega)
    obtain ⟨w6, hw6⟩ : ∃ w6 : World, w6 = wr.alloc (.cells #[.int .i64 what, .string name, .string v] 57) := ⟨_, rfl⟩
    have HB6 : Hid (Below A w w6) := by rw [hw6]; exact HB.out.alloc (Nat.le_trans hAw HB.out.size) _
    obtain ⟨b6, hb6⟩ : ∃ b6, wr.heap.size = b6 := ⟨_, rfl⟩
    have HO6 : Hid (OneB w6 A [b6] a bb ⟨d, m, t, false⟩) := by rw [hw6, ← hb6]; exact (HO.out.push _)
    have HC6 : Hid (w6.heap[b6]? = some (.cells #[.int .i64 what, .string name, .string v] 57)) := by show _ = _; rw [hw6, ← hb6]; exact heap_alloc_new wr _
    obtain ⟨c60, c61, c62, hb6l⟩ := nk_cells HC6.out
    have hA6 : A ≤ w6.heap.size := Nat.le_trans hAw HB6.out.size
    have Hw6 := Lib.hid hw6
    have Hb6 := Lib.hid hb6
    obtain ⟨W0, hW0⟩ : ∃ s, linesM m = s := ⟨_, rfl⟩
    have LB := ob_lines HO6.out HI.out.ok (by show m.length ≤ 100; omega)
    rw [hW0] at LB
    have HL6 := Lib.hid LB
    have HW0 := Lib.hid hW0
    clear hw6 LB hW0 HO HB
    go_wp2_with fail
    rw [← Hw6.out]
    try rw [Hb6.out]
    go_wp2_with fail
    refine HL6.out.mono ?_
    rintro e7 w7 ⟨rfl, hb7⟩
    have HO7 := Lib.hid (HO6.out.other hb7)
    have HB7 := Lib.hid (HB6.out.trans (hb7.mono hA6))
    have HC7 := Lib.hid ((hb7.block b6 hb6l).trans HC6.out)
    have hA7 : A ≤ w7.heap.size := Nat.le_trans hAw HB7.out.size
    obtain ⟨w8, hw8⟩ : ∃ w8 : World, w8 = w7.alloc (.cells #[.map none, .map none, .int .i64 0, .bool false, .int .i64 0, .bool false] 26) := ⟨_, rfl⟩
    obtain ⟨z, hz⟩ : ∃ z, w7.heap.size = z := ⟨_, rfl⟩
    have OZ := ob_openZ hA7 HO7.out hw8
    rw [hz] at OZ
    have HOZ := Lib.hid OZ
    have Hz := Lib.hid hz
    have Hw8 := Lib.hid hw8
    clear hb7 OZ hz hw8 HL6 HO6 HB6 HC6 d0 d1 d2 c60 c61 c62 Hw6 Hb6
    go_wp2_with fail
    rw [← Hw8.out, Hz.out]
    go_wp2_with fail
    refine HOZ.out.mono ?_
    rintro e9 w9 ⟨rfl, hT9, hb9⟩
    rw [← Hz.out] at hb9
    have HT9 := Lib.hid hT9
    have HB9 := Lib.hid (HB7.out.trans (hb9.mono hA7))
    have HC9 := Lib.hid ((hb9.block b6 (nk_cells HC7.out).2.2.2).trans HC7.out)
    have hA9 : A ≤ w9.heap.size := Nat.le_trans hAw HB9.out.size
    have BN := Lib.hid (tb_names HT9.out (by show m.length ≤ 1000; omega))
    clear hT9 hb9 HOZ Hz Hw8 HO7 HB7 HC7
    go_wp2_with fail
    refine BN.out.mono ?_
    rintro e10 w10 ⟨v10, rfl, hS10, ⟨hF10, -⟩, hb10⟩
    obtain ⟨X1, hT10, hS'⟩ := HT9.out.names hb10 hS10 hF10
    obtain ⟨X, hX⟩ : ∃ X, X1 ++ [b6] = X := ⟨_, rfl⟩
    rw [hX] at hT10
    have hbX : b6 ∈ X := by rw [← hX]; simp
    have hks : (sortB (m.map (·.1))).length = m.length := by rw [sortB_len, List.length_map]
    obtain ⟨ks, hkse⟩ : ∃ ks, sortB (m.map (·.1)) = ks := ⟨_, rfl⟩
    rw [hkse] at hS10 hS' hks
    have HS10 : Hid (∀ W, KeptX A X w10 W → Strs W v10 ks) := fun W hK => hS' W (hK.1.size) (fun k hk => hK.2 k (by rw [← hX]; simp [hk]))
    have HT10 := Lib.hid hT10
    have HB10 := Lib.hid (HB9.out.trans (hb10.mono hA9))
    have HC10 := Lib.hid ((hb10.block b6 (nk_cells HC9.out).2.2.2).trans HC9.out)
    have hA10 : A ≤ w10.heap.size := Nat.le_trans hAw HB10.out.size
    obtain ⟨an, cn, rfl, hcn, hmn, -⟩ := hS10.1
    unfold maxLen at hmn
    obtain ⟨n4, hn4⟩ : ∃ n, ks.length = n := ⟨_, rfl⟩
    rw [hn4] at hcn hks ⊢
    have Hn4 := Lib.hid hn4
    have Hkse := Lib.hid hkse
    have Hks := Lib.hid hks
    have HX := Lib.hid hX
    clear hks hS10 hF10 hb10 hT10 hS' hkse hn4 hX HT9 HB9 HC9 BN
    go_upto_block 2 with fail
    go_cut [79] (fun v79 wx => ∃ s2, TwoB wx A X a bb ⟨d, m, t, false⟩ z (z + 2) s2 ∧ Copied m m.length s2 ∧ KeptX A X w10 wx)
    case first =>
     go_wp2_with fail
     try go_frame
     go_loopg [79] n4 (fun k v79 wr => ∃ (j : Nat) (s2 : BkS), v79 = .int .i64 ((j : Nat) : Int) ∧ j ≤ n4 ∧ k = n4 - j ∧ TwoB wr A X a bb ⟨d, m, t, false⟩ z (z + 2) s2 ∧ Copied m j s2 ∧ KeptX A X w10 wr)
     case atStart => exact ⟨0, openB zeroD, rfl, Nat.zero_le _, rfl, HT10.out, Copied.zero m, KeptX.of_below (Below.refl _ _) hA10 HT10.out.xlt⟩
     case round =>
       obtain ⟨j, s2, rfl, hj, hk1, hT5, hC5, hK5⟩ := hrel
       have Hk1 := Lib.hid hk1
       have HT5 := Lib.hid hT5
       have HC5 := Lib.hid hC5
       have HK5 := Lib.hid hK5
       have hA5 : A ≤ wr.heap.size := Nat.le_trans hA10 hK5.1.size
       clear hk1 hT5 hC5 hK5
       by_cases hjl : j < n4
       case pos =>
         obtain ⟨an', cn', e, -, -, h5⟩ := (HS10.out _ HK5.out).1
         injection e with ea eb ec
         rw [Hn4.out] at h5
         obtain ⟨bn, on, h6, hbn, hcn5⟩ := h5.resolve_left (by omega)
         rw [h6] at ea
         obtain rfl := ea
         obtain ⟨zn, hzn⟩ : ∃ z, ks.getD j ⟨#[]⟩ = z := ⟨_, rfl⟩
         have dz : wr.cell? ⟨bn, on + j, none⟩ = some (.string zn) := by
           have h1 : wr.cell? ⟨bn, on + j * 1 + 0, none⟩ = some (.string (ks.getD j ⟨#[]⟩)) := hcn5 j 0 hjl (by decide)
           rw [hzn] at h1
           simpa using h1
         obtain ⟨q1, q2, q3, q4⟩ := Copied.step (n := zn) HI.out (by omega) (by have := Hks.out; omega) HC5.out (by rw [Hkse.out]; exact hzn)
         have TG := Lib.hid (tb_get HT5.out (n := zn) (by omega))
         obtain ⟨r0, hI5⟩ := HC5.out.1
         have hl5 := hI5.len
         have hks := Hks.out
         have TS := tb_set hA5 HT5.out.swap (hI5.good.mono (by omega) (Nat.le_refl _)) (n := zn) (v := nowOf m zn) (by omega) (by omega) (hI5.tsize (by omega)) (by omega)
         rw [q1, errV_zero] at TS
         have HTS := Lib.hid TS
         have HC5' := Lib.hid q2
         clear TS q1 q2 hI5 hl5 hks h5 h6 hcn5 eb ec hzn
         go_wp2_with fail
         refine TG.out.mono ?_
         rintro e5 w5 ⟨rfl, rfl⟩
         dsimp only
         go_wp2_with fail
         refine HTS.out.mono ?_
         rintro e6 w6' ⟨rfl, hT6, hK6⟩
         have HT6 := Lib.hid hT6
         have HK6 := Lib.hid (HK5.out.trans hK6)
         clear hT6 hK6 HTS TG dz
         go_wp2_with fail
         go_roundg (n4 - (j + 1))
         case rel => exact ⟨j + 1, _, by go_num, by omega, rfl, HT6.out.swap, HC5'.out, HK6.out⟩
         case measure => have := Hk1.out; omega
       obtain rfl : j = n4 := by omega
       rw [Hks.out] at HC5
       go_wp2_with fail
       go_meet
       case rel => exact ⟨s2, HT5.out, HC5.out, HK5.out⟩
    case rest =>
      obtain ⟨s2, hT5, hC5, hK5⟩ := hcut
      have HT5 := Lib.hid hT5
      have HC5 := Lib.hid hC5
      have HB5 := Lib.hid (HB10.out.trans hK5.1)
      have HC5c := Lib.hid ((hK5.2 b6 hbX).trans HC10.out)
      clear hT5 hC5 hK5
      apply_assumption
      refine wp_swq (mid_calls (w := w) (A := A) (a := a) (z := z) (i := i) (nc := nc) (cs := cs) (d := d) (m := m) (t := t) (s2 := s2) (b6 := b6) (what := what) (name := name) (v := v) (W0 := W0) (X := X) (by omega) (by omega) hl1 hl2 hml hbX hAw HAe Hc Hnc Hokc HV HI HC5 HW0 HT5 HB5 HC5c ?_)
      intros
      rename_i bb2 d9 m' t' wx hO22 hI22 hB22
      have HO22 := Lib.hid hO22
      have HX2 := Lib.hid hI22
      have HB22 := Lib.hid hB22
      clear hO22 hI22 hB22
      go_wp2_with fail
      go_roundg (n - (i + 1))
      case rel => exact ⟨i + 1, bb2, d9, m', t', rfl, by go_num, by omega, rfl, HO22.out, HX2.out, HB22.out⟩
      case measure => have := Hk.out; omega
end Go.Proofs.YtodmnogoacghpaaGreatDoor
namespace Go.Proofs.YtodmnogoacghpaaGreatDoor
open Go.RowKit Go.ChangeShapes Go.WideShapes Go.ChangeAt

theorem rb_cInt : Tryz.prog.cellsOf 3 = 1 := by kernel_rfl
theorem rb_cStr : Tryz.prog.cellsOf 9 = 1 := by kernel_rfl
theorem rb_cNote : Tryz.prog.cellsOf 57 = 3 := by kernel_rfl
section
variable {H : Type} {enc : TypeId × Value → H} {w : World} {base fuel : Nat} {sp : Nat → Bool} {held : Bool} {x : DataW H × List MemPlace}
theorem rb_int {v : Value} (h : DataW.trod enc Tryz.prog w base sp held fuel 3 [v] = some x) : ∃ n : Int, v = .int .i64 n ∧ InJ2 n := by
  obtain ⟨n, h1, _, h2⟩ := DataW.trod_int Tryz.underlying3 h
  exact ⟨n, by simpa using h1, bounds_i64 h2⟩
theorem rb_str {v : Value} (h : DataW.trod enc Tryz.prog w base sp held fuel 9 [v] = some x) : ∃ s : ByteArray, v = .string s ∧ s.size ≤ maxLen := by
  obtain ⟨s, h1, _, h2⟩ := DataW.trod_string Tryz.underlying9 h
  exact ⟨s, by simpa using h1, h2⟩
theorem rd_notesK {v : Value} (h : DataW.trod enc Tryz.prog w base sp held fuel 55 [v] = some x) : ∃ l, NotesK w v l := by
  obtain ⟨n, m, R, hS, hE⟩ := open_sl Tryz.underlying55 rb_cNote (by decide) h
  obtain ⟨T, hT⟩ := Deep.choose_lt (α := NoteK) (p := fun i a => (∀ j, j < 3 → R i j = noteK a j) ∧ NoteKOk a) (fun i (hi : i < n) => by
    obtain ⟨y, hy⟩ := hE i hi
    obtain ⟨y0, y1, y2, n, _, _, h0, h1, h2⟩ := Deep.trod_struct3 Tryz.underlying57 hy
    rw [rb_cInt] at h0
    rw [rb_cStr] at h1 h2
    obtain ⟨a, ha, k0⟩ := rb_int (v := R i 0) h0
    obtain ⟨c, hc, k2⟩ := rb_str (v := R i 1) h1
    obtain ⟨d, hd, k3⟩ := rb_str (v := R i 2) h2
    refine ⟨(a, (c, d)), fun j hj => ?_, k0, k2, k3⟩
    match j, hj with
    | 0, _ => exact ha
    | 1, _ => exact hc
    | 2, _ => exact hd)
  refine ⟨(List.range n).map T, ?_, fun a ha => ?_⟩
  · rw [List.length_map, List.length_range]
    refine hS.congr fun i j hi hj => ?_
    have hg : ((List.range n).map T).getD i noK2 = T i := by simp [List.getD, hi]
    rw [hg]
    exact (hT i hi).1 j hj
  · obtain ⟨i, hi, rfl⟩ := List.mem_map.1 ha
    exact (hT i (List.mem_range.1 hi)).2
theorem rd_ints {v : Value} (h : DataW.trod enc Tryz.prog w base sp held fuel 56 [v] = some x) : ∃ l, IntsK w v l := by
  obtain ⟨n, m, R, hS, hE⟩ := open_sl Tryz.underlying56 rb_cInt (by decide) h
  obtain ⟨T, hT⟩ := Deep.choose_lt (α := Int) (p := fun i a => R i 0 = .int .i64 a ∧ InJ2 a) (fun i (hi : i < n) => by
    obtain ⟨y, hy⟩ := hE i hi
    obtain ⟨a, ha, k0⟩ := rb_int (v := R i 0) hy
    exact ⟨a, ha, k0⟩)
  refine ⟨(List.range n).map T, ?_, fun a ha => ?_⟩
  · rw [List.length_map, List.length_range]
    refine hS.congr fun i j hi hj => ?_
    have hg : ((List.range n).map T).getD i 0 = T i := by simp [List.getD, hi]
    rw [hg]
    obtain rfl : j = 0 := by omega
    exact (hT i hi).1
  · obtain ⟨i, hi, rfl⟩ := List.mem_map.1 ha
    exact (hT i (List.mem_range.1 hi)).2
end
end Go.Proofs.YtodmnogoacghpaaGreatDoor
