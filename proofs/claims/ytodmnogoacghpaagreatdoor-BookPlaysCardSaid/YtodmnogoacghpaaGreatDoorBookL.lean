/- BookPlays. (Written by gen_bookl.py.) -/
import Derived.Test.YtodmnogoacghpaaGreatDoorBookK
namespace Go.Proofs.YtodmnogoacghpaaGreatDoor
open Go.RowKit
set_option maxRecDepth 100000
set_option maxHeartbeats 8000000

abbrev NoteD := Int × (ByteArray × ByteArray)
def noteCell (x : NoteD) : Nat → Value
  | 0 => .int .i64 x.1
  | 1 => .string x.2.1
  | _ => .string x.2.2
def noNote : NoteD := (0, (⟨#[]⟩, ⟨#[]⟩))
def InJ (n : Int) : Prop := -9223372036854775808 ≤ n ∧ n ≤ 9223372036854775807
def NoteOk (x : NoteD) : Prop := InJ x.1 ∧ x.2.1.size ≤ maxLen ∧ x.2.2.size ≤ maxLen
def Notes (w : World) (v : Value) (l : List NoteD) : Prop := Sl w v l.length 3 (fun i j => noteCell (l.getD i noNote) j) ∧ ∀ x ∈ l, NoteOk x
theorem noNote_ok : NoteOk noNote := ⟨⟨by decide, by decide⟩, Nat.zero_le _, Nat.zero_le _⟩
theorem Notes.get {l : List NoteD} (h : ∀ x ∈ l, NoteOk x) (i : Nat) : NoteOk (l.getD i noNote) := by
  rcases Nat.lt_or_ge i l.length with h' | h'
  · rw [List.getD_eq_getElem?_getD, List.getElem?_eq_getElem h']
    exact h _ (List.getElem_mem h')
  · rw [List.getD_eq_getElem?_getD, List.getElem?_eq_none h']
    exact noNote_ok
theorem note_cells {W : World} {b6 : Nat} {what : Int} {name v : ByteArray} (h : W.heap[b6]? = some (.cells #[.int .i64 what, .string name, .string v] 37)) :
    W.cell? ⟨b6, 0, none⟩ = some (.int .i64 what) ∧ W.cell? ⟨b6, 1, none⟩ = some (.string name) ∧ W.cell? ⟨b6, 2, none⟩ = some (.string v) ∧ b6 < W.heap.size := by
  refine ⟨by simp [World.cell?, h], by simp [World.cell?, h], by simp [World.cell?, h], ?_⟩
  rcases Nat.lt_or_ge b6 W.heap.size with h' | h'
  · exact h'
  · rw [Array.getElem?_eq_none h'] at h; cases h
theorem setB_bad {s : BkS} {n v : ByteArray} (hd : s.dn = false) (h : rightB n v = false) : setB s n v = (1, s) := by
  unfold setB
  rw [if_neg (by rw [hd]; decide), if_pos h]

theorem k_writeG {w : World} {B : Nat} {X : List Nat} {a bb ar k : Nat} {s : BkS} {r : DiskD} (hB : B ≤ w.heap.size) (h : TwoK w B X a bb ar s r) (hg : GoodD k 400 r) (hk : k ≤ 60) {n v : ByteArray} (hn : n.size ≤ 60) (hv : v.size ≤ 400) :
    Calls Tryz.prog 11 #[.pointer (some ⟨ar, 0, none⟩), .string n, .string v] w fun e w' => (∃ x, e = .returned (.int .i64 x)) ∧ TwoK w' B X a bb ar s (writeD r n v).2 ∧ KeptX B X w w' := by
  obtain ⟨F, bf, G, hP, hR, h1, h2, h3, h4, h5, h6⟩ := h
  have hl : r.fs.length < 1000000 := by have := hg.len; omega
  have htot : ftot r.fs ≤ 1000000000 := by
    have := hg.tot
    have h2 : k * 400 ≤ 60 * 400 := Nat.mul_le_mul_right _ hk
    omega
  refine (rwrite_calls w ar bf G r n v hR hg.nodup hl htot hg.left (by unfold maxLen; omega) (by omega)).mono ?_
  rintro e w' ⟨rfl, hs⟩
  exact ⟨⟨_, rfl⟩, TwoK.stepR hB hP hR h1 h2 h3 h4 h5 h6 hs⟩
theorem k_removeG {w : World} {B : Nat} {X : List Nat} {a bb ar k : Nat} {s : BkS} {r : DiskD} (hB : B ≤ w.heap.size) (h : TwoK w B X a bb ar s r) (hg : GoodD k 400 r) (hk : k ≤ 60) {n : ByteArray} (hn : n.size ≤ 60) :
    Calls Tryz.prog 10 #[.pointer (some ⟨ar, 0, none⟩), .int .i64 2, .string n, .string ⟨#[]⟩] w fun e w' => (∃ x, e = .returned (.int .i64 x)) ∧ TwoK w' B X a bb ar s (removeD r n).2 ∧ KeptX B X w w' := by
  obtain ⟨F, bf, G, hP, hR, h1, h2, h3, h4, h5, h6⟩ := h
  have hl : r.fs.length < 1000000 := by have := hg.len; omega
  refine (rremove_calls w ar bf G r n ⟨#[]⟩ hR hg.nodup hl hg.left (by unfold maxLen; omega) (by decide)).mono ?_
  rintro e w' ⟨rfl, hs⟩
  exact ⟨⟨_, rfl⟩, TwoK.stepR hB hP hR h1 h2 h3 h4 h5 h6 hs⟩
theorem bookPlays_calls (v : Value) (l : List NoteD) (w : World) (hv : ErrVar w) (hm : MaxV w) (hA : Notes w v l) :
    Calls Tryz.prog 3 #[v] w fun e w' => e = .returned (.bool true) ∧ Below w.heap.size w w' := by
  obtain ⟨⟨aa, ca, rfl, hca, hma, hcella⟩, hok⟩ := hA
  unfold maxLen at hma
  obtain ⟨n, hn⟩ : ∃ n, l.length = n := ⟨_, rfl⟩
  rw [hn] at hca hcella ⊢
  have Ha := Lib.hid hcella
  have Hok := Lib.hid (Notes.get hok)
  have Hv := Lib.hid hv
  have hgl := hm.lt
  have Hm := Lib.hid hm
  clear hcella hok hn hv hm
  by_cases h60 : n > 60
  · have e60 : decide (60 < (n : Int)) = true := decide_eq_true (by omega)
    go_enter Tryz.func3, Tryz.ntmps3
    go_wp2_with fail
    go_ret
    exact ⟨rfl, Below.refl _ _⟩
  have e60 : decide (60 < (n : Int)) = false := decide_eq_false (by omega)
  obtain ⟨A, hAe⟩ : ∃ A, w.heap.size = A := ⟨_, rfl⟩
  obtain ⟨w0, hw0⟩ : ∃ w0 : World, w0 = w.alloc (.cells #[.map none, .map none, .int .i64 0, .bool false, .int .i64 0, .bool false] 26) := ⟨_, rfl⟩
  have hz0 : w0.heap.size = A + 1 := by rw [hw0]; simp [hAe]
  have HB0 : Hid (Below A w w0) := by rw [hw0]; exact (Below.refl _ _).alloc (by omega) _
  have hP0 : PDisk w0 A [A] zeroD := ⟨_, _, 0, 0, ⟨by rw [hw0, ← hAe]; exact heap_alloc_new w _, (fun h => absurd h (by decide)), (fun h => absurd h (by decide))⟩, Or.inl ⟨rfl, rfl, rfl, rfl⟩⟩
  have hm0 : MaxV w0 := Hm.out.below (by rw [hAe]; exact HB0.out)
  have OP := Lib.hid (open_calls w0 [A] A zeroD hP0 hm0 (GoodD.zero _ _))
  have Hm0 := Lib.hid hm0
  have Hw0 := Lib.hid hw0
  have Hz0 := Lib.hid hz0
  have HAe := Lib.hid hAe
  have HV : Hid (∀ W, Below A w W → ErrVar W) := fun W hb => Hv.out.below (by rw [hAe]; exact hb)
  have hAw : A ≤ w.heap.size := by omega
  rw [hAe] at hgl
  clear hw0 hP0 hm0
  go_enter Tryz.func3, Tryz.ntmps3
  go_wp2_with fail
  rw [← Hw0.out]
  go_wp2_with fail
  refine OP.out.mono ?_
  rintro e1 w1 ⟨rfl, hb1, hK1⟩
  rw [hz0] at hb1 hK1 ⊢
  have HK1 := Lib.hid hK1
  have HB1 : Hid (Below A w w1) := HB0.out.trans (hb1.mono (by omega))
  have Hb1 := Lib.hid hb1
  have hz1 : A + 1 ≤ w1.heap.size := by have := hb1.size; omega
  have ON := Lib.hid (openNil_calls w1)
  clear hK1 hb1 OP
  go_wp2_with fail
  refine ON.out.mono ?_
  rintro e2 w2 ⟨rfl, rfl⟩
  go_wp2_with fail
  refine (dbare_calls 7 7 _ (HV.out _ HB1.out)).mono ?_
  rintro e3 w3 ⟨rfl, hb3⟩
  rw [show ((7 : Int) == 7) = true by rfl]
  have HB3 : Hid (Below A w w3) := HB1.out.trans (hb3.mono (by omega))
  have Hb3 := Lib.hid hb3
  have hz3 : A + 1 ≤ w3.heap.size := by have := hb3.size; omega
  have ND := Lib.hid (newDisk_calls w3)
  clear hb3 ON
  go_wp2_with fail
  refine ND.out.mono ?_
  rintro e4 w4 ⟨rfl, hR4, hb4⟩
  obtain ⟨R, hR⟩ : ∃ R, w3.heap.size + 1 = R := ⟨_, rfl⟩
  rw [hR] at hR4 ⊢
  have HB4 : Hid (Below A w w4) := HB3.out.trans (hb4.mono (by omega))
  have HT4 : Hid (TwoK w4 A [] A (A + 2) R (openB zeroD) zeroD) := by
    have hK1 : BkF w1 ((A + 2) :: (A + 1) :: [A]) A (A + 2) (openB zeroD).d (openB zeroD).m (openB zeroD).t (openB zeroD).dn := HK1.out
    have hK3 := hK1.below Hb3.out
    have hK4 := hK3.below hb4
    have hlt := hK3.lt
    have hin : ∀ k ∈ (A + 2) :: (A + 1) :: [A], A ≤ k := fun k hk => by
      simp only [List.mem_cons, List.not_mem_nil, or_false] at hk
      omega
    refine ⟨_, w3.heap.size, [], hK4, hR4, fun k hk => ⟨by have := hlt k hk; omega, by have := hlt k hk; omega, by simp⟩, hin, ⟨by omega, by omega, (fun k hk => (by cases hk))⟩, (fun k hk => (by cases hk)), Hm.out.below (by rw [HAe.out]; exact HB4.out), hgl⟩
  clear hR4 hb4 ND HK1 Hb1 Hb3 Hw0 Hz0 hz1 hz3 hz0 HB0 HB1 HB3 hR
  try go_frame
  go_wp2_with fail
  go_loopg [4, 9] n (fun k v4 v9 wr => ∃ (i bb : Nat) (s : BkS) (r : DiskD), v4 = .pointer (some ⟨bb, 0, none⟩) ∧ v9 = .int .i64 ((i : Nat) : Int) ∧ i ≤ n ∧ k = n - i ∧ TwoK wr A [] A bb R s r ∧ BInv i s r ∧ Below A w wr)
  case atStart => exact ⟨0, A + 2, openB zeroD, zeroD, rfl, rfl, Nat.zero_le _, rfl, HT4.out, BInv.start _ _ rfl rfl, HB4.out⟩
  case round =>
    obtain ⟨i, bb, s, r, rfl, rfl, hi, hk, hT, hI, hB⟩ := hrel
    have HT := Lib.hid hT
    have HI := Lib.hid hI
    have HB := Lib.hid hB
    have Hk := Lib.hid hk
    clear hT hI hB hk
    by_cases hlt : i < n
    case' neg =>
      go_wp2_with fail
      go_ret
      exact ⟨rfl, by rw [HAe.out]; exact HB.out⟩
    obtain ⟨b, o, rfl, hb, hc⟩ := Ha.out.resolve_left (by omega)
    obtain ⟨⟨what, name, v⟩, hx⟩ : ∃ x : NoteD, l.getD i noNote = x := ⟨_, rfl⟩
    have hox := Hok.out i
    rw [hx] at hox
    obtain ⟨⟨hw1, hw2⟩, hf, ht⟩ := hox
    dsimp only at hw1 hw2 hf ht
    unfold maxLen at hf ht
    have dc : ∀ j, j < 3 → wr.cell? ⟨b, o + i * 3 + j, none⟩ = some (noteCell (what, (name, v)) j) := fun j hj => (HB.out.cell (p := ⟨b, o + i * 3 + j, none⟩) (show b < A by omega)).trans (by rw [hc i j hlt hj, hx])
    have d0 : wr.cell? ⟨b, o + i * 3, none⟩ = some (.int .i64 what) := dc 0 (by decide)
    have d1 : wr.cell? ⟨b, o + i * 3 + 1, none⟩ = some (.string name) := dc 1 (by decide)
    have d2 : wr.cell? ⟨b, o + i * 3 + 2, none⟩ = some (.string v) := dc 2 (by decide)
    clear dc hc hx
    by_cases hl1 : 60 < name.size
    case' pos =>
      have e1 : decide ((60 : Int) < (name.size : Int)) = true := decide_eq_true (by omega)
      go_wp2_with fail
      go_roundg (n - (i + 1))
      case rel => exact ⟨i + 1, bb, s, r, rfl, by go_num, by omega, rfl, (HT.out.push _).less, HI.out.mono, HB.out.alloc (Nat.le_trans hAw HB.out.size) _⟩
      case measure => have := Hk.out; omega
    have e1 : decide ((60 : Int) < (name.size : Int)) = false := decide_eq_false (by omega)
    by_cases hl2 : 400 < v.size
    case' pos =>
      have e2 : decide ((400 : Int) < (v.size : Int)) = true := decide_eq_true (by omega)
      go_wp2_with fail
      go_roundg (n - (i + 1))
      case rel => exact ⟨i + 1, bb, s, r, rfl, by go_num, by omega, rfl, (HT.out.push _).less, HI.out.mono, HB.out.alloc (Nat.le_trans hAw HB.out.size) _⟩
      case measure => have := Hk.out; omega
    have e2 : decide ((400 : Int) < (v.size : Int)) = false := decide_eq_false (by omega)
    obtain ⟨w6, hw6⟩ : ∃ w6 : World, w6 = wr.alloc (.cells #[.int .i64 what, .string name, .string v] 37) := ⟨_, rfl⟩
    have HB6 : Hid (Below A w w6) := by rw [hw6]; exact HB.out.alloc (Nat.le_trans hAw HB.out.size) _
    obtain ⟨b6, hb6⟩ : ∃ b6, wr.heap.size = b6 := ⟨_, rfl⟩
    have HT6 : Hid (TwoK w6 A [b6] A bb R s r) := by rw [hw6, ← hb6]; exact (HT.out.push _)
    have HC6 : Hid (w6.heap[b6]? = some (.cells #[.int .i64 what, .string name, .string v] 37)) := by show _ = _; rw [hw6, ← hb6]; exact heap_alloc_new wr _
    obtain ⟨c60, c61, c62, hb6l⟩ := note_cells HC6.out
    have hA6 : A ≤ w6.heap.size := Nat.le_trans hAw HB6.out.size
    have Hw6 := Lib.hid hw6
    have Hb6 := Lib.hid hb6
    clear hw6
    by_cases hq0 : what = 0
    case' pos =>
      cases hr : rightB name v
      case' false =>
        have e0 : (what == 0) = true := by simp [hq0]
        have HLN := Lib.hid (line_calls name v w6 (by omega) (by omega))
        rw [hr] at HLN
        have KS := Lib.hid (k_set hA6 HT6.out HI.out (by omega) (n := name) (v := v) (by omega) (by omega))
        rw [setB_bad HI.out.dn hr] at KS
        have hrr := Lib.hid hr
        clear hr
        subst hq0
        go_wp2_with fail
        rw [← Hw6.out]
        go_wp2_with fail
        refine HLN.out.mono ?_
        rintro e7 w7 ⟨rfl, rfl⟩
        go_wp2_with fail
        refine KS.out.mono ?_
        rintro e8 w8 ⟨rfl, hT8, hX8⟩
        have HB8 := Lib.hid (HB6.out.trans hX8.1)
        have HC8 := Lib.hid ((hX8.2 b6 (by simp)).trans HC6.out)
        have HT8 := Lib.hid hT8
        clear hT8 hX8 KS HLN HT6 HT d0 d1 d2
        obtain ⟨c80, c81, c82, hb8l⟩ := note_cells HC8.out
        clear c60 c61 c62
        go_wp2_with fail
        refine (dbare_calls 1 1 _ (HV.out _ HB8.out)).mono ?_
        rintro ex w9 ⟨rfl, hb9⟩
        rw [show ((1 : Int) == 1) = true by rfl]
        have HT9 := Lib.hid (HT8.out.other hb9)
        have HB9 := Lib.hid (HB8.out.trans (hb9.mono (Nat.le_trans hAw HB8.out.size)))
        have HC9 := Lib.hid ((hb9.block b6 (note_cells HC8.out).2.2.2).trans HC8.out)
        have HI9 := Lib.hid HI.out.mono
        obtain ⟨s9, hs9⟩ : ∃ s9, s9 = s := ⟨_, rfl⟩
        obtain ⟨r9, hr9⟩ : ∃ r9, r9 = r := ⟨_, rfl⟩
        obtain ⟨b9, hb9'⟩ : ∃ b9, b9 = bb := ⟨_, rfl⟩
        rw [← hs9, ← hr9] at HI9 HT9
        rw [← hb9'] at HT9 ⊢
        clear hb9 HT8 HB8 HC8 c80 c81 c82 hs9 hr9 hb9'
        have hA9 : A ≤ w9.heap.size := Nat.le_trans hAw HB9.out.size
        have HNM : Hid (∀ U, Below w9.heap.size w9 U → U.cell? ⟨b6, 1, none⟩ = some (.string name)) := fun U hb => by
          obtain ⟨-, h, -, hl⟩ := note_cells HC9.out
          exact (hb.cell (p := ⟨b6, 1, none⟩) hl).trans h
        obtain ⟨bf, P, hLK⟩ := k_look HT9.out HI9.out (f := name) (by omega)
        obtain ⟨nw, hnw⟩ : ∃ nw, nowOf s9.m name = nw := ⟨_, rfl⟩
        rw [hnw] at hLK
        have HLK := Lib.hid hLK
        have Hnw := Lib.hid hnw
        clear hLK hnw
        go_wp2_with fail
        refine wp_region_held_drew (S := fun w' => Below w9.heap.size w9 w') (by kernel_rfl) ?_ (fun hHeld => ?_)
        · exact (Below.refl _ _).drew
        refine wpAnyH_take (i := 0) (oi := _) (v := .pointer (some ⟨b9, 0, none⟩)) rfl (by kernel_rfl) (by kernel_rfl) (by kernel_rfl) (fun _ _ _ h => h) (Or.inl ⟨by kernel_rfl, fun w hSw => ?_⟩) hHeld ?_
        · (try dsimp only at hSw); go_simp
        try simp only [Act.put, List.getElem_toArray, List.getElem_cons_zero, List.setIfInBounds_toArray, List.set_cons_zero, List.set_cons_succ]
        refine wpAnyH_ready (rs := [1]) (by kernel_rfl) (by simp) ?_
        refine AllReadyH.cons (o := _) rfl (fun K hK => ?_) AllReadyH.nil
        go_simp
        go_at_call 13
        refine (k_down (HT9.out.other hHeld)).mono ?_
        rintro e11 w11 ⟨rfl, rfl⟩
        rw [HI9.out.dn]
        refine hK.out _ _ hHeld (fun hHeld2 => ?_)
        clear hK K hHeld
        have hHeld := hHeld2
        clear hHeld2
        try simp only [Act.put, List.getElem_toArray, List.getElem_cons_succ, List.getElem_cons_zero, List.setIfInBounds_toArray, List.set_cons_zero, List.set_cons_succ]
        refine wpAnyH_take (i := 2) (oi := _) (v := .bool false) rfl (by kernel_rfl) (by kernel_rfl) (by kernel_rfl) (fun _ _ _ h => h) (Or.inl ⟨by kernel_rfl, fun w hSw => ?_⟩) hHeld ?_
        · (try dsimp only at hSw); go_simp
        try simp only [Act.put, List.getElem_toArray, List.getElem_cons_succ, List.getElem_cons_zero, List.setIfInBounds_toArray, List.set_cons_zero, List.set_cons_succ]
        refine wpAnyH_take (i := 3) (oi := _) (v := .pointer (some ⟨b9, 0, none⟩)) rfl (by kernel_rfl) (by kernel_rfl) (by kernel_rfl) (fun _ _ _ h => h) (Or.inl ⟨by kernel_rfl, fun w hSw => ?_⟩) hHeld ?_
        · (try dsimp only at hSw); go_simp
        try simp only [Act.put, List.getElem_toArray, List.getElem_cons_succ, List.getElem_cons_zero, List.setIfInBounds_toArray, List.set_cons_zero, List.set_cons_succ]
        refine wpAnyH_take (i := 4) (oi := _) (v := .pointer (some ⟨b6, 1, none⟩)) rfl (by kernel_rfl) (by kernel_rfl) (by kernel_rfl) (fun _ _ _ h => h) (Or.inl ⟨by kernel_rfl, fun w hSw => ?_⟩) hHeld ?_
        · (try dsimp only at hSw); go_simp
        try simp only [Act.put, List.getElem_toArray, List.getElem_cons_succ, List.getElem_cons_zero, List.setIfInBounds_toArray, List.set_cons_zero, List.set_cons_succ]
        refine wpAnyH_take (i := 5) (oi := _) (v := .string name) rfl (by kernel_rfl) (by kernel_rfl) (by kernel_rfl) (fun _ _ _ h => h) (Or.inl ⟨by kernel_rfl, fun w hSw => ?_⟩) hHeld ?_
        · (try dsimp only at hSw); have hh := HNM.out _ hSw; go_simp
        try simp only [Act.put, List.getElem_toArray, List.getElem_cons_succ, List.getElem_cons_zero, List.setIfInBounds_toArray, List.set_cons_zero, List.set_cons_succ]
        refine wpAnyH_take (i := 7) (oi := _) (v := .pointer (some ⟨R, 0, none⟩)) rfl (by kernel_rfl) (by kernel_rfl) (by kernel_rfl) (fun _ _ _ h => h) (Or.inl ⟨by kernel_rfl, fun w hSw => ?_⟩) hHeld ?_
        · (try dsimp only at hSw); go_simp
        try simp only [Act.put, List.getElem_toArray, List.getElem_cons_succ, List.getElem_cons_zero, List.setIfInBounds_toArray, List.set_cons_zero, List.set_cons_succ]
        refine wpAnyH_take (i := 8) (oi := _) (v := .pointer (some ⟨R, 0, none⟩)) rfl (by kernel_rfl) (by kernel_rfl) (by kernel_rfl) (fun _ _ _ h => h) (Or.inl ⟨by kernel_rfl, fun w hSw => ?_⟩) hHeld ?_
        · (try dsimp only at hSw); go_simp
        try simp only [Act.put, List.getElem_toArray, List.getElem_cons_succ, List.getElem_cons_zero, List.setIfInBounds_toArray, List.set_cons_zero, List.set_cons_succ]
        refine wpAnyH_take (i := 9) (oi := _) (v := .pointer (some ⟨R, 0, none⟩)) rfl (by kernel_rfl) (by kernel_rfl) (by kernel_rfl) (fun _ _ _ h => h) (Or.inl ⟨by kernel_rfl, fun w hSw => ?_⟩) hHeld ?_
        · (try dsimp only at hSw); go_simp
        try simp only [Act.put, List.getElem_toArray, List.getElem_cons_succ, List.getElem_cons_zero, List.setIfInBounds_toArray, List.set_cons_zero, List.set_cons_succ]
        refine wpAnyH_take (i := 10) (oi := _) (v := .map (some bf)) rfl (by kernel_rfl) (by kernel_rfl) (by kernel_rfl) (fun _ _ _ h => h) (Or.inl ⟨by kernel_rfl, fun w hSw => ?_⟩) hHeld ?_
        · (try dsimp only at hSw); have hh := (HLK.out _ hSw).1; go_simp
        try simp only [Act.put, List.getElem_toArray, List.getElem_cons_succ, List.getElem_cons_zero, List.setIfInBounds_toArray, List.set_cons_zero, List.set_cons_succ]
        refine wpAnyH_take (i := 11) (oi := _) (v := .pointer (some ⟨b6, 1, none⟩)) rfl (by kernel_rfl) (by kernel_rfl) (by kernel_rfl) (fun _ _ _ h => h) (Or.inl ⟨by kernel_rfl, fun w hSw => ?_⟩) hHeld ?_
        · (try dsimp only at hSw); go_simp
        try simp only [Act.put, List.getElem_toArray, List.getElem_cons_succ, List.getElem_cons_zero, List.setIfInBounds_toArray, List.set_cons_zero, List.set_cons_succ]
        refine wpAnyH_take (i := 12) (oi := _) (v := .string name) rfl (by kernel_rfl) (by kernel_rfl) (by kernel_rfl) (fun _ _ _ h => h) (Or.inl ⟨by kernel_rfl, fun w hSw => ?_⟩) hHeld ?_
        · (try dsimp only at hSw); have hh := HNM.out _ hSw; go_simp
        try simp only [Act.put, List.getElem_toArray, List.getElem_cons_succ, List.getElem_cons_zero, List.setIfInBounds_toArray, List.set_cons_zero, List.set_cons_succ]
        refine wpAnyH_take (i := 13) (oi := _) (v := .agg #[.string nw, .pointer P]) rfl (by kernel_rfl) (by kernel_rfl) (by kernel_rfl) (fun _ _ _ h => h) (Or.inl ⟨by kernel_rfl, fun w hSw => ?_⟩) hHeld ?_
        · (try dsimp only at hSw); have hh := (HLK.out _ hSw).2; simp only [execOp]; go_simp
        try simp only [Act.put, List.getElem_toArray, List.getElem_cons_succ, List.getElem_cons_zero, List.setIfInBounds_toArray, List.set_cons_zero, List.set_cons_succ]
        refine wpAnyH_take (i := 14) (oi := _) (v := .string nw) rfl (by kernel_rfl) (by kernel_rfl) (by kernel_rfl) (fun _ _ _ h => h) (Or.inl ⟨by kernel_rfl, fun w hSw => ?_⟩) hHeld ?_
        · (try dsimp only at hSw); kernel_rfl
        try simp only [Act.put, List.getElem_toArray, List.getElem_cons_succ, List.getElem_cons_zero, List.setIfInBounds_toArray, List.set_cons_zero, List.set_cons_succ]
        refine wpAnyH_ready (rs := [6]) (by kernel_rfl) (by simp) ?_
        refine AllReadyH.cons (o := _) rfl (fun K hK => ?_) AllReadyH.nil
        go_simp
        go_at_call 14
        refine (k_get (HT9.out.other hHeld) (n := name) (by omega)).mono ?_
        rintro e12 w12 ⟨rfl, rfl⟩
        rw [Hnw.out]
        refine hK.out _ _ hHeld (fun hHeld2 => ?_)
        clear hK K hHeld
        have hHeld := hHeld2
        clear hHeld2
        try simp only [Act.put, List.getElem_toArray, List.getElem_cons_succ, List.getElem_cons_zero, List.setIfInBounds_toArray, List.set_cons_zero, List.set_cons_succ]
        refine wpAnyH_take (i := 15) (oi := _) (v := .bool false) rfl (by kernel_rfl) (by kernel_rfl) (by kernel_rfl) (fun _ _ _ h => h) (Or.inl ⟨by kernel_rfl, fun w hSw => ?_⟩) hHeld ?_
        · (try dsimp only at hSw); go_simp
        try simp only [Act.put, List.getElem_toArray, List.getElem_cons_succ, List.getElem_cons_zero, List.setIfInBounds_toArray, List.set_cons_zero, List.set_cons_succ]
        refine wpAnyH_take (i := 16) (oi := _) (v := .bool false) rfl (by kernel_rfl) (by kernel_rfl) (by kernel_rfl) (fun _ _ _ h => h) (Or.inl ⟨by kernel_rfl, fun w hSw => ?_⟩) hHeld ?_
        · (try dsimp only at hSw); go_simp
        try simp only [Act.put, List.getElem_toArray, List.getElem_cons_succ, List.getElem_cons_zero, List.setIfInBounds_toArray, List.set_cons_zero, List.set_cons_succ]
        refine wpAnyH_take (i := 17) (oi := _) (v := .bool false) rfl (by kernel_rfl) (by kernel_rfl) (by kernel_rfl) (fun _ _ _ h => h) (Or.inl ⟨by kernel_rfl, fun w hSw => ?_⟩) hHeld ?_
        · (try dsimp only at hSw); go_simp
        try simp only [Act.put, List.getElem_toArray, List.getElem_cons_succ, List.getElem_cons_zero, List.setIfInBounds_toArray, List.set_cons_zero, List.set_cons_succ]
        refine wpAnyH_take (i := 18) (oi := _) (v := .pointer (some ⟨b9, 0, none⟩)) rfl (by kernel_rfl) (by kernel_rfl) (by kernel_rfl) (fun _ _ _ h => h) (Or.inl ⟨by kernel_rfl, fun w hSw => ?_⟩) hHeld ?_
        · (try dsimp only at hSw); go_simp
        try simp only [Act.put, List.getElem_toArray, List.getElem_cons_succ, List.getElem_cons_zero, List.setIfInBounds_toArray, List.set_cons_zero, List.set_cons_succ]
        refine wpAnyH_take (i := 20) (oi := _) (v := .pointer (some ⟨R, 0, none⟩)) rfl (by kernel_rfl) (by kernel_rfl) (by kernel_rfl) (fun _ _ _ h => h) (Or.inl ⟨by kernel_rfl, fun w hSw => ?_⟩) hHeld ?_
        · (try dsimp only at hSw); go_simp
        try simp only [Act.put, List.getElem_toArray, List.getElem_cons_succ, List.getElem_cons_zero, List.setIfInBounds_toArray, List.set_cons_zero, List.set_cons_succ]
        refine wpAnyH_ready (rs := [19]) (by kernel_rfl) (by simp) ?_
        refine AllReadyH.cons (o := _) rfl (fun K hK => ?_) AllReadyH.nil
        go_simp
        go_at_call 16
        refine (k_bnames (HT9.out.other hHeld) HI9.out (by omega)).mono ?_
        rintro e13 w13 ⟨v13, rfl, hS13, hb13⟩
        have HS13 := Lib.hid hS13
        have HB13 := Lib.hid (hHeld.trans (hb13.mono hHeld.size))
        clear hS13
        refine hK.out _ _ HB13.out (fun hHeld2 => ?_)
        clear hb13
        clear hK K hHeld
        have hHeld := hHeld2
        clear hHeld2
        try simp only [Act.put, List.getElem_toArray, List.getElem_cons_succ, List.getElem_cons_zero, List.setIfInBounds_toArray, List.set_cons_zero, List.set_cons_succ]
        refine wpAnyH_ready (rs := [21]) (by kernel_rfl) (by simp) ?_
        refine AllReadyH.cons (o := _) rfl (fun K hK => ?_) AllReadyH.nil
        go_simp
        go_at_call 17
        refine (k_names (HT9.out.other hHeld) HI9.out (by omega)).mono ?_
        rintro e14 w14 ⟨v14, rfl, hS14, hb14⟩
        have HS14 := Lib.hid hS14
        have HSB := Lib.hid (HS13.out.below hb14 (Nat.le_refl _))
        refine hK.out _ _ (hHeld.trans (hb14.mono hHeld.size)) (fun hHeld2 => ?_)
        clear hb14 hS14 HS13
        clear hK K hHeld
        have hHeld := hHeld2
        clear hHeld2
        try simp only [Act.put, List.getElem_toArray, List.getElem_cons_succ, List.getElem_cons_zero, List.setIfInBounds_toArray, List.set_cons_zero, List.set_cons_succ]
        refine wpAnyH_ready (rs := [22]) (by kernel_rfl) (by simp) ?_
        refine AllReadyH.cons (o := _) rfl (fun K hK => ?_) AllReadyH.nil
        go_simp
        go_at_call 15
        refine (sameTexts_calls _ _ _ _ HSB.out HS14.out).mono ?_
        rintro e15 w15 ⟨rfl, hb15⟩
        refine hK.out _ _ (hHeld.trans (hb15.mono hHeld.size)) (fun hHeld2 => ?_)
        clear hb15 HSB HS14
        clear hK K hHeld
        have hHeld := hHeld2
        clear hHeld2
        try simp only [Act.put, List.getElem_toArray, List.getElem_cons_succ, List.getElem_cons_zero, List.setIfInBounds_toArray, List.set_cons_zero, List.set_cons_succ]
        refine wpAnyH_take (i := 23) (oi := _) (v := .bool false) rfl (by kernel_rfl) (by kernel_rfl) (by kernel_rfl) (fun _ _ _ h => h) (Or.inl ⟨by kernel_rfl, fun w hSw => ?_⟩) hHeld ?_
        · (try dsimp only at hSw); go_simp
        try simp only [Act.put, List.getElem_toArray, List.getElem_cons_succ, List.getElem_cons_zero, List.setIfInBounds_toArray, List.set_cons_zero, List.set_cons_succ]
        refine wpAnyH_take (i := 24) (oi := _) (v := .bool false) rfl (by kernel_rfl) (by kernel_rfl) (by kernel_rfl) (fun _ _ _ h => h) (Or.inl ⟨by kernel_rfl, fun w hSw => ?_⟩) hHeld ?_
        · (try dsimp only at hSw); go_simp
        try simp only [Act.put, List.getElem_toArray, List.getElem_cons_succ, List.getElem_cons_zero, List.setIfInBounds_toArray, List.set_cons_zero, List.set_cons_succ]
        refine wpAnyH_done (by kernel_rfl) ?_ _
        have HBE := Lib.hid hHeld
        clear hHeld
        go_wp2_with fail
        go_roundg (n - (i + 1))
        case rel => exact ⟨i + 1, b9, s9, r9, rfl, by go_num, by omega, rfl, (HT9.out.other HBE.out).less, HI9.out, HB9.out.trans (HBE.out.mono hA9)⟩
        case measure => have := Hk.out; omega
      by_cases hv0 : v.size = 0
      case' pos =>
        obtain rfl : v = ⟨#[]⟩ := ByteArray.ext (Array.eq_empty_of_size_eq_zero hv0)
        have HLN := Lib.hid (line_calls name ⟨#[]⟩ w6 (by omega) (by omega))
        rw [hr] at HLN
        have KS := Lib.hid (k_set hA6 HT6.out HI.out (by omega) (n := name) (v := ⟨#[]⟩) (by omega) (by omega))
        obtain ⟨q1, q2⟩ := HI.out.set (by omega) hr
        obtain ⟨s9, hs9⟩ : ∃ s9, (setB s name ⟨#[]⟩).2 = s9 := ⟨_, rfl⟩
        rw [q1, hs9] at KS
        rw [hs9] at q2
        obtain ⟨r9, hr9⟩ : ∃ r9, (removeD r name).2 = r9 := ⟨_, rfl⟩
        have er : refSet r name ⟨#[]⟩ = r9 := by rw [← hr9]; unfold refSet; exact if_pos rfl
        rw [er] at q2
        have TKr : Hid (∀ W, A ≤ W.heap.size → TwoK W A [b6] A bb R s9 r → Calls Tryz.prog 10 #[.pointer (some ⟨R, 0, none⟩), .int .i64 2, .string name, .string ⟨#[]⟩] W fun e w' => (∃ x, e = .returned (.int .i64 x)) ∧ TwoK w' A [b6] A bb R s9 r9 ∧ KeptX A [b6] W w') := fun W h1 h2 => by
          have := k_removeG h1 h2 HI.out.rgood (by omega) (n := name) (by omega)
          rw [hr9] at this
          exact this
        clear hr9 er hv0
        clear hr q1 hs9
        subst hq0
        go_wp2_with fail
        rw [← Hw6.out]
        go_wp2_with fail
        refine HLN.out.mono ?_
        rintro e7 w7 ⟨rfl, rfl⟩
        go_wp2_with fail
        refine KS.out.mono ?_
        rintro e8 w8 ⟨rfl, hT8, hX8⟩
        have HB8 := Lib.hid (HB6.out.trans hX8.1)
        have HC8 := Lib.hid ((hX8.2 b6 (by simp)).trans HC6.out)
        have HT8 := Lib.hid hT8
        clear hT8 hX8 KS HLN HT6 HT d0 d1 d2
        obtain ⟨c80, c81, c82, hb8l⟩ := note_cells HC8.out
        clear c60 c61 c62
        go_wp2_with fail
        refine (dbare_calls 0 0 _ (HV.out _ HB8.out)).mono ?_
        rintro ex w9 ⟨rfl, hb9⟩
        rw [show ((0 : Int) == 0) = true by rfl]
        have HTa := Lib.hid (HT8.out.other hb9)
        have HBa := Lib.hid (HB8.out.trans (hb9.mono (Nat.le_trans hAw HB8.out.size)))
        have HCa := Lib.hid ((hb9.block b6 (note_cells HC8.out).2.2.2).trans HC8.out)
        clear hb9 HT8 HB8 HC8 c80 c81 c82
        obtain ⟨c90, c91, c92, hb9l⟩ := note_cells HCa.out
        have hAa : A ≤ w9.heap.size := Nat.le_trans hAw HBa.out.size
        have KR := Lib.hid (TKr.out w9 hAa HTa.out)
        go_wp2_with fail
        refine KR.out.mono ?_
        rintro ey w10 ⟨⟨x10, rfl⟩, hTb, hXb⟩
        have HT9 := Lib.hid hTb
        have HB9 := Lib.hid (HBa.out.trans hXb.1)
        have HC9 := Lib.hid ((hXb.2 b6 (by simp)).trans HCa.out)
        have HI9 := Lib.hid q2
        obtain ⟨b9, hb9'⟩ : ∃ b9, b9 = bb := ⟨_, rfl⟩
        rw [← hb9'] at HT9 ⊢
        clear hTb hXb KR TKr HTa HBa HCa c90 c91 c92 q2 hb9'
        have hA9 : A ≤ w10.heap.size := Nat.le_trans hAw HB9.out.size
        have HNM : Hid (∀ U, Below w10.heap.size w10 U → U.cell? ⟨b6, 1, none⟩ = some (.string name)) := fun U hb => by
          obtain ⟨-, h, -, hl⟩ := note_cells HC9.out
          exact (hb.cell (p := ⟨b6, 1, none⟩) hl).trans h
        obtain ⟨bf, P, hLK⟩ := k_look HT9.out HI9.out (f := name) (by omega)
        obtain ⟨nw, hnw⟩ : ∃ nw, nowOf s9.m name = nw := ⟨_, rfl⟩
        rw [hnw] at hLK
        have HLK := Lib.hid hLK
        have Hnw := Lib.hid hnw
        clear hLK hnw
        go_wp2_with fail
        refine wp_region_held_drew (S := fun w' => Below w10.heap.size w10 w') (by kernel_rfl) ?_ (fun hHeld => ?_)
        · exact (Below.refl _ _).drew
        refine wpAnyH_take (i := 0) (oi := _) (v := .pointer (some ⟨b9, 0, none⟩)) rfl (by kernel_rfl) (by kernel_rfl) (by kernel_rfl) (fun _ _ _ h => h) (Or.inl ⟨by kernel_rfl, fun w hSw => ?_⟩) hHeld ?_
        · (try dsimp only at hSw); go_simp
        try simp only [Act.put, List.getElem_toArray, List.getElem_cons_zero, List.setIfInBounds_toArray, List.set_cons_zero, List.set_cons_succ]
        refine wpAnyH_ready (rs := [1]) (by kernel_rfl) (by simp) ?_
        refine AllReadyH.cons (o := _) rfl (fun K hK => ?_) AllReadyH.nil
        go_simp
        go_at_call 13
        refine (k_down (HT9.out.other hHeld)).mono ?_
        rintro e11 w11 ⟨rfl, rfl⟩
        rw [HI9.out.dn]
        refine hK.out _ _ hHeld (fun hHeld2 => ?_)
        clear hK K hHeld
        have hHeld := hHeld2
        clear hHeld2
        try simp only [Act.put, List.getElem_toArray, List.getElem_cons_succ, List.getElem_cons_zero, List.setIfInBounds_toArray, List.set_cons_zero, List.set_cons_succ]
        refine wpAnyH_take (i := 2) (oi := _) (v := .bool false) rfl (by kernel_rfl) (by kernel_rfl) (by kernel_rfl) (fun _ _ _ h => h) (Or.inl ⟨by kernel_rfl, fun w hSw => ?_⟩) hHeld ?_
        · (try dsimp only at hSw); go_simp
        try simp only [Act.put, List.getElem_toArray, List.getElem_cons_succ, List.getElem_cons_zero, List.setIfInBounds_toArray, List.set_cons_zero, List.set_cons_succ]
        refine wpAnyH_take (i := 3) (oi := _) (v := .pointer (some ⟨b9, 0, none⟩)) rfl (by kernel_rfl) (by kernel_rfl) (by kernel_rfl) (fun _ _ _ h => h) (Or.inl ⟨by kernel_rfl, fun w hSw => ?_⟩) hHeld ?_
        · (try dsimp only at hSw); go_simp
        try simp only [Act.put, List.getElem_toArray, List.getElem_cons_succ, List.getElem_cons_zero, List.setIfInBounds_toArray, List.set_cons_zero, List.set_cons_succ]
        refine wpAnyH_take (i := 4) (oi := _) (v := .pointer (some ⟨b6, 1, none⟩)) rfl (by kernel_rfl) (by kernel_rfl) (by kernel_rfl) (fun _ _ _ h => h) (Or.inl ⟨by kernel_rfl, fun w hSw => ?_⟩) hHeld ?_
        · (try dsimp only at hSw); go_simp
        try simp only [Act.put, List.getElem_toArray, List.getElem_cons_succ, List.getElem_cons_zero, List.setIfInBounds_toArray, List.set_cons_zero, List.set_cons_succ]
        refine wpAnyH_take (i := 5) (oi := _) (v := .string name) rfl (by kernel_rfl) (by kernel_rfl) (by kernel_rfl) (fun _ _ _ h => h) (Or.inl ⟨by kernel_rfl, fun w hSw => ?_⟩) hHeld ?_
        · (try dsimp only at hSw); have hh := HNM.out _ hSw; go_simp
        try simp only [Act.put, List.getElem_toArray, List.getElem_cons_succ, List.getElem_cons_zero, List.setIfInBounds_toArray, List.set_cons_zero, List.set_cons_succ]
        refine wpAnyH_take (i := 7) (oi := _) (v := .pointer (some ⟨R, 0, none⟩)) rfl (by kernel_rfl) (by kernel_rfl) (by kernel_rfl) (fun _ _ _ h => h) (Or.inl ⟨by kernel_rfl, fun w hSw => ?_⟩) hHeld ?_
        · (try dsimp only at hSw); go_simp
        try simp only [Act.put, List.getElem_toArray, List.getElem_cons_succ, List.getElem_cons_zero, List.setIfInBounds_toArray, List.set_cons_zero, List.set_cons_succ]
        refine wpAnyH_take (i := 8) (oi := _) (v := .pointer (some ⟨R, 0, none⟩)) rfl (by kernel_rfl) (by kernel_rfl) (by kernel_rfl) (fun _ _ _ h => h) (Or.inl ⟨by kernel_rfl, fun w hSw => ?_⟩) hHeld ?_
        · (try dsimp only at hSw); go_simp
        try simp only [Act.put, List.getElem_toArray, List.getElem_cons_succ, List.getElem_cons_zero, List.setIfInBounds_toArray, List.set_cons_zero, List.set_cons_succ]
        refine wpAnyH_take (i := 9) (oi := _) (v := .pointer (some ⟨R, 0, none⟩)) rfl (by kernel_rfl) (by kernel_rfl) (by kernel_rfl) (fun _ _ _ h => h) (Or.inl ⟨by kernel_rfl, fun w hSw => ?_⟩) hHeld ?_
        · (try dsimp only at hSw); go_simp
        try simp only [Act.put, List.getElem_toArray, List.getElem_cons_succ, List.getElem_cons_zero, List.setIfInBounds_toArray, List.set_cons_zero, List.set_cons_succ]
        refine wpAnyH_take (i := 10) (oi := _) (v := .map (some bf)) rfl (by kernel_rfl) (by kernel_rfl) (by kernel_rfl) (fun _ _ _ h => h) (Or.inl ⟨by kernel_rfl, fun w hSw => ?_⟩) hHeld ?_
        · (try dsimp only at hSw); have hh := (HLK.out _ hSw).1; go_simp
        try simp only [Act.put, List.getElem_toArray, List.getElem_cons_succ, List.getElem_cons_zero, List.setIfInBounds_toArray, List.set_cons_zero, List.set_cons_succ]
        refine wpAnyH_take (i := 11) (oi := _) (v := .pointer (some ⟨b6, 1, none⟩)) rfl (by kernel_rfl) (by kernel_rfl) (by kernel_rfl) (fun _ _ _ h => h) (Or.inl ⟨by kernel_rfl, fun w hSw => ?_⟩) hHeld ?_
        · (try dsimp only at hSw); go_simp
        try simp only [Act.put, List.getElem_toArray, List.getElem_cons_succ, List.getElem_cons_zero, List.setIfInBounds_toArray, List.set_cons_zero, List.set_cons_succ]
        refine wpAnyH_take (i := 12) (oi := _) (v := .string name) rfl (by kernel_rfl) (by kernel_rfl) (by kernel_rfl) (fun _ _ _ h => h) (Or.inl ⟨by kernel_rfl, fun w hSw => ?_⟩) hHeld ?_
        · (try dsimp only at hSw); have hh := HNM.out _ hSw; go_simp
        try simp only [Act.put, List.getElem_toArray, List.getElem_cons_succ, List.getElem_cons_zero, List.setIfInBounds_toArray, List.set_cons_zero, List.set_cons_succ]
        refine wpAnyH_take (i := 13) (oi := _) (v := .agg #[.string nw, .pointer P]) rfl (by kernel_rfl) (by kernel_rfl) (by kernel_rfl) (fun _ _ _ h => h) (Or.inl ⟨by kernel_rfl, fun w hSw => ?_⟩) hHeld ?_
        · (try dsimp only at hSw); have hh := (HLK.out _ hSw).2; simp only [execOp]; go_simp
        try simp only [Act.put, List.getElem_toArray, List.getElem_cons_succ, List.getElem_cons_zero, List.setIfInBounds_toArray, List.set_cons_zero, List.set_cons_succ]
        refine wpAnyH_take (i := 14) (oi := _) (v := .string nw) rfl (by kernel_rfl) (by kernel_rfl) (by kernel_rfl) (fun _ _ _ h => h) (Or.inl ⟨by kernel_rfl, fun w hSw => ?_⟩) hHeld ?_
        · (try dsimp only at hSw); kernel_rfl
        try simp only [Act.put, List.getElem_toArray, List.getElem_cons_succ, List.getElem_cons_zero, List.setIfInBounds_toArray, List.set_cons_zero, List.set_cons_succ]
        refine wpAnyH_ready (rs := [6]) (by kernel_rfl) (by simp) ?_
        refine AllReadyH.cons (o := _) rfl (fun K hK => ?_) AllReadyH.nil
        go_simp
        go_at_call 14
        refine (k_get (HT9.out.other hHeld) (n := name) (by omega)).mono ?_
        rintro e12 w12 ⟨rfl, rfl⟩
        rw [Hnw.out]
        refine hK.out _ _ hHeld (fun hHeld2 => ?_)
        clear hK K hHeld
        have hHeld := hHeld2
        clear hHeld2
        try simp only [Act.put, List.getElem_toArray, List.getElem_cons_succ, List.getElem_cons_zero, List.setIfInBounds_toArray, List.set_cons_zero, List.set_cons_succ]
        refine wpAnyH_take (i := 15) (oi := _) (v := .bool false) rfl (by kernel_rfl) (by kernel_rfl) (by kernel_rfl) (fun _ _ _ h => h) (Or.inl ⟨by kernel_rfl, fun w hSw => ?_⟩) hHeld ?_
        · (try dsimp only at hSw); go_simp
        try simp only [Act.put, List.getElem_toArray, List.getElem_cons_succ, List.getElem_cons_zero, List.setIfInBounds_toArray, List.set_cons_zero, List.set_cons_succ]
        refine wpAnyH_take (i := 16) (oi := _) (v := .bool false) rfl (by kernel_rfl) (by kernel_rfl) (by kernel_rfl) (fun _ _ _ h => h) (Or.inl ⟨by kernel_rfl, fun w hSw => ?_⟩) hHeld ?_
        · (try dsimp only at hSw); go_simp
        try simp only [Act.put, List.getElem_toArray, List.getElem_cons_succ, List.getElem_cons_zero, List.setIfInBounds_toArray, List.set_cons_zero, List.set_cons_succ]
        refine wpAnyH_take (i := 17) (oi := _) (v := .bool false) rfl (by kernel_rfl) (by kernel_rfl) (by kernel_rfl) (fun _ _ _ h => h) (Or.inl ⟨by kernel_rfl, fun w hSw => ?_⟩) hHeld ?_
        · (try dsimp only at hSw); go_simp
        try simp only [Act.put, List.getElem_toArray, List.getElem_cons_succ, List.getElem_cons_zero, List.setIfInBounds_toArray, List.set_cons_zero, List.set_cons_succ]
        refine wpAnyH_take (i := 18) (oi := _) (v := .pointer (some ⟨b9, 0, none⟩)) rfl (by kernel_rfl) (by kernel_rfl) (by kernel_rfl) (fun _ _ _ h => h) (Or.inl ⟨by kernel_rfl, fun w hSw => ?_⟩) hHeld ?_
        · (try dsimp only at hSw); go_simp
        try simp only [Act.put, List.getElem_toArray, List.getElem_cons_succ, List.getElem_cons_zero, List.setIfInBounds_toArray, List.set_cons_zero, List.set_cons_succ]
        refine wpAnyH_take (i := 20) (oi := _) (v := .pointer (some ⟨R, 0, none⟩)) rfl (by kernel_rfl) (by kernel_rfl) (by kernel_rfl) (fun _ _ _ h => h) (Or.inl ⟨by kernel_rfl, fun w hSw => ?_⟩) hHeld ?_
        · (try dsimp only at hSw); go_simp
        try simp only [Act.put, List.getElem_toArray, List.getElem_cons_succ, List.getElem_cons_zero, List.setIfInBounds_toArray, List.set_cons_zero, List.set_cons_succ]
        refine wpAnyH_ready (rs := [19]) (by kernel_rfl) (by simp) ?_
        refine AllReadyH.cons (o := _) rfl (fun K hK => ?_) AllReadyH.nil
        go_simp
        go_at_call 16
        refine (k_bnames (HT9.out.other hHeld) HI9.out (by omega)).mono ?_
        rintro e13 w13 ⟨v13, rfl, hS13, hb13⟩
        have HS13 := Lib.hid hS13
        have HB13 := Lib.hid (hHeld.trans (hb13.mono hHeld.size))
        clear hS13
        refine hK.out _ _ HB13.out (fun hHeld2 => ?_)
        clear hb13
        clear hK K hHeld
        have hHeld := hHeld2
        clear hHeld2
        try simp only [Act.put, List.getElem_toArray, List.getElem_cons_succ, List.getElem_cons_zero, List.setIfInBounds_toArray, List.set_cons_zero, List.set_cons_succ]
        refine wpAnyH_ready (rs := [21]) (by kernel_rfl) (by simp) ?_
        refine AllReadyH.cons (o := _) rfl (fun K hK => ?_) AllReadyH.nil
        go_simp
        go_at_call 17
        refine (k_names (HT9.out.other hHeld) HI9.out (by omega)).mono ?_
        rintro e14 w14 ⟨v14, rfl, hS14, hb14⟩
        have HS14 := Lib.hid hS14
        have HSB := Lib.hid (HS13.out.below hb14 (Nat.le_refl _))
        refine hK.out _ _ (hHeld.trans (hb14.mono hHeld.size)) (fun hHeld2 => ?_)
        clear hb14 hS14 HS13
        clear hK K hHeld
        have hHeld := hHeld2
        clear hHeld2
        try simp only [Act.put, List.getElem_toArray, List.getElem_cons_succ, List.getElem_cons_zero, List.setIfInBounds_toArray, List.set_cons_zero, List.set_cons_succ]
        refine wpAnyH_ready (rs := [22]) (by kernel_rfl) (by simp) ?_
        refine AllReadyH.cons (o := _) rfl (fun K hK => ?_) AllReadyH.nil
        go_simp
        go_at_call 15
        refine (sameTexts_calls _ _ _ _ HSB.out HS14.out).mono ?_
        rintro e15 w15 ⟨rfl, hb15⟩
        refine hK.out _ _ (hHeld.trans (hb15.mono hHeld.size)) (fun hHeld2 => ?_)
        clear hb15 HSB HS14
        clear hK K hHeld
        have hHeld := hHeld2
        clear hHeld2
        try simp only [Act.put, List.getElem_toArray, List.getElem_cons_succ, List.getElem_cons_zero, List.setIfInBounds_toArray, List.set_cons_zero, List.set_cons_succ]
        refine wpAnyH_take (i := 23) (oi := _) (v := .bool false) rfl (by kernel_rfl) (by kernel_rfl) (by kernel_rfl) (fun _ _ _ h => h) (Or.inl ⟨by kernel_rfl, fun w hSw => ?_⟩) hHeld ?_
        · (try dsimp only at hSw); go_simp
        try simp only [Act.put, List.getElem_toArray, List.getElem_cons_succ, List.getElem_cons_zero, List.setIfInBounds_toArray, List.set_cons_zero, List.set_cons_succ]
        refine wpAnyH_take (i := 24) (oi := _) (v := .bool false) rfl (by kernel_rfl) (by kernel_rfl) (by kernel_rfl) (fun _ _ _ h => h) (Or.inl ⟨by kernel_rfl, fun w hSw => ?_⟩) hHeld ?_
        · (try dsimp only at hSw); go_simp
        try simp only [Act.put, List.getElem_toArray, List.getElem_cons_succ, List.getElem_cons_zero, List.setIfInBounds_toArray, List.set_cons_zero, List.set_cons_succ]
        refine wpAnyH_done (by kernel_rfl) ?_ _
        have HBE := Lib.hid hHeld
        clear hHeld
        go_wp2_with fail
        go_roundg (n - (i + 1))
        case rel => exact ⟨i + 1, b9, s9, r9, rfl, by go_num, by omega, rfl, (HT9.out.other HBE.out).less, HI9.out, HB9.out.trans (HBE.out.mono hA9)⟩
        case measure => have := Hk.out; omega
      have HLN := Lib.hid (line_calls name v w6 (by omega) (by omega))
      rw [hr] at HLN
      have KS := Lib.hid (k_set hA6 HT6.out HI.out (by omega) (n := name) (v := v) (by omega) (by omega))
      obtain ⟨q1, q2⟩ := HI.out.set (by omega) hr
      obtain ⟨s9, hs9⟩ : ∃ s9, (setB s name v).2 = s9 := ⟨_, rfl⟩
      rw [q1, hs9] at KS
      rw [hs9] at q2
      obtain ⟨r9, hr9⟩ : ∃ r9, (writeD r name v).2 = r9 := ⟨_, rfl⟩
      have er : refSet r name v = r9 := by unfold refSet; rw [if_neg hv0, hr9]
      rw [er] at q2
      have hvn : ¬ (v.toList = []) := (toList_ne hv0).1
      have tv1 : (v.toList == []) = false := by rw [beq_eq_false_iff_ne]; exact hvn
      have tv2 : decide (v.toList = []) = false := decide_eq_false hvn
      have TKr : Hid (∀ W, A ≤ W.heap.size → TwoK W A [b6] A bb R s9 r → Calls Tryz.prog 11 #[.pointer (some ⟨R, 0, none⟩), .string name, .string v] W fun e w' => (∃ x, e = .returned (.int .i64 x)) ∧ TwoK w' A [b6] A bb R s9 r9 ∧ KeptX A [b6] W w') := fun W h1 h2 => by
        have := k_writeG h1 h2 HI.out.rgood (by omega) (n := name) (v := v) (by omega) (by omega)
        rw [hr9] at this
        exact this
      clear hr9 er
      clear hr q1 hs9
      subst hq0
      go_wp2_with fail
      rw [← Hw6.out]
      go_wp2_with fail
      refine HLN.out.mono ?_
      rintro e7 w7 ⟨rfl, rfl⟩
      go_wp2_with fail
      refine KS.out.mono ?_
      rintro e8 w8 ⟨rfl, hT8, hX8⟩
      have HB8 := Lib.hid (HB6.out.trans hX8.1)
      have HC8 := Lib.hid ((hX8.2 b6 (by simp)).trans HC6.out)
      have HT8 := Lib.hid hT8
      clear hT8 hX8 KS HLN HT6 HT d0 d1 d2
      obtain ⟨c80, c81, c82, hb8l⟩ := note_cells HC8.out
      clear c60 c61 c62
      go_wp2_with fail
      refine (dbare_calls 0 0 _ (HV.out _ HB8.out)).mono ?_
      rintro ex w9 ⟨rfl, hb9⟩
      rw [show ((0 : Int) == 0) = true by rfl]
      have HTa := Lib.hid (HT8.out.other hb9)
      have HBa := Lib.hid (HB8.out.trans (hb9.mono (Nat.le_trans hAw HB8.out.size)))
      have HCa := Lib.hid ((hb9.block b6 (note_cells HC8.out).2.2.2).trans HC8.out)
      clear hb9 HT8 HB8 HC8 c80 c81 c82
      obtain ⟨c90, c91, c92, hb9l⟩ := note_cells HCa.out
      have hAa : A ≤ w9.heap.size := Nat.le_trans hAw HBa.out.size
      have KR := Lib.hid (TKr.out w9 hAa HTa.out)
      go_wp2_with fail
      refine KR.out.mono ?_
      rintro ey w10 ⟨⟨x10, rfl⟩, hTb, hXb⟩
      have HT9 := Lib.hid hTb
      have HB9 := Lib.hid (HBa.out.trans hXb.1)
      have HC9 := Lib.hid ((hXb.2 b6 (by simp)).trans HCa.out)
      have HI9 := Lib.hid q2
      obtain ⟨b9, hb9'⟩ : ∃ b9, b9 = bb := ⟨_, rfl⟩
      rw [← hb9'] at HT9 ⊢
      clear hTb hXb KR TKr HTa HBa HCa c90 c91 c92 q2 hb9'
      have hA9 : A ≤ w10.heap.size := Nat.le_trans hAw HB9.out.size
      have HNM : Hid (∀ U, Below w10.heap.size w10 U → U.cell? ⟨b6, 1, none⟩ = some (.string name)) := fun U hb => by
        obtain ⟨-, h, -, hl⟩ := note_cells HC9.out
        exact (hb.cell (p := ⟨b6, 1, none⟩) hl).trans h
      obtain ⟨bf, P, hLK⟩ := k_look HT9.out HI9.out (f := name) (by omega)
      obtain ⟨nw, hnw⟩ : ∃ nw, nowOf s9.m name = nw := ⟨_, rfl⟩
      rw [hnw] at hLK
      have HLK := Lib.hid hLK
      have Hnw := Lib.hid hnw
      clear hLK hnw
      go_wp2_with fail
      refine wp_region_held_drew (S := fun w' => Below w10.heap.size w10 w') (by kernel_rfl) ?_ (fun hHeld => ?_)
      · exact (Below.refl _ _).drew
      refine wpAnyH_take (i := 0) (oi := _) (v := .pointer (some ⟨b9, 0, none⟩)) rfl (by kernel_rfl) (by kernel_rfl) (by kernel_rfl) (fun _ _ _ h => h) (Or.inl ⟨by kernel_rfl, fun w hSw => ?_⟩) hHeld ?_
      · (try dsimp only at hSw); go_simp
      try simp only [Act.put, List.getElem_toArray, List.getElem_cons_zero, List.setIfInBounds_toArray, List.set_cons_zero, List.set_cons_succ]
      refine wpAnyH_ready (rs := [1]) (by kernel_rfl) (by simp) ?_
      refine AllReadyH.cons (o := _) rfl (fun K hK => ?_) AllReadyH.nil
      go_simp
      go_at_call 13
      refine (k_down (HT9.out.other hHeld)).mono ?_
      rintro e11 w11 ⟨rfl, rfl⟩
      rw [HI9.out.dn]
      refine hK.out _ _ hHeld (fun hHeld2 => ?_)
      clear hK K hHeld
      have hHeld := hHeld2
      clear hHeld2
      try simp only [Act.put, List.getElem_toArray, List.getElem_cons_succ, List.getElem_cons_zero, List.setIfInBounds_toArray, List.set_cons_zero, List.set_cons_succ]
      refine wpAnyH_take (i := 2) (oi := _) (v := .bool false) rfl (by kernel_rfl) (by kernel_rfl) (by kernel_rfl) (fun _ _ _ h => h) (Or.inl ⟨by kernel_rfl, fun w hSw => ?_⟩) hHeld ?_
      · (try dsimp only at hSw); go_simp
      try simp only [Act.put, List.getElem_toArray, List.getElem_cons_succ, List.getElem_cons_zero, List.setIfInBounds_toArray, List.set_cons_zero, List.set_cons_succ]
      refine wpAnyH_take (i := 3) (oi := _) (v := .pointer (some ⟨b9, 0, none⟩)) rfl (by kernel_rfl) (by kernel_rfl) (by kernel_rfl) (fun _ _ _ h => h) (Or.inl ⟨by kernel_rfl, fun w hSw => ?_⟩) hHeld ?_
      · (try dsimp only at hSw); go_simp
      try simp only [Act.put, List.getElem_toArray, List.getElem_cons_succ, List.getElem_cons_zero, List.setIfInBounds_toArray, List.set_cons_zero, List.set_cons_succ]
      refine wpAnyH_take (i := 4) (oi := _) (v := .pointer (some ⟨b6, 1, none⟩)) rfl (by kernel_rfl) (by kernel_rfl) (by kernel_rfl) (fun _ _ _ h => h) (Or.inl ⟨by kernel_rfl, fun w hSw => ?_⟩) hHeld ?_
      · (try dsimp only at hSw); go_simp
      try simp only [Act.put, List.getElem_toArray, List.getElem_cons_succ, List.getElem_cons_zero, List.setIfInBounds_toArray, List.set_cons_zero, List.set_cons_succ]
      refine wpAnyH_take (i := 5) (oi := _) (v := .string name) rfl (by kernel_rfl) (by kernel_rfl) (by kernel_rfl) (fun _ _ _ h => h) (Or.inl ⟨by kernel_rfl, fun w hSw => ?_⟩) hHeld ?_
      · (try dsimp only at hSw); have hh := HNM.out _ hSw; go_simp
      try simp only [Act.put, List.getElem_toArray, List.getElem_cons_succ, List.getElem_cons_zero, List.setIfInBounds_toArray, List.set_cons_zero, List.set_cons_succ]
      refine wpAnyH_take (i := 7) (oi := _) (v := .pointer (some ⟨R, 0, none⟩)) rfl (by kernel_rfl) (by kernel_rfl) (by kernel_rfl) (fun _ _ _ h => h) (Or.inl ⟨by kernel_rfl, fun w hSw => ?_⟩) hHeld ?_
      · (try dsimp only at hSw); go_simp
      try simp only [Act.put, List.getElem_toArray, List.getElem_cons_succ, List.getElem_cons_zero, List.setIfInBounds_toArray, List.set_cons_zero, List.set_cons_succ]
      refine wpAnyH_take (i := 8) (oi := _) (v := .pointer (some ⟨R, 0, none⟩)) rfl (by kernel_rfl) (by kernel_rfl) (by kernel_rfl) (fun _ _ _ h => h) (Or.inl ⟨by kernel_rfl, fun w hSw => ?_⟩) hHeld ?_
      · (try dsimp only at hSw); go_simp
      try simp only [Act.put, List.getElem_toArray, List.getElem_cons_succ, List.getElem_cons_zero, List.setIfInBounds_toArray, List.set_cons_zero, List.set_cons_succ]
      refine wpAnyH_take (i := 9) (oi := _) (v := .pointer (some ⟨R, 0, none⟩)) rfl (by kernel_rfl) (by kernel_rfl) (by kernel_rfl) (fun _ _ _ h => h) (Or.inl ⟨by kernel_rfl, fun w hSw => ?_⟩) hHeld ?_
      · (try dsimp only at hSw); go_simp
      try simp only [Act.put, List.getElem_toArray, List.getElem_cons_succ, List.getElem_cons_zero, List.setIfInBounds_toArray, List.set_cons_zero, List.set_cons_succ]
      refine wpAnyH_take (i := 10) (oi := _) (v := .map (some bf)) rfl (by kernel_rfl) (by kernel_rfl) (by kernel_rfl) (fun _ _ _ h => h) (Or.inl ⟨by kernel_rfl, fun w hSw => ?_⟩) hHeld ?_
      · (try dsimp only at hSw); have hh := (HLK.out _ hSw).1; go_simp
      try simp only [Act.put, List.getElem_toArray, List.getElem_cons_succ, List.getElem_cons_zero, List.setIfInBounds_toArray, List.set_cons_zero, List.set_cons_succ]
      refine wpAnyH_take (i := 11) (oi := _) (v := .pointer (some ⟨b6, 1, none⟩)) rfl (by kernel_rfl) (by kernel_rfl) (by kernel_rfl) (fun _ _ _ h => h) (Or.inl ⟨by kernel_rfl, fun w hSw => ?_⟩) hHeld ?_
      · (try dsimp only at hSw); go_simp
      try simp only [Act.put, List.getElem_toArray, List.getElem_cons_succ, List.getElem_cons_zero, List.setIfInBounds_toArray, List.set_cons_zero, List.set_cons_succ]
      refine wpAnyH_take (i := 12) (oi := _) (v := .string name) rfl (by kernel_rfl) (by kernel_rfl) (by kernel_rfl) (fun _ _ _ h => h) (Or.inl ⟨by kernel_rfl, fun w hSw => ?_⟩) hHeld ?_
      · (try dsimp only at hSw); have hh := HNM.out _ hSw; go_simp
      try simp only [Act.put, List.getElem_toArray, List.getElem_cons_succ, List.getElem_cons_zero, List.setIfInBounds_toArray, List.set_cons_zero, List.set_cons_succ]
      refine wpAnyH_take (i := 13) (oi := _) (v := .agg #[.string nw, .pointer P]) rfl (by kernel_rfl) (by kernel_rfl) (by kernel_rfl) (fun _ _ _ h => h) (Or.inl ⟨by kernel_rfl, fun w hSw => ?_⟩) hHeld ?_
      · (try dsimp only at hSw); have hh := (HLK.out _ hSw).2; simp only [execOp]; go_simp
      try simp only [Act.put, List.getElem_toArray, List.getElem_cons_succ, List.getElem_cons_zero, List.setIfInBounds_toArray, List.set_cons_zero, List.set_cons_succ]
      refine wpAnyH_take (i := 14) (oi := _) (v := .string nw) rfl (by kernel_rfl) (by kernel_rfl) (by kernel_rfl) (fun _ _ _ h => h) (Or.inl ⟨by kernel_rfl, fun w hSw => ?_⟩) hHeld ?_
      · (try dsimp only at hSw); kernel_rfl
      try simp only [Act.put, List.getElem_toArray, List.getElem_cons_succ, List.getElem_cons_zero, List.setIfInBounds_toArray, List.set_cons_zero, List.set_cons_succ]
      refine wpAnyH_ready (rs := [6]) (by kernel_rfl) (by simp) ?_
      refine AllReadyH.cons (o := _) rfl (fun K hK => ?_) AllReadyH.nil
      go_simp
      go_at_call 14
      refine (k_get (HT9.out.other hHeld) (n := name) (by omega)).mono ?_
      rintro e12 w12 ⟨rfl, rfl⟩
      rw [Hnw.out]
      refine hK.out _ _ hHeld (fun hHeld2 => ?_)
      clear hK K hHeld
      have hHeld := hHeld2
      clear hHeld2
      try simp only [Act.put, List.getElem_toArray, List.getElem_cons_succ, List.getElem_cons_zero, List.setIfInBounds_toArray, List.set_cons_zero, List.set_cons_succ]
      refine wpAnyH_take (i := 15) (oi := _) (v := .bool false) rfl (by kernel_rfl) (by kernel_rfl) (by kernel_rfl) (fun _ _ _ h => h) (Or.inl ⟨by kernel_rfl, fun w hSw => ?_⟩) hHeld ?_
      · (try dsimp only at hSw); go_simp
      try simp only [Act.put, List.getElem_toArray, List.getElem_cons_succ, List.getElem_cons_zero, List.setIfInBounds_toArray, List.set_cons_zero, List.set_cons_succ]
      refine wpAnyH_take (i := 16) (oi := _) (v := .bool false) rfl (by kernel_rfl) (by kernel_rfl) (by kernel_rfl) (fun _ _ _ h => h) (Or.inl ⟨by kernel_rfl, fun w hSw => ?_⟩) hHeld ?_
      · (try dsimp only at hSw); go_simp
      try simp only [Act.put, List.getElem_toArray, List.getElem_cons_succ, List.getElem_cons_zero, List.setIfInBounds_toArray, List.set_cons_zero, List.set_cons_succ]
      refine wpAnyH_take (i := 17) (oi := _) (v := .bool false) rfl (by kernel_rfl) (by kernel_rfl) (by kernel_rfl) (fun _ _ _ h => h) (Or.inl ⟨by kernel_rfl, fun w hSw => ?_⟩) hHeld ?_
      · (try dsimp only at hSw); go_simp
      try simp only [Act.put, List.getElem_toArray, List.getElem_cons_succ, List.getElem_cons_zero, List.setIfInBounds_toArray, List.set_cons_zero, List.set_cons_succ]
      refine wpAnyH_take (i := 18) (oi := _) (v := .pointer (some ⟨b9, 0, none⟩)) rfl (by kernel_rfl) (by kernel_rfl) (by kernel_rfl) (fun _ _ _ h => h) (Or.inl ⟨by kernel_rfl, fun w hSw => ?_⟩) hHeld ?_
      · (try dsimp only at hSw); go_simp
      try simp only [Act.put, List.getElem_toArray, List.getElem_cons_succ, List.getElem_cons_zero, List.setIfInBounds_toArray, List.set_cons_zero, List.set_cons_succ]
      refine wpAnyH_take (i := 20) (oi := _) (v := .pointer (some ⟨R, 0, none⟩)) rfl (by kernel_rfl) (by kernel_rfl) (by kernel_rfl) (fun _ _ _ h => h) (Or.inl ⟨by kernel_rfl, fun w hSw => ?_⟩) hHeld ?_
      · (try dsimp only at hSw); go_simp
      try simp only [Act.put, List.getElem_toArray, List.getElem_cons_succ, List.getElem_cons_zero, List.setIfInBounds_toArray, List.set_cons_zero, List.set_cons_succ]
      refine wpAnyH_ready (rs := [19]) (by kernel_rfl) (by simp) ?_
      refine AllReadyH.cons (o := _) rfl (fun K hK => ?_) AllReadyH.nil
      go_simp
      go_at_call 16
      refine (k_bnames (HT9.out.other hHeld) HI9.out (by omega)).mono ?_
      rintro e13 w13 ⟨v13, rfl, hS13, hb13⟩
      have HS13 := Lib.hid hS13
      have HB13 := Lib.hid (hHeld.trans (hb13.mono hHeld.size))
      clear hS13
      refine hK.out _ _ HB13.out (fun hHeld2 => ?_)
      clear hb13
      clear hK K hHeld
      have hHeld := hHeld2
      clear hHeld2
      try simp only [Act.put, List.getElem_toArray, List.getElem_cons_succ, List.getElem_cons_zero, List.setIfInBounds_toArray, List.set_cons_zero, List.set_cons_succ]
      refine wpAnyH_ready (rs := [21]) (by kernel_rfl) (by simp) ?_
      refine AllReadyH.cons (o := _) rfl (fun K hK => ?_) AllReadyH.nil
      go_simp
      go_at_call 17
      refine (k_names (HT9.out.other hHeld) HI9.out (by omega)).mono ?_
      rintro e14 w14 ⟨v14, rfl, hS14, hb14⟩
      have HS14 := Lib.hid hS14
      have HSB := Lib.hid (HS13.out.below hb14 (Nat.le_refl _))
      refine hK.out _ _ (hHeld.trans (hb14.mono hHeld.size)) (fun hHeld2 => ?_)
      clear hb14 hS14 HS13
      clear hK K hHeld
      have hHeld := hHeld2
      clear hHeld2
      try simp only [Act.put, List.getElem_toArray, List.getElem_cons_succ, List.getElem_cons_zero, List.setIfInBounds_toArray, List.set_cons_zero, List.set_cons_succ]
      refine wpAnyH_ready (rs := [22]) (by kernel_rfl) (by simp) ?_
      refine AllReadyH.cons (o := _) rfl (fun K hK => ?_) AllReadyH.nil
      go_simp
      go_at_call 15
      refine (sameTexts_calls _ _ _ _ HSB.out HS14.out).mono ?_
      rintro e15 w15 ⟨rfl, hb15⟩
      refine hK.out _ _ (hHeld.trans (hb15.mono hHeld.size)) (fun hHeld2 => ?_)
      clear hb15 HSB HS14
      clear hK K hHeld
      have hHeld := hHeld2
      clear hHeld2
      try simp only [Act.put, List.getElem_toArray, List.getElem_cons_succ, List.getElem_cons_zero, List.setIfInBounds_toArray, List.set_cons_zero, List.set_cons_succ]
      refine wpAnyH_take (i := 23) (oi := _) (v := .bool false) rfl (by kernel_rfl) (by kernel_rfl) (by kernel_rfl) (fun _ _ _ h => h) (Or.inl ⟨by kernel_rfl, fun w hSw => ?_⟩) hHeld ?_
      · (try dsimp only at hSw); go_simp
      try simp only [Act.put, List.getElem_toArray, List.getElem_cons_succ, List.getElem_cons_zero, List.setIfInBounds_toArray, List.set_cons_zero, List.set_cons_succ]
      refine wpAnyH_take (i := 24) (oi := _) (v := .bool false) rfl (by kernel_rfl) (by kernel_rfl) (by kernel_rfl) (fun _ _ _ h => h) (Or.inl ⟨by kernel_rfl, fun w hSw => ?_⟩) hHeld ?_
      · (try dsimp only at hSw); go_simp
      try simp only [Act.put, List.getElem_toArray, List.getElem_cons_succ, List.getElem_cons_zero, List.setIfInBounds_toArray, List.set_cons_zero, List.set_cons_succ]
      refine wpAnyH_done (by kernel_rfl) ?_ _
      have HBE := Lib.hid hHeld
      clear hHeld
      go_wp2_with fail
      go_roundg (n - (i + 1))
      case rel => exact ⟨i + 1, b9, s9, r9, rfl, by go_num, by omega, rfl, (HT9.out.other HBE.out).less, HI9.out, HB9.out.trans (HBE.out.mono hA9)⟩
      case measure => have := Hk.out; omega
    by_cases hq1 : what = 1
    case' pos =>
      subst hq1
      obtain ⟨q1, q2⟩ := HI.out.tidy (by omega)
      have KT := Lib.hid (k_tidy hA6 HT6.out HI.out (by omega))
      obtain ⟨s9, hs9⟩ : ∃ s9, (tidyB s).2 = s9 := ⟨_, rfl⟩
      rw [hs9] at KT q2
      clear q1 hs9
      go_wp2_with fail
      rw [← Hw6.out]
      go_wp2_with fail
      refine KT.out.mono ?_
      rintro e8 w8 ⟨rfl, hT8, hX8⟩
      have HB9 := Lib.hid (HB6.out.trans hX8.1)
      have HC9 := Lib.hid ((hX8.2 b6 (by simp)).trans HC6.out)
      have HT9 := Lib.hid hT8
      have HI9 := Lib.hid q2
      obtain ⟨r9, hr9⟩ : ∃ r9, r9 = r := ⟨_, rfl⟩
      obtain ⟨b9, hb9'⟩ : ∃ b9, b9 = bb := ⟨_, rfl⟩
      rw [← hr9] at HI9 HT9
      rw [← hb9'] at HT9 ⊢
      clear hT8 hX8 KT HT6 HT d0 d1 d2 c60 c61 c62 q2 hr9 hb9'
      have hA9 : A ≤ w8.heap.size := Nat.le_trans hAw HB9.out.size
      have HNM : Hid (∀ U, Below w8.heap.size w8 U → U.cell? ⟨b6, 1, none⟩ = some (.string name)) := fun U hb => by
        obtain ⟨-, h, -, hl⟩ := note_cells HC9.out
        exact (hb.cell (p := ⟨b6, 1, none⟩) hl).trans h
      obtain ⟨bf, P, hLK⟩ := k_look HT9.out HI9.out (f := name) (by omega)
      obtain ⟨nw, hnw⟩ : ∃ nw, nowOf s9.m name = nw := ⟨_, rfl⟩
      rw [hnw] at hLK
      have HLK := Lib.hid hLK
      have Hnw := Lib.hid hnw
      clear hLK hnw
      go_wp2_with fail
      refine wp_region_held_drew (S := fun w' => Below w8.heap.size w8 w') (by kernel_rfl) ?_ (fun hHeld => ?_)
      · exact (Below.refl _ _).drew
      refine wpAnyH_take (i := 0) (oi := _) (v := .pointer (some ⟨b9, 0, none⟩)) rfl (by kernel_rfl) (by kernel_rfl) (by kernel_rfl) (fun _ _ _ h => h) (Or.inl ⟨by kernel_rfl, fun w hSw => ?_⟩) hHeld ?_
      · (try dsimp only at hSw); go_simp
      try simp only [Act.put, List.getElem_toArray, List.getElem_cons_zero, List.setIfInBounds_toArray, List.set_cons_zero, List.set_cons_succ]
      refine wpAnyH_ready (rs := [1]) (by kernel_rfl) (by simp) ?_
      refine AllReadyH.cons (o := _) rfl (fun K hK => ?_) AllReadyH.nil
      go_simp
      go_at_call 13
      refine (k_down (HT9.out.other hHeld)).mono ?_
      rintro e11 w11 ⟨rfl, rfl⟩
      rw [HI9.out.dn]
      refine hK.out _ _ hHeld (fun hHeld2 => ?_)
      clear hK K hHeld
      have hHeld := hHeld2
      clear hHeld2
      try simp only [Act.put, List.getElem_toArray, List.getElem_cons_succ, List.getElem_cons_zero, List.setIfInBounds_toArray, List.set_cons_zero, List.set_cons_succ]
      refine wpAnyH_take (i := 2) (oi := _) (v := .bool false) rfl (by kernel_rfl) (by kernel_rfl) (by kernel_rfl) (fun _ _ _ h => h) (Or.inl ⟨by kernel_rfl, fun w hSw => ?_⟩) hHeld ?_
      · (try dsimp only at hSw); go_simp
      try simp only [Act.put, List.getElem_toArray, List.getElem_cons_succ, List.getElem_cons_zero, List.setIfInBounds_toArray, List.set_cons_zero, List.set_cons_succ]
      refine wpAnyH_take (i := 3) (oi := _) (v := .pointer (some ⟨b9, 0, none⟩)) rfl (by kernel_rfl) (by kernel_rfl) (by kernel_rfl) (fun _ _ _ h => h) (Or.inl ⟨by kernel_rfl, fun w hSw => ?_⟩) hHeld ?_
      · (try dsimp only at hSw); go_simp
      try simp only [Act.put, List.getElem_toArray, List.getElem_cons_succ, List.getElem_cons_zero, List.setIfInBounds_toArray, List.set_cons_zero, List.set_cons_succ]
      refine wpAnyH_take (i := 4) (oi := _) (v := .pointer (some ⟨b6, 1, none⟩)) rfl (by kernel_rfl) (by kernel_rfl) (by kernel_rfl) (fun _ _ _ h => h) (Or.inl ⟨by kernel_rfl, fun w hSw => ?_⟩) hHeld ?_
      · (try dsimp only at hSw); go_simp
      try simp only [Act.put, List.getElem_toArray, List.getElem_cons_succ, List.getElem_cons_zero, List.setIfInBounds_toArray, List.set_cons_zero, List.set_cons_succ]
      refine wpAnyH_take (i := 5) (oi := _) (v := .string name) rfl (by kernel_rfl) (by kernel_rfl) (by kernel_rfl) (fun _ _ _ h => h) (Or.inl ⟨by kernel_rfl, fun w hSw => ?_⟩) hHeld ?_
      · (try dsimp only at hSw); have hh := HNM.out _ hSw; go_simp
      try simp only [Act.put, List.getElem_toArray, List.getElem_cons_succ, List.getElem_cons_zero, List.setIfInBounds_toArray, List.set_cons_zero, List.set_cons_succ]
      refine wpAnyH_take (i := 7) (oi := _) (v := .pointer (some ⟨R, 0, none⟩)) rfl (by kernel_rfl) (by kernel_rfl) (by kernel_rfl) (fun _ _ _ h => h) (Or.inl ⟨by kernel_rfl, fun w hSw => ?_⟩) hHeld ?_
      · (try dsimp only at hSw); go_simp
      try simp only [Act.put, List.getElem_toArray, List.getElem_cons_succ, List.getElem_cons_zero, List.setIfInBounds_toArray, List.set_cons_zero, List.set_cons_succ]
      refine wpAnyH_take (i := 8) (oi := _) (v := .pointer (some ⟨R, 0, none⟩)) rfl (by kernel_rfl) (by kernel_rfl) (by kernel_rfl) (fun _ _ _ h => h) (Or.inl ⟨by kernel_rfl, fun w hSw => ?_⟩) hHeld ?_
      · (try dsimp only at hSw); go_simp
      try simp only [Act.put, List.getElem_toArray, List.getElem_cons_succ, List.getElem_cons_zero, List.setIfInBounds_toArray, List.set_cons_zero, List.set_cons_succ]
      refine wpAnyH_take (i := 9) (oi := _) (v := .pointer (some ⟨R, 0, none⟩)) rfl (by kernel_rfl) (by kernel_rfl) (by kernel_rfl) (fun _ _ _ h => h) (Or.inl ⟨by kernel_rfl, fun w hSw => ?_⟩) hHeld ?_
      · (try dsimp only at hSw); go_simp
      try simp only [Act.put, List.getElem_toArray, List.getElem_cons_succ, List.getElem_cons_zero, List.setIfInBounds_toArray, List.set_cons_zero, List.set_cons_succ]
      refine wpAnyH_take (i := 10) (oi := _) (v := .map (some bf)) rfl (by kernel_rfl) (by kernel_rfl) (by kernel_rfl) (fun _ _ _ h => h) (Or.inl ⟨by kernel_rfl, fun w hSw => ?_⟩) hHeld ?_
      · (try dsimp only at hSw); have hh := (HLK.out _ hSw).1; go_simp
      try simp only [Act.put, List.getElem_toArray, List.getElem_cons_succ, List.getElem_cons_zero, List.setIfInBounds_toArray, List.set_cons_zero, List.set_cons_succ]
      refine wpAnyH_take (i := 11) (oi := _) (v := .pointer (some ⟨b6, 1, none⟩)) rfl (by kernel_rfl) (by kernel_rfl) (by kernel_rfl) (fun _ _ _ h => h) (Or.inl ⟨by kernel_rfl, fun w hSw => ?_⟩) hHeld ?_
      · (try dsimp only at hSw); go_simp
      try simp only [Act.put, List.getElem_toArray, List.getElem_cons_succ, List.getElem_cons_zero, List.setIfInBounds_toArray, List.set_cons_zero, List.set_cons_succ]
      refine wpAnyH_take (i := 12) (oi := _) (v := .string name) rfl (by kernel_rfl) (by kernel_rfl) (by kernel_rfl) (fun _ _ _ h => h) (Or.inl ⟨by kernel_rfl, fun w hSw => ?_⟩) hHeld ?_
      · (try dsimp only at hSw); have hh := HNM.out _ hSw; go_simp
      try simp only [Act.put, List.getElem_toArray, List.getElem_cons_succ, List.getElem_cons_zero, List.setIfInBounds_toArray, List.set_cons_zero, List.set_cons_succ]
      refine wpAnyH_take (i := 13) (oi := _) (v := .agg #[.string nw, .pointer P]) rfl (by kernel_rfl) (by kernel_rfl) (by kernel_rfl) (fun _ _ _ h => h) (Or.inl ⟨by kernel_rfl, fun w hSw => ?_⟩) hHeld ?_
      · (try dsimp only at hSw); have hh := (HLK.out _ hSw).2; simp only [execOp]; go_simp
      try simp only [Act.put, List.getElem_toArray, List.getElem_cons_succ, List.getElem_cons_zero, List.setIfInBounds_toArray, List.set_cons_zero, List.set_cons_succ]
      refine wpAnyH_take (i := 14) (oi := _) (v := .string nw) rfl (by kernel_rfl) (by kernel_rfl) (by kernel_rfl) (fun _ _ _ h => h) (Or.inl ⟨by kernel_rfl, fun w hSw => ?_⟩) hHeld ?_
      · (try dsimp only at hSw); kernel_rfl
      try simp only [Act.put, List.getElem_toArray, List.getElem_cons_succ, List.getElem_cons_zero, List.setIfInBounds_toArray, List.set_cons_zero, List.set_cons_succ]
      refine wpAnyH_ready (rs := [6]) (by kernel_rfl) (by simp) ?_
      refine AllReadyH.cons (o := _) rfl (fun K hK => ?_) AllReadyH.nil
      go_simp
      go_at_call 14
      refine (k_get (HT9.out.other hHeld) (n := name) (by omega)).mono ?_
      rintro e12 w12 ⟨rfl, rfl⟩
      rw [Hnw.out]
      refine hK.out _ _ hHeld (fun hHeld2 => ?_)
      clear hK K hHeld
      have hHeld := hHeld2
      clear hHeld2
      try simp only [Act.put, List.getElem_toArray, List.getElem_cons_succ, List.getElem_cons_zero, List.setIfInBounds_toArray, List.set_cons_zero, List.set_cons_succ]
      refine wpAnyH_take (i := 15) (oi := _) (v := .bool false) rfl (by kernel_rfl) (by kernel_rfl) (by kernel_rfl) (fun _ _ _ h => h) (Or.inl ⟨by kernel_rfl, fun w hSw => ?_⟩) hHeld ?_
      · (try dsimp only at hSw); go_simp
      try simp only [Act.put, List.getElem_toArray, List.getElem_cons_succ, List.getElem_cons_zero, List.setIfInBounds_toArray, List.set_cons_zero, List.set_cons_succ]
      refine wpAnyH_take (i := 16) (oi := _) (v := .bool false) rfl (by kernel_rfl) (by kernel_rfl) (by kernel_rfl) (fun _ _ _ h => h) (Or.inl ⟨by kernel_rfl, fun w hSw => ?_⟩) hHeld ?_
      · (try dsimp only at hSw); go_simp
      try simp only [Act.put, List.getElem_toArray, List.getElem_cons_succ, List.getElem_cons_zero, List.setIfInBounds_toArray, List.set_cons_zero, List.set_cons_succ]
      refine wpAnyH_take (i := 17) (oi := _) (v := .bool false) rfl (by kernel_rfl) (by kernel_rfl) (by kernel_rfl) (fun _ _ _ h => h) (Or.inl ⟨by kernel_rfl, fun w hSw => ?_⟩) hHeld ?_
      · (try dsimp only at hSw); go_simp
      try simp only [Act.put, List.getElem_toArray, List.getElem_cons_succ, List.getElem_cons_zero, List.setIfInBounds_toArray, List.set_cons_zero, List.set_cons_succ]
      refine wpAnyH_take (i := 18) (oi := _) (v := .pointer (some ⟨b9, 0, none⟩)) rfl (by kernel_rfl) (by kernel_rfl) (by kernel_rfl) (fun _ _ _ h => h) (Or.inl ⟨by kernel_rfl, fun w hSw => ?_⟩) hHeld ?_
      · (try dsimp only at hSw); go_simp
      try simp only [Act.put, List.getElem_toArray, List.getElem_cons_succ, List.getElem_cons_zero, List.setIfInBounds_toArray, List.set_cons_zero, List.set_cons_succ]
      refine wpAnyH_take (i := 20) (oi := _) (v := .pointer (some ⟨R, 0, none⟩)) rfl (by kernel_rfl) (by kernel_rfl) (by kernel_rfl) (fun _ _ _ h => h) (Or.inl ⟨by kernel_rfl, fun w hSw => ?_⟩) hHeld ?_
      · (try dsimp only at hSw); go_simp
      try simp only [Act.put, List.getElem_toArray, List.getElem_cons_succ, List.getElem_cons_zero, List.setIfInBounds_toArray, List.set_cons_zero, List.set_cons_succ]
      refine wpAnyH_ready (rs := [19]) (by kernel_rfl) (by simp) ?_
      refine AllReadyH.cons (o := _) rfl (fun K hK => ?_) AllReadyH.nil
      go_simp
      go_at_call 16
      refine (k_bnames (HT9.out.other hHeld) HI9.out (by omega)).mono ?_
      rintro e13 w13 ⟨v13, rfl, hS13, hb13⟩
      have HS13 := Lib.hid hS13
      have HB13 := Lib.hid (hHeld.trans (hb13.mono hHeld.size))
      clear hS13
      refine hK.out _ _ HB13.out (fun hHeld2 => ?_)
      clear hb13
      clear hK K hHeld
      have hHeld := hHeld2
      clear hHeld2
      try simp only [Act.put, List.getElem_toArray, List.getElem_cons_succ, List.getElem_cons_zero, List.setIfInBounds_toArray, List.set_cons_zero, List.set_cons_succ]
      refine wpAnyH_ready (rs := [21]) (by kernel_rfl) (by simp) ?_
      refine AllReadyH.cons (o := _) rfl (fun K hK => ?_) AllReadyH.nil
      go_simp
      go_at_call 17
      refine (k_names (HT9.out.other hHeld) HI9.out (by omega)).mono ?_
      rintro e14 w14 ⟨v14, rfl, hS14, hb14⟩
      have HS14 := Lib.hid hS14
      have HSB := Lib.hid (HS13.out.below hb14 (Nat.le_refl _))
      refine hK.out _ _ (hHeld.trans (hb14.mono hHeld.size)) (fun hHeld2 => ?_)
      clear hb14 hS14 HS13
      clear hK K hHeld
      have hHeld := hHeld2
      clear hHeld2
      try simp only [Act.put, List.getElem_toArray, List.getElem_cons_succ, List.getElem_cons_zero, List.setIfInBounds_toArray, List.set_cons_zero, List.set_cons_succ]
      refine wpAnyH_ready (rs := [22]) (by kernel_rfl) (by simp) ?_
      refine AllReadyH.cons (o := _) rfl (fun K hK => ?_) AllReadyH.nil
      go_simp
      go_at_call 15
      refine (sameTexts_calls _ _ _ _ HSB.out HS14.out).mono ?_
      rintro e15 w15 ⟨rfl, hb15⟩
      refine hK.out _ _ (hHeld.trans (hb15.mono hHeld.size)) (fun hHeld2 => ?_)
      clear hb15 HSB HS14
      clear hK K hHeld
      have hHeld := hHeld2
      clear hHeld2
      try simp only [Act.put, List.getElem_toArray, List.getElem_cons_succ, List.getElem_cons_zero, List.setIfInBounds_toArray, List.set_cons_zero, List.set_cons_succ]
      refine wpAnyH_take (i := 23) (oi := _) (v := .bool false) rfl (by kernel_rfl) (by kernel_rfl) (by kernel_rfl) (fun _ _ _ h => h) (Or.inl ⟨by kernel_rfl, fun w hSw => ?_⟩) hHeld ?_
      · (try dsimp only at hSw); go_simp
      try simp only [Act.put, List.getElem_toArray, List.getElem_cons_succ, List.getElem_cons_zero, List.setIfInBounds_toArray, List.set_cons_zero, List.set_cons_succ]
      refine wpAnyH_take (i := 24) (oi := _) (v := .bool false) rfl (by kernel_rfl) (by kernel_rfl) (by kernel_rfl) (fun _ _ _ h => h) (Or.inl ⟨by kernel_rfl, fun w hSw => ?_⟩) hHeld ?_
      · (try dsimp only at hSw); go_simp
      try simp only [Act.put, List.getElem_toArray, List.getElem_cons_succ, List.getElem_cons_zero, List.setIfInBounds_toArray, List.set_cons_zero, List.set_cons_succ]
      refine wpAnyH_done (by kernel_rfl) ?_ _
      have HBE := Lib.hid hHeld
      clear hHeld
      go_wp2_with fail
      go_roundg (n - (i + 1))
      case rel => exact ⟨i + 1, b9, s9, r9, rfl, by go_num, by omega, rfl, (HT9.out.other HBE.out).less, HI9.out, HB9.out.trans (HBE.out.mono hA9)⟩
      case measure => have := Hk.out; omega
    by_cases hq2 : what = 2
    case' pos =>
      subst hq2
      have KO := Lib.hid (k_open hA6 HT6.out HI.out (by omega))
      obtain ⟨s9, hs9⟩ : ∃ s9, openB s.d = s9 := ⟨_, rfl⟩
      have q2 := HI.out.reopen.mono
      rw [hs9] at KO q2
      clear hs9
      go_wp2_with fail
      rw [← Hw6.out]
      go_wp2_with fail
      refine KO.out.mono ?_
      rintro e8 w8 ⟨rfl, hT8, hX8⟩
      obtain ⟨b9, hb9'⟩ : ∃ b9, w6.heap.size + 1 = b9 := ⟨_, rfl⟩
      rw [hb9'] at hT8 ⊢
      have HB9 := Lib.hid (HB6.out.trans hX8.1)
      have HC9 := Lib.hid ((hX8.2 b6 (by simp)).trans HC6.out)
      have HT9 := Lib.hid hT8
      have HI9 := Lib.hid q2
      obtain ⟨r9, hr9⟩ : ∃ r9, r9 = r := ⟨_, rfl⟩
      rw [← hr9] at HI9 HT9
      clear hT8 hX8 KO HT6 HT d0 d1 d2 c60 c61 c62 q2 hr9 hb9'
      have hA9 : A ≤ w8.heap.size := Nat.le_trans hAw HB9.out.size
      have HNM : Hid (∀ U, Below w8.heap.size w8 U → U.cell? ⟨b6, 1, none⟩ = some (.string name)) := fun U hb => by
        obtain ⟨-, h, -, hl⟩ := note_cells HC9.out
        exact (hb.cell (p := ⟨b6, 1, none⟩) hl).trans h
      obtain ⟨bf, P, hLK⟩ := k_look HT9.out HI9.out (f := name) (by omega)
      obtain ⟨nw, hnw⟩ : ∃ nw, nowOf s9.m name = nw := ⟨_, rfl⟩
      rw [hnw] at hLK
      have HLK := Lib.hid hLK
      have Hnw := Lib.hid hnw
      clear hLK hnw
      go_wp2_with fail
      refine wp_region_held_drew (S := fun w' => Below w8.heap.size w8 w') (by kernel_rfl) ?_ (fun hHeld => ?_)
      · exact (Below.refl _ _).drew
      refine wpAnyH_take (i := 0) (oi := _) (v := .pointer (some ⟨b9, 0, none⟩)) rfl (by kernel_rfl) (by kernel_rfl) (by kernel_rfl) (fun _ _ _ h => h) (Or.inl ⟨by kernel_rfl, fun w hSw => ?_⟩) hHeld ?_
      · (try dsimp only at hSw); go_simp
      try simp only [Act.put, List.getElem_toArray, List.getElem_cons_zero, List.setIfInBounds_toArray, List.set_cons_zero, List.set_cons_succ]
      refine wpAnyH_ready (rs := [1]) (by kernel_rfl) (by simp) ?_
      refine AllReadyH.cons (o := _) rfl (fun K hK => ?_) AllReadyH.nil
      go_simp
      go_at_call 13
      refine (k_down (HT9.out.other hHeld)).mono ?_
      rintro e11 w11 ⟨rfl, rfl⟩
      rw [HI9.out.dn]
      refine hK.out _ _ hHeld (fun hHeld2 => ?_)
      clear hK K hHeld
      have hHeld := hHeld2
      clear hHeld2
      try simp only [Act.put, List.getElem_toArray, List.getElem_cons_succ, List.getElem_cons_zero, List.setIfInBounds_toArray, List.set_cons_zero, List.set_cons_succ]
      refine wpAnyH_take (i := 2) (oi := _) (v := .bool false) rfl (by kernel_rfl) (by kernel_rfl) (by kernel_rfl) (fun _ _ _ h => h) (Or.inl ⟨by kernel_rfl, fun w hSw => ?_⟩) hHeld ?_
      · (try dsimp only at hSw); go_simp
      try simp only [Act.put, List.getElem_toArray, List.getElem_cons_succ, List.getElem_cons_zero, List.setIfInBounds_toArray, List.set_cons_zero, List.set_cons_succ]
      refine wpAnyH_take (i := 3) (oi := _) (v := .pointer (some ⟨b9, 0, none⟩)) rfl (by kernel_rfl) (by kernel_rfl) (by kernel_rfl) (fun _ _ _ h => h) (Or.inl ⟨by kernel_rfl, fun w hSw => ?_⟩) hHeld ?_
      · (try dsimp only at hSw); go_simp
      try simp only [Act.put, List.getElem_toArray, List.getElem_cons_succ, List.getElem_cons_zero, List.setIfInBounds_toArray, List.set_cons_zero, List.set_cons_succ]
      refine wpAnyH_take (i := 4) (oi := _) (v := .pointer (some ⟨b6, 1, none⟩)) rfl (by kernel_rfl) (by kernel_rfl) (by kernel_rfl) (fun _ _ _ h => h) (Or.inl ⟨by kernel_rfl, fun w hSw => ?_⟩) hHeld ?_
      · (try dsimp only at hSw); go_simp
      try simp only [Act.put, List.getElem_toArray, List.getElem_cons_succ, List.getElem_cons_zero, List.setIfInBounds_toArray, List.set_cons_zero, List.set_cons_succ]
      refine wpAnyH_take (i := 5) (oi := _) (v := .string name) rfl (by kernel_rfl) (by kernel_rfl) (by kernel_rfl) (fun _ _ _ h => h) (Or.inl ⟨by kernel_rfl, fun w hSw => ?_⟩) hHeld ?_
      · (try dsimp only at hSw); have hh := HNM.out _ hSw; go_simp
      try simp only [Act.put, List.getElem_toArray, List.getElem_cons_succ, List.getElem_cons_zero, List.setIfInBounds_toArray, List.set_cons_zero, List.set_cons_succ]
      refine wpAnyH_take (i := 7) (oi := _) (v := .pointer (some ⟨R, 0, none⟩)) rfl (by kernel_rfl) (by kernel_rfl) (by kernel_rfl) (fun _ _ _ h => h) (Or.inl ⟨by kernel_rfl, fun w hSw => ?_⟩) hHeld ?_
      · (try dsimp only at hSw); go_simp
      try simp only [Act.put, List.getElem_toArray, List.getElem_cons_succ, List.getElem_cons_zero, List.setIfInBounds_toArray, List.set_cons_zero, List.set_cons_succ]
      refine wpAnyH_take (i := 8) (oi := _) (v := .pointer (some ⟨R, 0, none⟩)) rfl (by kernel_rfl) (by kernel_rfl) (by kernel_rfl) (fun _ _ _ h => h) (Or.inl ⟨by kernel_rfl, fun w hSw => ?_⟩) hHeld ?_
      · (try dsimp only at hSw); go_simp
      try simp only [Act.put, List.getElem_toArray, List.getElem_cons_succ, List.getElem_cons_zero, List.setIfInBounds_toArray, List.set_cons_zero, List.set_cons_succ]
      refine wpAnyH_take (i := 9) (oi := _) (v := .pointer (some ⟨R, 0, none⟩)) rfl (by kernel_rfl) (by kernel_rfl) (by kernel_rfl) (fun _ _ _ h => h) (Or.inl ⟨by kernel_rfl, fun w hSw => ?_⟩) hHeld ?_
      · (try dsimp only at hSw); go_simp
      try simp only [Act.put, List.getElem_toArray, List.getElem_cons_succ, List.getElem_cons_zero, List.setIfInBounds_toArray, List.set_cons_zero, List.set_cons_succ]
      refine wpAnyH_take (i := 10) (oi := _) (v := .map (some bf)) rfl (by kernel_rfl) (by kernel_rfl) (by kernel_rfl) (fun _ _ _ h => h) (Or.inl ⟨by kernel_rfl, fun w hSw => ?_⟩) hHeld ?_
      · (try dsimp only at hSw); have hh := (HLK.out _ hSw).1; go_simp
      try simp only [Act.put, List.getElem_toArray, List.getElem_cons_succ, List.getElem_cons_zero, List.setIfInBounds_toArray, List.set_cons_zero, List.set_cons_succ]
      refine wpAnyH_take (i := 11) (oi := _) (v := .pointer (some ⟨b6, 1, none⟩)) rfl (by kernel_rfl) (by kernel_rfl) (by kernel_rfl) (fun _ _ _ h => h) (Or.inl ⟨by kernel_rfl, fun w hSw => ?_⟩) hHeld ?_
      · (try dsimp only at hSw); go_simp
      try simp only [Act.put, List.getElem_toArray, List.getElem_cons_succ, List.getElem_cons_zero, List.setIfInBounds_toArray, List.set_cons_zero, List.set_cons_succ]
      refine wpAnyH_take (i := 12) (oi := _) (v := .string name) rfl (by kernel_rfl) (by kernel_rfl) (by kernel_rfl) (fun _ _ _ h => h) (Or.inl ⟨by kernel_rfl, fun w hSw => ?_⟩) hHeld ?_
      · (try dsimp only at hSw); have hh := HNM.out _ hSw; go_simp
      try simp only [Act.put, List.getElem_toArray, List.getElem_cons_succ, List.getElem_cons_zero, List.setIfInBounds_toArray, List.set_cons_zero, List.set_cons_succ]
      refine wpAnyH_take (i := 13) (oi := _) (v := .agg #[.string nw, .pointer P]) rfl (by kernel_rfl) (by kernel_rfl) (by kernel_rfl) (fun _ _ _ h => h) (Or.inl ⟨by kernel_rfl, fun w hSw => ?_⟩) hHeld ?_
      · (try dsimp only at hSw); have hh := (HLK.out _ hSw).2; simp only [execOp]; go_simp
      try simp only [Act.put, List.getElem_toArray, List.getElem_cons_succ, List.getElem_cons_zero, List.setIfInBounds_toArray, List.set_cons_zero, List.set_cons_succ]
      refine wpAnyH_take (i := 14) (oi := _) (v := .string nw) rfl (by kernel_rfl) (by kernel_rfl) (by kernel_rfl) (fun _ _ _ h => h) (Or.inl ⟨by kernel_rfl, fun w hSw => ?_⟩) hHeld ?_
      · (try dsimp only at hSw); kernel_rfl
      try simp only [Act.put, List.getElem_toArray, List.getElem_cons_succ, List.getElem_cons_zero, List.setIfInBounds_toArray, List.set_cons_zero, List.set_cons_succ]
      refine wpAnyH_ready (rs := [6]) (by kernel_rfl) (by simp) ?_
      refine AllReadyH.cons (o := _) rfl (fun K hK => ?_) AllReadyH.nil
      go_simp
      go_at_call 14
      refine (k_get (HT9.out.other hHeld) (n := name) (by omega)).mono ?_
      rintro e12 w12 ⟨rfl, rfl⟩
      rw [Hnw.out]
      refine hK.out _ _ hHeld (fun hHeld2 => ?_)
      clear hK K hHeld
      have hHeld := hHeld2
      clear hHeld2
      try simp only [Act.put, List.getElem_toArray, List.getElem_cons_succ, List.getElem_cons_zero, List.setIfInBounds_toArray, List.set_cons_zero, List.set_cons_succ]
      refine wpAnyH_take (i := 15) (oi := _) (v := .bool false) rfl (by kernel_rfl) (by kernel_rfl) (by kernel_rfl) (fun _ _ _ h => h) (Or.inl ⟨by kernel_rfl, fun w hSw => ?_⟩) hHeld ?_
      · (try dsimp only at hSw); go_simp
      try simp only [Act.put, List.getElem_toArray, List.getElem_cons_succ, List.getElem_cons_zero, List.setIfInBounds_toArray, List.set_cons_zero, List.set_cons_succ]
      refine wpAnyH_take (i := 16) (oi := _) (v := .bool false) rfl (by kernel_rfl) (by kernel_rfl) (by kernel_rfl) (fun _ _ _ h => h) (Or.inl ⟨by kernel_rfl, fun w hSw => ?_⟩) hHeld ?_
      · (try dsimp only at hSw); go_simp
      try simp only [Act.put, List.getElem_toArray, List.getElem_cons_succ, List.getElem_cons_zero, List.setIfInBounds_toArray, List.set_cons_zero, List.set_cons_succ]
      refine wpAnyH_take (i := 17) (oi := _) (v := .bool false) rfl (by kernel_rfl) (by kernel_rfl) (by kernel_rfl) (fun _ _ _ h => h) (Or.inl ⟨by kernel_rfl, fun w hSw => ?_⟩) hHeld ?_
      · (try dsimp only at hSw); go_simp
      try simp only [Act.put, List.getElem_toArray, List.getElem_cons_succ, List.getElem_cons_zero, List.setIfInBounds_toArray, List.set_cons_zero, List.set_cons_succ]
      refine wpAnyH_take (i := 18) (oi := _) (v := .pointer (some ⟨b9, 0, none⟩)) rfl (by kernel_rfl) (by kernel_rfl) (by kernel_rfl) (fun _ _ _ h => h) (Or.inl ⟨by kernel_rfl, fun w hSw => ?_⟩) hHeld ?_
      · (try dsimp only at hSw); go_simp
      try simp only [Act.put, List.getElem_toArray, List.getElem_cons_succ, List.getElem_cons_zero, List.setIfInBounds_toArray, List.set_cons_zero, List.set_cons_succ]
      refine wpAnyH_take (i := 20) (oi := _) (v := .pointer (some ⟨R, 0, none⟩)) rfl (by kernel_rfl) (by kernel_rfl) (by kernel_rfl) (fun _ _ _ h => h) (Or.inl ⟨by kernel_rfl, fun w hSw => ?_⟩) hHeld ?_
      · (try dsimp only at hSw); go_simp
      try simp only [Act.put, List.getElem_toArray, List.getElem_cons_succ, List.getElem_cons_zero, List.setIfInBounds_toArray, List.set_cons_zero, List.set_cons_succ]
      refine wpAnyH_ready (rs := [19]) (by kernel_rfl) (by simp) ?_
      refine AllReadyH.cons (o := _) rfl (fun K hK => ?_) AllReadyH.nil
      go_simp
      go_at_call 16
      refine (k_bnames (HT9.out.other hHeld) HI9.out (by omega)).mono ?_
      rintro e13 w13 ⟨v13, rfl, hS13, hb13⟩
      have HS13 := Lib.hid hS13
      have HB13 := Lib.hid (hHeld.trans (hb13.mono hHeld.size))
      clear hS13
      refine hK.out _ _ HB13.out (fun hHeld2 => ?_)
      clear hb13
      clear hK K hHeld
      have hHeld := hHeld2
      clear hHeld2
      try simp only [Act.put, List.getElem_toArray, List.getElem_cons_succ, List.getElem_cons_zero, List.setIfInBounds_toArray, List.set_cons_zero, List.set_cons_succ]
      refine wpAnyH_ready (rs := [21]) (by kernel_rfl) (by simp) ?_
      refine AllReadyH.cons (o := _) rfl (fun K hK => ?_) AllReadyH.nil
      go_simp
      go_at_call 17
      refine (k_names (HT9.out.other hHeld) HI9.out (by omega)).mono ?_
      rintro e14 w14 ⟨v14, rfl, hS14, hb14⟩
      have HS14 := Lib.hid hS14
      have HSB := Lib.hid (HS13.out.below hb14 (Nat.le_refl _))
      refine hK.out _ _ (hHeld.trans (hb14.mono hHeld.size)) (fun hHeld2 => ?_)
      clear hb14 hS14 HS13
      clear hK K hHeld
      have hHeld := hHeld2
      clear hHeld2
      try simp only [Act.put, List.getElem_toArray, List.getElem_cons_succ, List.getElem_cons_zero, List.setIfInBounds_toArray, List.set_cons_zero, List.set_cons_succ]
      refine wpAnyH_ready (rs := [22]) (by kernel_rfl) (by simp) ?_
      refine AllReadyH.cons (o := _) rfl (fun K hK => ?_) AllReadyH.nil
      go_simp
      go_at_call 15
      refine (sameTexts_calls _ _ _ _ HSB.out HS14.out).mono ?_
      rintro e15 w15 ⟨rfl, hb15⟩
      refine hK.out _ _ (hHeld.trans (hb15.mono hHeld.size)) (fun hHeld2 => ?_)
      clear hb15 HSB HS14
      clear hK K hHeld
      have hHeld := hHeld2
      clear hHeld2
      try simp only [Act.put, List.getElem_toArray, List.getElem_cons_succ, List.getElem_cons_zero, List.setIfInBounds_toArray, List.set_cons_zero, List.set_cons_succ]
      refine wpAnyH_take (i := 23) (oi := _) (v := .bool false) rfl (by kernel_rfl) (by kernel_rfl) (by kernel_rfl) (fun _ _ _ h => h) (Or.inl ⟨by kernel_rfl, fun w hSw => ?_⟩) hHeld ?_
      · (try dsimp only at hSw); go_simp
      try simp only [Act.put, List.getElem_toArray, List.getElem_cons_succ, List.getElem_cons_zero, List.setIfInBounds_toArray, List.set_cons_zero, List.set_cons_succ]
      refine wpAnyH_take (i := 24) (oi := _) (v := .bool false) rfl (by kernel_rfl) (by kernel_rfl) (by kernel_rfl) (fun _ _ _ h => h) (Or.inl ⟨by kernel_rfl, fun w hSw => ?_⟩) hHeld ?_
      · (try dsimp only at hSw); go_simp
      try simp only [Act.put, List.getElem_toArray, List.getElem_cons_succ, List.getElem_cons_zero, List.setIfInBounds_toArray, List.set_cons_zero, List.set_cons_succ]
      refine wpAnyH_done (by kernel_rfl) ?_ _
      have HBE := Lib.hid hHeld
      clear hHeld
      go_wp2_with fail
      go_roundg (n - (i + 1))
      case rel => exact ⟨i + 1, b9, s9, r9, rfl, by go_num, by omega, rfl, (HT9.out.other HBE.out).less, HI9.out, HB9.out.trans (HBE.out.mono hA9)⟩
      case measure => have := Hk.out; omega
    have eq0 : (what == 0) = false := by rw [beq_eq_false_iff_ne]; exact hq0
    have eq1 : (what == 1) = false := by rw [beq_eq_false_iff_ne]; exact hq1
    have eq2 : (what == 2) = false := by rw [beq_eq_false_iff_ne]; exact hq2
    go_wp2_with fail
    rw [← Hw6.out]
    have HT9 := HT6
    have HB9 := HB6
    have HC9 := HC6
    have HI9 := Lib.hid HI.out.mono
    obtain ⟨s9, hs9⟩ : ∃ s9, s9 = s := ⟨_, rfl⟩
    obtain ⟨r9, hr9⟩ : ∃ r9, r9 = r := ⟨_, rfl⟩
    obtain ⟨b9, hb9'⟩ : ∃ b9, b9 = bb := ⟨_, rfl⟩
    rw [← hs9, ← hr9] at HI9 HT9
    rw [← hb9'] at HT9 ⊢
    clear HT6 HT d0 d1 d2 c60 c61 c62 hs9 hr9 hb9'
    have hA9 : A ≤ w6.heap.size := Nat.le_trans hAw HB9.out.size
    have HNM : Hid (∀ U, Below w6.heap.size w6 U → U.cell? ⟨b6, 1, none⟩ = some (.string name)) := fun U hb => by
      obtain ⟨-, h, -, hl⟩ := note_cells HC9.out
      exact (hb.cell (p := ⟨b6, 1, none⟩) hl).trans h
    obtain ⟨bf, P, hLK⟩ := k_look HT9.out HI9.out (f := name) (by omega)
    obtain ⟨nw, hnw⟩ : ∃ nw, nowOf s9.m name = nw := ⟨_, rfl⟩
    rw [hnw] at hLK
    have HLK := Lib.hid hLK
    have Hnw := Lib.hid hnw
    clear hLK hnw
    go_wp2_with fail
    refine wp_region_held_drew (S := fun w' => Below w6.heap.size w6 w') (by kernel_rfl) ?_ (fun hHeld => ?_)
    · exact (Below.refl _ _).drew
    refine wpAnyH_take (i := 0) (oi := _) (v := .pointer (some ⟨b9, 0, none⟩)) rfl (by kernel_rfl) (by kernel_rfl) (by kernel_rfl) (fun _ _ _ h => h) (Or.inl ⟨by kernel_rfl, fun w hSw => ?_⟩) hHeld ?_
    · (try dsimp only at hSw); go_simp
    try simp only [Act.put, List.getElem_toArray, List.getElem_cons_zero, List.setIfInBounds_toArray, List.set_cons_zero, List.set_cons_succ]
    refine wpAnyH_ready (rs := [1]) (by kernel_rfl) (by simp) ?_
    refine AllReadyH.cons (o := _) rfl (fun K hK => ?_) AllReadyH.nil
    go_simp
    go_at_call 13
    refine (k_down (HT9.out.other hHeld)).mono ?_
    rintro e11 w11 ⟨rfl, rfl⟩
    rw [HI9.out.dn]
    refine hK.out _ _ hHeld (fun hHeld2 => ?_)
    clear hK K hHeld
    have hHeld := hHeld2
    clear hHeld2
    try simp only [Act.put, List.getElem_toArray, List.getElem_cons_succ, List.getElem_cons_zero, List.setIfInBounds_toArray, List.set_cons_zero, List.set_cons_succ]
    refine wpAnyH_take (i := 2) (oi := _) (v := .bool false) rfl (by kernel_rfl) (by kernel_rfl) (by kernel_rfl) (fun _ _ _ h => h) (Or.inl ⟨by kernel_rfl, fun w hSw => ?_⟩) hHeld ?_
    · (try dsimp only at hSw); go_simp
    try simp only [Act.put, List.getElem_toArray, List.getElem_cons_succ, List.getElem_cons_zero, List.setIfInBounds_toArray, List.set_cons_zero, List.set_cons_succ]
    refine wpAnyH_take (i := 3) (oi := _) (v := .pointer (some ⟨b9, 0, none⟩)) rfl (by kernel_rfl) (by kernel_rfl) (by kernel_rfl) (fun _ _ _ h => h) (Or.inl ⟨by kernel_rfl, fun w hSw => ?_⟩) hHeld ?_
    · (try dsimp only at hSw); go_simp
    try simp only [Act.put, List.getElem_toArray, List.getElem_cons_succ, List.getElem_cons_zero, List.setIfInBounds_toArray, List.set_cons_zero, List.set_cons_succ]
    refine wpAnyH_take (i := 4) (oi := _) (v := .pointer (some ⟨b6, 1, none⟩)) rfl (by kernel_rfl) (by kernel_rfl) (by kernel_rfl) (fun _ _ _ h => h) (Or.inl ⟨by kernel_rfl, fun w hSw => ?_⟩) hHeld ?_
    · (try dsimp only at hSw); go_simp
    try simp only [Act.put, List.getElem_toArray, List.getElem_cons_succ, List.getElem_cons_zero, List.setIfInBounds_toArray, List.set_cons_zero, List.set_cons_succ]
    refine wpAnyH_take (i := 5) (oi := _) (v := .string name) rfl (by kernel_rfl) (by kernel_rfl) (by kernel_rfl) (fun _ _ _ h => h) (Or.inl ⟨by kernel_rfl, fun w hSw => ?_⟩) hHeld ?_
    · (try dsimp only at hSw); have hh := HNM.out _ hSw; go_simp
    try simp only [Act.put, List.getElem_toArray, List.getElem_cons_succ, List.getElem_cons_zero, List.setIfInBounds_toArray, List.set_cons_zero, List.set_cons_succ]
    refine wpAnyH_take (i := 7) (oi := _) (v := .pointer (some ⟨R, 0, none⟩)) rfl (by kernel_rfl) (by kernel_rfl) (by kernel_rfl) (fun _ _ _ h => h) (Or.inl ⟨by kernel_rfl, fun w hSw => ?_⟩) hHeld ?_
    · (try dsimp only at hSw); go_simp
    try simp only [Act.put, List.getElem_toArray, List.getElem_cons_succ, List.getElem_cons_zero, List.setIfInBounds_toArray, List.set_cons_zero, List.set_cons_succ]
    refine wpAnyH_take (i := 8) (oi := _) (v := .pointer (some ⟨R, 0, none⟩)) rfl (by kernel_rfl) (by kernel_rfl) (by kernel_rfl) (fun _ _ _ h => h) (Or.inl ⟨by kernel_rfl, fun w hSw => ?_⟩) hHeld ?_
    · (try dsimp only at hSw); go_simp
    try simp only [Act.put, List.getElem_toArray, List.getElem_cons_succ, List.getElem_cons_zero, List.setIfInBounds_toArray, List.set_cons_zero, List.set_cons_succ]
    refine wpAnyH_take (i := 9) (oi := _) (v := .pointer (some ⟨R, 0, none⟩)) rfl (by kernel_rfl) (by kernel_rfl) (by kernel_rfl) (fun _ _ _ h => h) (Or.inl ⟨by kernel_rfl, fun w hSw => ?_⟩) hHeld ?_
    · (try dsimp only at hSw); go_simp
    try simp only [Act.put, List.getElem_toArray, List.getElem_cons_succ, List.getElem_cons_zero, List.setIfInBounds_toArray, List.set_cons_zero, List.set_cons_succ]
    refine wpAnyH_take (i := 10) (oi := _) (v := .map (some bf)) rfl (by kernel_rfl) (by kernel_rfl) (by kernel_rfl) (fun _ _ _ h => h) (Or.inl ⟨by kernel_rfl, fun w hSw => ?_⟩) hHeld ?_
    · (try dsimp only at hSw); have hh := (HLK.out _ hSw).1; go_simp
    try simp only [Act.put, List.getElem_toArray, List.getElem_cons_succ, List.getElem_cons_zero, List.setIfInBounds_toArray, List.set_cons_zero, List.set_cons_succ]
    refine wpAnyH_take (i := 11) (oi := _) (v := .pointer (some ⟨b6, 1, none⟩)) rfl (by kernel_rfl) (by kernel_rfl) (by kernel_rfl) (fun _ _ _ h => h) (Or.inl ⟨by kernel_rfl, fun w hSw => ?_⟩) hHeld ?_
    · (try dsimp only at hSw); go_simp
    try simp only [Act.put, List.getElem_toArray, List.getElem_cons_succ, List.getElem_cons_zero, List.setIfInBounds_toArray, List.set_cons_zero, List.set_cons_succ]
    refine wpAnyH_take (i := 12) (oi := _) (v := .string name) rfl (by kernel_rfl) (by kernel_rfl) (by kernel_rfl) (fun _ _ _ h => h) (Or.inl ⟨by kernel_rfl, fun w hSw => ?_⟩) hHeld ?_
    · (try dsimp only at hSw); have hh := HNM.out _ hSw; go_simp
    try simp only [Act.put, List.getElem_toArray, List.getElem_cons_succ, List.getElem_cons_zero, List.setIfInBounds_toArray, List.set_cons_zero, List.set_cons_succ]
    refine wpAnyH_take (i := 13) (oi := _) (v := .agg #[.string nw, .pointer P]) rfl (by kernel_rfl) (by kernel_rfl) (by kernel_rfl) (fun _ _ _ h => h) (Or.inl ⟨by kernel_rfl, fun w hSw => ?_⟩) hHeld ?_
    · (try dsimp only at hSw); have hh := (HLK.out _ hSw).2; simp only [execOp]; go_simp
    try simp only [Act.put, List.getElem_toArray, List.getElem_cons_succ, List.getElem_cons_zero, List.setIfInBounds_toArray, List.set_cons_zero, List.set_cons_succ]
    refine wpAnyH_take (i := 14) (oi := _) (v := .string nw) rfl (by kernel_rfl) (by kernel_rfl) (by kernel_rfl) (fun _ _ _ h => h) (Or.inl ⟨by kernel_rfl, fun w hSw => ?_⟩) hHeld ?_
    · (try dsimp only at hSw); kernel_rfl
    try simp only [Act.put, List.getElem_toArray, List.getElem_cons_succ, List.getElem_cons_zero, List.setIfInBounds_toArray, List.set_cons_zero, List.set_cons_succ]
    refine wpAnyH_ready (rs := [6]) (by kernel_rfl) (by simp) ?_
    refine AllReadyH.cons (o := _) rfl (fun K hK => ?_) AllReadyH.nil
    go_simp
    go_at_call 14
    refine (k_get (HT9.out.other hHeld) (n := name) (by omega)).mono ?_
    rintro e12 w12 ⟨rfl, rfl⟩
    rw [Hnw.out]
    refine hK.out _ _ hHeld (fun hHeld2 => ?_)
    clear hK K hHeld
    have hHeld := hHeld2
    clear hHeld2
    try simp only [Act.put, List.getElem_toArray, List.getElem_cons_succ, List.getElem_cons_zero, List.setIfInBounds_toArray, List.set_cons_zero, List.set_cons_succ]
    refine wpAnyH_take (i := 15) (oi := _) (v := .bool false) rfl (by kernel_rfl) (by kernel_rfl) (by kernel_rfl) (fun _ _ _ h => h) (Or.inl ⟨by kernel_rfl, fun w hSw => ?_⟩) hHeld ?_
    · (try dsimp only at hSw); go_simp
    try simp only [Act.put, List.getElem_toArray, List.getElem_cons_succ, List.getElem_cons_zero, List.setIfInBounds_toArray, List.set_cons_zero, List.set_cons_succ]
    refine wpAnyH_take (i := 16) (oi := _) (v := .bool false) rfl (by kernel_rfl) (by kernel_rfl) (by kernel_rfl) (fun _ _ _ h => h) (Or.inl ⟨by kernel_rfl, fun w hSw => ?_⟩) hHeld ?_
    · (try dsimp only at hSw); go_simp
    try simp only [Act.put, List.getElem_toArray, List.getElem_cons_succ, List.getElem_cons_zero, List.setIfInBounds_toArray, List.set_cons_zero, List.set_cons_succ]
    refine wpAnyH_take (i := 17) (oi := _) (v := .bool false) rfl (by kernel_rfl) (by kernel_rfl) (by kernel_rfl) (fun _ _ _ h => h) (Or.inl ⟨by kernel_rfl, fun w hSw => ?_⟩) hHeld ?_
    · (try dsimp only at hSw); go_simp
    try simp only [Act.put, List.getElem_toArray, List.getElem_cons_succ, List.getElem_cons_zero, List.setIfInBounds_toArray, List.set_cons_zero, List.set_cons_succ]
    refine wpAnyH_take (i := 18) (oi := _) (v := .pointer (some ⟨b9, 0, none⟩)) rfl (by kernel_rfl) (by kernel_rfl) (by kernel_rfl) (fun _ _ _ h => h) (Or.inl ⟨by kernel_rfl, fun w hSw => ?_⟩) hHeld ?_
    · (try dsimp only at hSw); go_simp
    try simp only [Act.put, List.getElem_toArray, List.getElem_cons_succ, List.getElem_cons_zero, List.setIfInBounds_toArray, List.set_cons_zero, List.set_cons_succ]
    refine wpAnyH_take (i := 20) (oi := _) (v := .pointer (some ⟨R, 0, none⟩)) rfl (by kernel_rfl) (by kernel_rfl) (by kernel_rfl) (fun _ _ _ h => h) (Or.inl ⟨by kernel_rfl, fun w hSw => ?_⟩) hHeld ?_
    · (try dsimp only at hSw); go_simp
    try simp only [Act.put, List.getElem_toArray, List.getElem_cons_succ, List.getElem_cons_zero, List.setIfInBounds_toArray, List.set_cons_zero, List.set_cons_succ]
    refine wpAnyH_ready (rs := [19]) (by kernel_rfl) (by simp) ?_
    refine AllReadyH.cons (o := _) rfl (fun K hK => ?_) AllReadyH.nil
    go_simp
    go_at_call 16
    refine (k_bnames (HT9.out.other hHeld) HI9.out (by omega)).mono ?_
    rintro e13 w13 ⟨v13, rfl, hS13, hb13⟩
    have HS13 := Lib.hid hS13
    have HB13 := Lib.hid (hHeld.trans (hb13.mono hHeld.size))
    clear hS13
    refine hK.out _ _ HB13.out (fun hHeld2 => ?_)
    clear hb13
    clear hK K hHeld
    have hHeld := hHeld2
    clear hHeld2
    try simp only [Act.put, List.getElem_toArray, List.getElem_cons_succ, List.getElem_cons_zero, List.setIfInBounds_toArray, List.set_cons_zero, List.set_cons_succ]
    refine wpAnyH_ready (rs := [21]) (by kernel_rfl) (by simp) ?_
    refine AllReadyH.cons (o := _) rfl (fun K hK => ?_) AllReadyH.nil
    go_simp
    go_at_call 17
    refine (k_names (HT9.out.other hHeld) HI9.out (by omega)).mono ?_
    rintro e14 w14 ⟨v14, rfl, hS14, hb14⟩
    have HS14 := Lib.hid hS14
    have HSB := Lib.hid (HS13.out.below hb14 (Nat.le_refl _))
    refine hK.out _ _ (hHeld.trans (hb14.mono hHeld.size)) (fun hHeld2 => ?_)
    clear hb14 hS14 HS13
    clear hK K hHeld
    have hHeld := hHeld2
    clear hHeld2
    try simp only [Act.put, List.getElem_toArray, List.getElem_cons_succ, List.getElem_cons_zero, List.setIfInBounds_toArray, List.set_cons_zero, List.set_cons_succ]
    refine wpAnyH_ready (rs := [22]) (by kernel_rfl) (by simp) ?_
    refine AllReadyH.cons (o := _) rfl (fun K hK => ?_) AllReadyH.nil
    go_simp
    go_at_call 15
    refine (sameTexts_calls _ _ _ _ HSB.out HS14.out).mono ?_
    rintro e15 w15 ⟨rfl, hb15⟩
    refine hK.out _ _ (hHeld.trans (hb15.mono hHeld.size)) (fun hHeld2 => ?_)
    clear hb15 HSB HS14
    clear hK K hHeld
    have hHeld := hHeld2
    clear hHeld2
    try simp only [Act.put, List.getElem_toArray, List.getElem_cons_succ, List.getElem_cons_zero, List.setIfInBounds_toArray, List.set_cons_zero, List.set_cons_succ]
    refine wpAnyH_take (i := 23) (oi := _) (v := .bool false) rfl (by kernel_rfl) (by kernel_rfl) (by kernel_rfl) (fun _ _ _ h => h) (Or.inl ⟨by kernel_rfl, fun w hSw => ?_⟩) hHeld ?_
    · (try dsimp only at hSw); go_simp
    try simp only [Act.put, List.getElem_toArray, List.getElem_cons_succ, List.getElem_cons_zero, List.setIfInBounds_toArray, List.set_cons_zero, List.set_cons_succ]
    refine wpAnyH_take (i := 24) (oi := _) (v := .bool false) rfl (by kernel_rfl) (by kernel_rfl) (by kernel_rfl) (fun _ _ _ h => h) (Or.inl ⟨by kernel_rfl, fun w hSw => ?_⟩) hHeld ?_
    · (try dsimp only at hSw); go_simp
    try simp only [Act.put, List.getElem_toArray, List.getElem_cons_succ, List.getElem_cons_zero, List.setIfInBounds_toArray, List.set_cons_zero, List.set_cons_succ]
    refine wpAnyH_done (by kernel_rfl) ?_ _
    have HBE := Lib.hid hHeld
    clear hHeld
    go_wp2_with fail
    go_roundg (n - (i + 1))
    case rel => exact ⟨i + 1, b9, s9, r9, rfl, by go_num, by omega, rfl, (HT9.out.other HBE.out).less, HI9.out, HB9.out.trans (HBE.out.mono hA9)⟩
    case measure => have := Hk.out; omega
end Go.Proofs.YtodmnogoacghpaaGreatDoor
