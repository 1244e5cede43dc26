/- A book: Open. · strings.Builder's WriteString and String, laid by hand (the shelf's tool passes WriteString over: two types that its own text does not name). -/
import Derived.Test.YtodmnogoacghpaaGreatDoorM28
import Derived.Test.YtodmnogoacghpaaGreatDoorM02
import Derived.Shelf.Strings.BuilderK
import Derived.Shelf.Strings.BuilderF
import Derived.Test.YtodmnogoacghpaaGreatDoorM01
namespace Go.Proofs.YtodmnogoacghpaaGreatDoor
open Go.RowKit
set_option maxRecDepth 100000
set_option maxHeartbeats 4000000

theorem lineSet_len (m : FS) (n v : ByteArray) : (lineSet m n v).length ≤ m.length + 1 := by
  unfold lineSet
  split
  · exact Nat.le_trans (fdel_len _ _) (Nat.le_succ _)
  · exact fput_len _ _ _
theorem readP_len : ∀ (ps : List (List UInt8)) (m : FS), (readP m ps).length ≤ m.length + ps.length
  | [], _ => Nat.le_refl _
  | p :: ps, m => by
    unfold readP
    cases parseL p with
    | none => exact Nat.le_add_right _ _
    | some x =>
      have h1 := readP_len ps (lineSet m x.1 x.2)
      have h2 := lineSet_len m x.1 x.2
      simp only [List.length_cons]
      omega
theorem splitC_len (c : UInt8) : ∀ s : List UInt8, (splitC c s).length ≤ s.length + 1
  | [] => Nat.le_refl _
  | x :: s => by
    have h := splitC_len c s
    unfold splitC
    split
    · simp; omega
    · unfold consHead
      split
      · simp
      · rename_i p ps e
        rw [e] at h
        simp at h ⊢
        omega
theorem readS_len (m : FS) (s : List UInt8) : (readS m s).length ≤ m.length + s.length := by
  have h1 := readP_len (splitC 10 s).dropLast m
  have h2 := splitC_len 10 s
  rw [List.length_dropLast] at h1
  unfold readS
  omega
/-- A book that is opened. -/
def openB (d : DiskD) : BkS := ⟨d, readS (readS [] (nowOf d.fs fPage).data.toList) (nowOf d.fs fNotes).data.toList, ofL (wholeL (nowOf d.fs fNotes).data.toList), false⟩
theorem openNil_calls (w : World) : Calls Tryz.prog 5 #[.pointer none] w fun e w' => e = .returned (.tuple #[.pointer none, errV 7]) ∧ w = w' := by
  go_enter Tryz.func5, Tryz.ntmps5
  go_wp2_with fail
  go_ret2
  exact ⟨rfl, rfl⟩
theorem wholeL_len : ∀ s : List UInt8, (wholeL s).length ≤ s.length
  | [] => Nat.le_refl _
  | b :: s => by
    rw [wholeL_cons]
    split
    · have := wholeL_len s; simp; exact this
    · simp
theorem read_val (w : World) (a : Nat) (FD : List Nat) (d : DiskD) (f : ByteArray) (h : PDisk w a FD d) (hf : f.size ≤ maxLen) :
    Calls Tryz.prog 24 #[.pointer (some ⟨a, 0, none⟩), .string f] w fun e w' => (∃ v, e = .returned (.tuple #[.string (nowOf d.fs f), v])) ∧ w = w' := by
  refine (read_calls w a FD d f h hf).mono ?_
  rintro e w' ⟨rfl, rfl⟩
  refine ⟨?_, rfl⟩
  unfold nowOf nowG
  cases fget d.fs f with
  | none => exact ⟨_, rfl⟩
  | some x => exact ⟨_, rfl⟩
def OpenR (w : World) (FD : List Nat) (a : Nat) (d : DiskD) (e : Ending) (w' : World) : Prop :=
  e = .returned (.tuple #[.pointer (some ⟨w.heap.size + 1, 0, none⟩), .nilIface]) ∧ Below w.heap.size w w' ∧ BkW w' ((w.heap.size + 1) :: w.heap.size :: FD) a (w.heap.size + 1) (openB d)
theorem open_calls (w : World) (FD : List Nat) (a : Nat) (d : DiskD) (hP : PDisk w a FD d) (hm : MaxV w) (hg : GoodD 1000 30000 d) :
    Calls Tryz.prog 5 #[.pointer (some ⟨a, 0, none⟩)] w (OpenR w FD a d) := by
  have hno : ∀ f, (nowOf d.fs f).size ≤ 30000 := fun f => by
    unfold nowOf nowG
    cases e : fget d.fs f with
    | none => exact Nat.zero_le _
    | some x => exact (hg.get e).2.1
  have hplt := hP.lt
  have HP := Lib.hid hP
  have HM := Lib.hid hm
  have hgl := hm.lt
  obtain ⟨P1, hP1⟩ : ∃ P1, nowOf d.fs fPage = P1 := ⟨_, rfl⟩
  obtain ⟨N1, hN1⟩ : ∃ N1, nowOf d.fs fNotes = N1 := ⟨_, rfl⟩
  have hp1 : P1.size ≤ 30000 := by rw [← hP1]; exact hno _
  have hn1 : N1.size ≤ 30000 := by rw [← hN1]; exact hno _
  have HOB : Hid (openB d = ⟨d, readS (readS [] P1.data.toList) N1.data.toList, ofL (wholeL N1.data.toList), false⟩) := by show _ = _; unfold openB; rw [hP1, hN1]
  have R1 : Hid (∀ W, (∀ k ∈ FD, W.heap[k]? = w.heap[k]?) → Calls Tryz.prog 24 #[.pointer (some ⟨a, 0, none⟩), .string ⟨#[98, 111, 111, 107, 47, 112, 97, 103, 101]⟩] W fun e w' => (∃ v, e = .returned (.tuple #[.string P1, v])) ∧ W = w') := fun W hk => by
    have := read_val W a FD d fPage (hP.keep hk) (by unfold maxLen; decide)
    rw [hP1] at this
    exact this
  have R2 : Hid (∀ W, (∀ k ∈ FD, W.heap[k]? = w.heap[k]?) → Calls Tryz.prog 24 #[.pointer (some ⟨a, 0, none⟩), .string ⟨#[98, 111, 111, 107, 47, 110, 111, 116, 101, 115]⟩] W fun e w' => (∃ v, e = .returned (.tuple #[.string N1, v])) ∧ W = w') := fun W hk => by
    have := read_val W a FD d fNotes (hP.keep hk) (by unfold maxLen; decide)
    rw [hN1] at this
    exact this
  have Hplt := Lib.hid hplt
  have hsz : (ofL (wholeL N1.data.toList)).size ≤ 30000 := by
    rw [ofL_size]
    exact Nat.le_trans (wholeL_len _) hn1
  have hl1 : (readS [] P1.data.toList).length ≤ 30000 := by
    have h1 := readS_len [] P1.data.toList
    have h2 : P1.data.toList.length = P1.size := rfl
    simp only [List.length_nil] at h1
    omega
  clear hno hP1 hN1 hP hplt hm hg
  have hmm := @run_makeMap Tryz.prog
  obtain ⟨w1, hw1⟩ : ∃ w1 : World, w1 = (w.alloc (.map #[] 0)).alloc (.cells #[.pointer (some ⟨a, 0, none⟩), .map (some w.heap.size), .string ⟨#[]⟩, .bool false] 64) := ⟨_, rfl⟩
  obtain ⟨bl, hbl⟩ : ∃ bl, w.heap.size = bl := ⟨_, rfl⟩
  have hz1 : w1.heap.size = bl + 2 := by rw [hw1, ← hbl]; simp
  have hA1 : BkAt w1 a (bl + 1) bl [] ⟨#[]⟩ false := by
    refine ⟨?_, ?_, List.nodup_nil, by omega⟩
    · rw [hw1, ← hbl]
      have := heap_alloc_new (w.alloc (.map #[] 0)) (.cells #[.pointer (some ⟨a, 0, none⟩), .map (some w.heap.size), .string ⟨#[]⟩, .bool false] 64)
      simpa using this
    · have h := MapV.made w Tryz.prog 9
      rw [hw1, ← hbl]
      exact h.keep (Below.heap_alloc _ _ _ (by simp))
  have HA1 := Lib.hid hA1
  have HB1 : Hid (Below bl w w1) := by rw [hw1]; exact ((Below.refl _ _).alloc (by omega) _).alloc (by simp; omega) _
  have HK : Hid (∀ W, Below bl w W → ∀ k ∈ FD, W.heap[k]? = w.heap[k]?) := fun W hb k hk => hb.block k (by have := Hplt.out k hk; omega)
  have HMV : Hid (∀ W, Below bl w W → MaxV W) := fun W hb => HM.out.below (by rw [hbl]; exact hb)
  obtain ⟨c0, c1, c2, c3⟩ := hA1.cell
  have hlt1 := hA1.lt
  have Hw1 := Lib.hid hw1
  have Hbl := Lib.hid hbl
  have hgl2 : 1 < bl := by omega
  clear hw1 hbl hA1
  go_enter Tryz.func5, Tryz.ntmps5
  go_wp2_with fail
  clear hmm
  rw [← Hw1.out]
  go_wp2_with fail
  rw [Hbl.out]
  refine (R1.out _ (HK.out _ HB1.out)).mono ?_
  rintro e1 w2 ⟨⟨v1, rfl⟩, rfl⟩
  have RA := Lib.hid (readAt_calls w1 a (bl + 1) bl [] P1 ⟨#[]⟩ false HA1.out hgl2 (HMV.out _ HB1.out) (by omega) (by simp))
  clear R1
  go_wp2_with fail
  refine RA.out.mono ?_
  rintro e3 w3 ⟨rfl, hA3, hT3⟩
  have HA3 := Lib.hid hA3
  have HB3 : Hid (Below bl w w3) := HB1.out.trans (hT3.below (fun k hk => by rw [List.mem_singleton.1 hk]; exact Nat.le_refl _) (by omega))
  clear hA3 hT3 RA c0 c1 c2 c3
  go_wp2_with fail
  refine (R2.out _ (HK.out _ HB3.out)).mono ?_
  rintro e4 w4 ⟨⟨v4, rfl⟩, rfl⟩
  clear R2
  have WH := Lib.hid (whole_calls N1 w3 (by omega))
  go_wp2_with fail
  refine WH.out.mono ?_
  rintro e5 w5 ⟨rfl, rfl⟩
  obtain ⟨t5, ht5⟩ : ∃ t, ofL (wholeL N1.data.toList) = t := ⟨_, rfl⟩
  rw [ht5] at HOB hsz ⊢
  obtain ⟨d0, d1, d2, d3⟩ := HA3.out.cell
  have hfz := HA3.out.free 2
  have hlt3 := HA3.out.lt
  have Ht5 := Lib.hid ht5
  have hA6 : BkAt (w3.setCell ⟨bl + 1, 2, none⟩ (.string t5)) a (bl + 1) bl (readS [] P1.data.toList) t5 false := by
    refine ⟨?_, HA3.out.map.cell (by show bl ≠ bl + 1; omega) _, HA3.out.nodup, HA3.out.ne⟩
    rw [heapSet_same w3 (bl + 1) 2 _ HA3.out.blk]
    rfl
  have hB6 : Below bl w (w3.setCell ⟨bl + 1, 2, none⟩ (.string t5)) := HB3.out.setCell (by show bl ≤ bl + 1; omega) _
  obtain ⟨w6, hw6⟩ : ∃ w6 : World, w3.setCell ⟨bl + 1, 2, none⟩ (.string t5) = w6 := ⟨_, rfl⟩
  rw [hw6] at hA6 hB6
  have Hw6 := Lib.hid hw6
  have HA6 := Lib.hid hA6
  have HB6 := Lib.hid hB6
  obtain ⟨c0, c1, c2, c3⟩ := hA6.cell
  have RB := Lib.hid (readAt_calls w6 a (bl + 1) bl (readS [] P1.data.toList) t5 t5 false hA6 hgl2 (HMV.out _ hB6) (by omega) (by omega))
  have hlt6 := hA6.lt
  clear ht5 hw6 hA6 hB6 WH
  go_wp2_with fail
  rw [Hw6.out]
  go_wp2_with fail
  refine RB.out.mono ?_
  rintro e7 w7 ⟨rfl, hA7, hT7⟩
  have HA7 := Lib.hid hA7
  have HB7 : Hid (Below bl w w7) := HB6.out.trans (hT7.below (fun k hk => by rw [List.mem_singleton.1 hk]; exact Nat.le_refl _) (by omega))
  clear hA7 hT7 RB c0 c1 c2 c3
  go_wp2_with fail
  go_ret2
  have hfd : ∀ k, bl ≤ k → k ∉ FD := fun k hk hf => by have := Hplt.out k hf; have := Hbl.out; omega
  refine ⟨by rw [Hbl.out]; rfl, by rw [Hbl.out]; exact HB7.out, ?_⟩
  rw [Hbl.out, HOB.out]
  refine ⟨FD, bl, HP.out.keep (HK.out _ HB7.out), ?_, rfl, hfd _ (by omega), hfd _ (Nat.le_refl _)⟩
  have h := HA7.out
  rw [← Ht5.out, show (ofL (wholeL N1.data.toList)).data.toList = wholeL N1.data.toList from rfl, readS_whole, Ht5.out] at h
  exact h
end Go.Proofs.YtodmnogoacghpaaGreatDoor
namespace Go.Proofs.YtodmnogoacghpaaGreatDoor
open Go.RowKit Go.Shelf
set_option maxRecDepth 100000

def bW : Go.Shelf.Ren := ⟨fun | 166 => 33 | 240 => 47 | 276 => 62 | 169 => 34 | n => n, fun | 0 => 0 | 3 => 3 | 4 => 4 | 5 => 5 | 9 => 9 | 20 => 20 | 37 => 76 | 70 => 75 | 72 => 78 | 75 => 29 | 80 => 81 | 127 => 98 | 164 => 100 | n => n, fun | n => n⟩
theorem bW166 : Lays.n166 Tryz.prog bW := {
  mixed := by kernel_rfl
  f166 := Tryz.func33.trans (congrArg some (by kernel_rfl))
  f240 := Tryz.func47.trans (congrArg some (by kernel_rfl))
  f276 := Tryz.func62.trans (congrArg some (by kernel_rfl))
  t0 := Tryz.underlying0
  a0 := Tryz.isAgg0
  z0 := Tryz.sizeOf0
  v0 := Tryz.zeroValue0
  t3 := Tryz.underlying3
  a3 := Tryz.isAgg3
  z3 := Tryz.sizeOf3
  v3 := Tryz.zeroValue3
  t4 := Tryz.underlying4
  a4 := Tryz.isAgg4
  z4 := Tryz.sizeOf4
  v4 := Tryz.zeroValue4
  t9 := Tryz.underlying9
  a9 := Tryz.isAgg9
  z9 := Tryz.sizeOf9
  v9 := Tryz.zeroValue9
  t20 := by kernel_rfl
  a20 := fun w => by kernel_rfl
  z20 := fun w => by kernel_rfl
  v20 := fun w => by kernel_rfl
  t37 := Tryz.underlying76
  a37 := Tryz.isAgg76
  z37 := Tryz.sizeOf76
  v37 := Tryz.zeroValue76
  t70 := Tryz.underlying75
  a70 := Tryz.isAgg75
  z70 := Tryz.sizeOf75
  v70 := Tryz.zeroValue75
  t72 := Tryz.underlying78
  a72 := Tryz.isAgg78
  z72 := Tryz.sizeOf78
  v72 := Tryz.zeroValue78
  t75 := Tryz.underlying29
  a75 := Tryz.isAgg29
  z75 := Tryz.sizeOf29
  v75 := Tryz.zeroValue29
  t164 := by kernel_rfl
  a164 := fun w => by kernel_rfl
  z164 := fun w => by kernel_rfl
  v164 := fun w => by kernel_rfl }
theorem bWX : Builder.Extra Tryz.prog bW := {
  sizeBuilder := by kernel_rfl
  liesBuilder := by kernel_rfl
  t5 := Tryz.underlying5
  a5 := Tryz.isAgg5
  z5 := Tryz.sizeOf5
  v5 := Tryz.zeroValue5
  infoByte := by kernel_rfl
  cellsByte := by kernel_rfl
  sizeByte := by kernel_rfl
  neB5 := by decide }
/-- A builder in block b that has the bytes l so far. -/
def Bld (B b : Nat) (l : List UInt8) (w : World) : Prop := Lib.IsBuilderF 78 5 B b (Lib.byteCells l) w
/-- Every block but the builder's and rows of bytes is as it was. -/
def Kept (b : Nat) (w w' : World) : Prop := Lib.OthersKept 5 (some b) w w'
theorem bld_write (B b : Nat) (l : List UInt8) (s : ByteArray) (w : World) (h : Bld B b l w) (hl : l.length + s.size ≤ 1000000000) (hB : B ≤ w.heap.size) :
    Calls Tryz.prog 33 #[.pointer (some ⟨b, 0, none⟩), .string s] w fun e w' => e = .returned (.tuple #[.int .i64 s.size, .nilIface]) ∧ Bld B b (l ++ s.data.toList) w' ∧ Below B w w' ∧ Kept b w w' := by
  refine (Any.Builder_WriteString_k bW166 bWX B b (Lib.byteCells l) s w h (by rw [Lib.byteCells_length]; omega) hB).mono ?_
  rintro e w' ⟨rfl, h1, h2, h3⟩
  refine ⟨rfl, ?_, h2, h3⟩
  have : Lib.byteCells l ++ Lib.strCells s = Lib.byteCells (l ++ s.data.toList) := by rw [Lib.strCells_eq]; simp [Lib.byteCells]
  rw [this] at h1
  exact Or.inr h1
theorem bld_string (B b : Nat) (l : List UInt8) (w : World) (h : Bld B b l w) (hB : B ≤ w.heap.size) :
    Calls Tryz.prog 34 #[.pointer (some ⟨b, 0, none⟩)] w fun e w' => e = .returned (.string ⟨l.toArray⟩) ∧ Below B w w' ∧ Kept b w w' := by
  refine (Tryz.Builder_String_any_k B b l w h hB).mono ?_
  rintro e w' ⟨rfl, h1⟩
  exact ⟨rfl, h1.2.1, h1.2.2⟩
theorem bld_new (w : World) (T : World) (hT : T.heap[w.heap.size]? = some (.cells #[.pointer none, .slice none 0 0] 78)) : Bld w.heap.size w.heap.size [] T :=
  Or.inl ⟨Nat.le_refl _, _, hT, World.ownsRowF_nil _ _ _ _, by simp [Value.ownBlock]⟩
end Go.Proofs.YtodmnogoacghpaaGreatDoor
