/- Keep's noted: what is written stays. -/
import Derived.Test.YtodmnogoacghpaaGreatDoorM34
namespace Go.Proofs.YtodmnogoacghpaaGreatDoor
open Go.RowKit
set_option maxRecDepth 100000
set_option maxHeartbeats 4000000

theorem bk_start {w : World} {F : List Nat} {a bb : Nat} {s : BkS} (h : BkW w F a bb s) (hg : GoodD 1000 30000 s.d) (n : Int) :
    Calls Tryz.prog 23 #[.pointer (some ⟨a, 0, none⟩), .int .i64 n] w fun e w' => e = .returned (.tuple #[]) ∧ BkN w F a bb ⟨startD s.d n, s.m, s.t, s.dn⟩ w' := by
  have h' : BkF w F a bb s.d s.m s.t s.dn := h
  obtain ⟨FD, bl, hP, hA, rfl, h1, h2⟩ := h'
  have hl : s.d.fs.length < 1000000 := by have := hg.len; omega
  refine (start_calls w a FD s.d n hP hg.nodup hl (fun f x hx => ⟨by have := (hg.get hx).2.1; omega, fun s hs => by have := (hg.get hx).2.2 s hs; omega⟩)).mono ?_
  rintro e w' ⟨rfl, hs⟩
  exact ⟨rfl, BkF.disk hA h1 h2 hs⟩
theorem bk_cut {w : World} {F : List Nat} {a bb : Nat} {s : BkS} (h : BkW w F a bb s) (n : Int) (hn : -9223372036854775808 ≤ n ∧ n ≤ 9223372036854775807) :
    Calls Tryz.prog 20 #[.pointer (some ⟨a, 0, none⟩), .int .i64 n] w fun e w' => e = .returned (.tuple #[]) ∧ BkN w F a bb ⟨cutD s.d n, s.m, s.t, s.dn⟩ w' := by
  have h' : BkF w F a bb s.d s.m s.t s.dn := h
  obtain ⟨FD, bl, hP, hA, rfl, h1, h2⟩ := h'
  refine (cut_calls w a FD s.d n hP hn).mono ?_
  rintro e w' ⟨rfl, hs⟩
  exact ⟨rfl, BkF.disk hA h1 h2 hs⟩
def nA : ByteArray := ⟨#[97]⟩
def vXY : ByteArray := ⟨#[120, 32, 121]⟩
theorem noted_set : (setB (openB zeroD) nA vXY).1 = 0 ∧ (setB (openB zeroD) nA vXY).2.d = ⟨[(fNotes, ⟨⟨#[97, 9, 120, 32, 121, 10]⟩, some ⟨#[97, 9, 120, 32, 121, 10]⟩⟩)], -1, -1⟩ := ⟨by kernel_rfl, by kernel_rfl⟩
theorem noted_start : startD ⟨[(fNotes, ⟨⟨#[97, 9, 120, 32, 121, 10]⟩, some ⟨#[97, 9, 120, 32, 121, 10]⟩⟩)], -1, -1⟩ 0 = ⟨[(fNotes, ⟨⟨#[97, 9, 120, 32, 121, 10]⟩, some ⟨#[97, 9, 120, 32, 121, 10]⟩⟩)], -1, -1⟩ := by kernel_rfl
theorem noted_open : (openB ⟨[(fNotes, ⟨⟨#[97, 9, 120, 32, 121, 10]⟩, some ⟨#[97, 9, 120, 32, 121, 10]⟩⟩)], -1, -1⟩).m = [(nA, ⟨vXY, none⟩)] := by kernel_rfl
theorem noted_calls (w : World) (hm : MaxV w) : Calls Tryz.prog 18 #[] w fun e w' => e = .returned (.bool true) ∧ Below w.heap.size w w' := by
  have hgl := hm.lt
  have Hm := Lib.hid hm
  obtain ⟨A, hAe⟩ : ∃ A, w.heap.size = A := ⟨_, rfl⟩
  obtain ⟨w0, hw0⟩ : ∃ w0 : World, w0 = w.alloc (.cells #[.map none, .map none, .int .i64 0, .bool false, .int .i64 0, .bool false] 26) := ⟨_, rfl⟩
  have hz0 : w0.heap.size = A + 1 := by rw [hw0]; simp [hAe]
  have HB0 : Hid (Below A w w0) := by rw [hw0]; exact (Below.refl _ _).alloc (by omega) _
  have hP0 : PDisk w0 A [A] zeroD := ⟨_, _, 0, 0, ⟨by rw [hw0, ← hAe]; exact heap_alloc_new w _, (fun h => absurd h (by decide)), (fun h => absurd h (by decide))⟩, Or.inl ⟨rfl, rfl, rfl, rfl⟩⟩
  have hm0 : MaxV w0 := Hm.out.below (by rw [hAe]; exact HB0.out)
  have OP := Lib.hid (open_calls w0 [A] A zeroD hP0 hm0 (GoodD.zero _ _))
  have Hw0 := Lib.hid hw0
  have HAe := Lib.hid hAe
  have HMV : Hid (∀ W, Below A w W → MaxV W) := fun W hb => Hm.out.below (by rw [HAe.out]; exact hb)
  rw [hAe] at hgl
  clear hw0 hP0 hm0 hm
  go_enter Tryz.func18, Tryz.ntmps18
  go_wp2_with fail
  rw [← Hw0.out]
  go_wp2_with fail
  refine OP.out.mono ?_
  rintro e1 w1 ⟨rfl, hb1, hK1⟩
  rw [hz0] at hb1 hK1 ⊢
  have HB1 : Hid (Below A w w1) := HB0.out.trans (hb1.mono (by omega))
  have hz1 : A + 1 ≤ w1.heap.size := by have := hb1.size; omega
  have hin1 : ∀ k ∈ (A + 1 + 1) :: (A + 1) :: [A], A ≤ k := fun k hk => by
    simp only [List.mem_cons, List.not_mem_nil, or_false] at hk
    omega
  have hoff1 : OffG ((A + 1 + 1) :: (A + 1) :: [A]) := fun k hk => Nat.lt_of_lt_of_le hgl (hin1 k hk)
  have ST := Lib.hid (set_calls w1 _ A (A + 1 + 1) (openB zeroD) nA vXY hK1 hoff1 (HMV.out _ HB1.out) (GoodD.zero _ _) (by decide) (by decide) (by decide) (by decide))
  rw [noted_set.1, errV_zero] at ST
  have Hin1 := Lib.hid hin1
  clear hK1 hb1 OP hoff1 hin1
  go_wp2_with fail
  refine ST.out.mono ?_
  rintro e2 w2 ⟨rfl, hS2⟩
  obtain ⟨F2, hK2, hF2, hT2⟩ := hS2
  have hin2 : ∀ k ∈ F2, A ≤ k := fun k hk => (hF2 k hk).elim (Hin1.out k) (fun h => by omega)
  have HB2 : Hid (Below A w w2) := HB1.out.trans (hT2.below Hin1.out (by omega))
  have hz2 : A + 1 ≤ w2.heap.size := Nat.le_trans hz1 hT2.size
  obtain ⟨s2, hs2⟩ : ∃ s2, (setB (openB zeroD) nA vXY).2 = s2 := ⟨_, rfl⟩
  have hd2 : s2.d = ⟨[(fNotes, ⟨⟨#[97, 9, 120, 32, 121, 10]⟩, some ⟨#[97, 9, 120, 32, 121, 10]⟩⟩)], -1, -1⟩ := by rw [← hs2]; exact noted_set.2
  have hgd2 : GoodD 1000 30000 s2.d := by
    rw [hd2]
    refine ⟨by unfold NodupK; simp, by decide, fun p hp => ?_, by decide, by decide⟩
    rw [List.mem_singleton.1 hp]
    exact ⟨by decide, by decide, fun s hs => by injection hs with hs; rw [← hs]; decide⟩
  rw [hs2] at hK2
  have SR := Lib.hid (bk_start (s := s2) hK2 hgd2 0)
  have Hin2 := Lib.hid hin2
  have Hd2 := Lib.hid hd2
  have Hgd2 := Lib.hid hgd2
  clear hK2 hF2 hT2 hin2 hs2 hd2 hgd2 ST
  go_wp2_with fail
  refine SR.out.mono ?_
  rintro e3 w3 ⟨rfl, hS3⟩
  obtain ⟨F3, hK3, hF3, hT3⟩ := hS3
  have HB3 : Hid (Below A w w3) := HB2.out.trans (hT3.below Hin2.out (by omega))
  have hz3 : A + 1 ≤ w3.heap.size := Nat.le_trans hz2 hT3.size
  dsimp only at hK3
  have e3 : startD s2.d 0 = s2.d := by rw [Hd2.out]; exact noted_start
  rw [e3] at hK3
  obtain ⟨FD, bl, hP3, hA3, rfl, q1, q2⟩ := hK3
  have O2 := Lib.hid (open_calls w3 FD A s2.d hP3 (HMV.out _ HB3.out) Hgd2.out)
  clear hF3 hT3 e3 hP3 hA3 q1 q2 SR
  go_wp2_with fail
  refine O2.out.mono ?_
  rintro e4 w4 ⟨rfl, hb4, hK4⟩
  have HB4 : Hid (Below A w w4) := HB3.out.trans (hb4.mono (by omega))
  obtain ⟨bc, hbc⟩ : ∃ bc, w3.heap.size + 1 = bc := ⟨_, rfl⟩
  rw [hbc] at hK4 ⊢
  obtain ⟨F4, hF4⟩ : ∃ F4, bc :: w3.heap.size :: FD = F4 := ⟨_, rfl⟩
  rw [hF4] at hK4
  have hK4' : BkF w4 F4 A bc (openB s2.d).d (openB s2.d).m (openB s2.d).t (openB s2.d).dn := hK4
  have em : (openB s2.d).m = [(nA, ⟨vXY, none⟩)] := by rw [Hd2.out]; exact noted_open
  rw [em] at hK4'
  have GT := Lib.hid (get_calls w4 F4 A bc _ _ _ _ nA hK4' (by decide))
  have NM := Lib.hid (bnames_calls w4 F4 A bc _ _ _ _ hK4' (by decide))
  have hz4 : A + 1 ≤ w4.heap.size := Nat.le_trans hz3 hb4.size
  rw [show nowOf [(nA, ⟨vXY, none⟩)] nA = (⟨#[120, 32, 121]⟩ : ByteArray) by kernel_rfl] at GT
  clear hbc hF4 hK4 hK4' em hb4 O2
  go_wp2_with fail
  refine GT.out.mono ?_
  rintro e5 w5 ⟨rfl, rfl⟩
  go_wp2_with fail
  refine NM.out.mono ?_
  rintro e6 w6 ⟨v6, rfl, hS6, -, hb6⟩
  obtain ⟨av, cv, rfl, hcv, hmv, -⟩ := hS6.1
  have HB6 : Hid (Below A w w6) := HB4.out.trans (hb6.mono (by omega))
  have hl1 : (sortB (([(nA, ⟨vXY, none⟩)] : FS).map (·.1))).length = 1 := by rw [sortB_len]; rfl
  rw [hl1] at hcv ⊢
  clear hS6 hb6 NM hl1
  go_wp2_with fail
  go_ret
  exact ⟨rfl, by rw [HAe.out]; exact HB6.out⟩
end Go.Proofs.YtodmnogoacghpaaGreatDoor
