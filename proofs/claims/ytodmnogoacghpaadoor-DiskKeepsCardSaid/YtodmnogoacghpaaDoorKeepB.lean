/- DiskKeeps: all, safe. -/
import Derived.Test.YtodmnogoacghpaaDoorKeepA
namespace Go.Proofs.YtodmnogoacghpaaDoor
open Go.RowKit
set_option maxRecDepth 100000
set_option maxHeartbeats 4000000

section
variable {w : World} {B : Nat} {X : List Nat} {a : Nat} {d : DiskD}
theorem one_writeF {f s : ByteArray} (hB : B ≤ w.heap.size) (h : One w B X a d) (hg : GoodD 1000 30000 d) (hF : FreeD d) (hn : nameB f = true) (hs : s.size ≤ 30000) :
    Calls Tryd.prog 7 #[.pointer (some ⟨a, 0, none⟩), .string f, .string s] w fun e w' => e = .returned .nilIface ∧ One w' B X a { d with fs := fput d.fs f ⟨s, safeG d.fs f⟩ } ∧ KeptX B X w w' := by
  have hz := nameB_le hn
  have hl := hg.len
  refine (one_write w B X a d f s hB h hg (by omega) hs).mono ?_
  rw [write_free hF (by omega) hn]
  rintro e w' ⟨rfl, h1, h2⟩
  exact ⟨rfl, h1, h2⟩
theorem one_syncF {f : ByteArray} {x : FileD} (hB : B ≤ w.heap.size) (h : One w B X a d) (hg : GoodD 1000 30000 d) (hF : FreeD d) (hx : fget d.fs f = some x) :
    Calls Tryd.prog 9 #[.pointer (some ⟨a, 0, none⟩), .string f] w fun e w' => e = .returned .nilIface ∧ One w' B X a { d with fs := fput d.fs f ⟨x.now, some x.now⟩ } ∧ KeptX B X w w' := by
  have hz := (hg.get hx).1
  refine (one_sync w B X a d f hB h hg (by omega)).mono ?_
  rw [sync_free hF hx]
  rintro e w' ⟨rfl, h1, h2⟩
  exact ⟨rfl, h1, h2⟩
end

theorem all_calls (w : World) (B : Nat) (X : List Nat) (a : Nat) (d : DiskD) (h : One w B X a d) (hg : GoodD 1000 30000 d) :
    Calls Tryd.prog 24 #[.pointer (some ⟨a, 0, none⟩)] w fun e w' => e = .returned (.string (allS d.fs)) ∧ Below w.heap.size w w' := by
  have HO := Lib.hid h
  have LI := Lib.hid (one_list h hg (by decide))
  have HG := Lib.hid hg
  obtain ⟨S, hS⟩ : ∃ S, allS d.fs = S := ⟨_, rfl⟩
  rw [hS]
  obtain ⟨ks, hks⟩ : ∃ ks, sortB (d.fs.map (·.1)) = ks := ⟨_, rfl⟩
  rw [hks] at LI
  have HS : Hid (allK d.fs ks = S) := by show _ = _; rw [← hks]; exact hS
  have Hks := Lib.hid hks
  have hkl : ks.length ≤ 1000 := by rw [← hks, sortB_len, List.length_map]; exact hg.len
  clear h hg hS hks
  go_enter Tryd.func24, Tryd.ntmps24
  go_wp2_with fail
  refine LI.out.mono ?_
  rintro e1 w1 ⟨v, rfl, hS1, hb1⟩
  obtain ⟨an, cn, rfl, hcn, hmn, hcelln⟩ := hS1.1
  have HO1 := Lib.hid (HO.out.other hb1)
  have HB1 := Lib.hid hb1
  obtain ⟨m, hm⟩ : ∃ m, ks.length = m := ⟨_, rfl⟩
  rw [hm] at hcn hcelln hkl ⊢
  have Hcn := Lib.hid hcelln
  have Hm := Lib.hid hm
  unfold maxLen at hmn
  clear hS1 hb1 hcelln hm LI HO
  go_wp2_with fail
  try go_frame
  go_loopg [3, 5] m (fun k v3 v5 wr => ∃ j : Nat, v3 = .string (allK d.fs (ks.take j)) ∧ v5 = .int .i64 ((j : Nat) : Int) ∧ j ≤ m ∧ k = m - j ∧ Below w1.heap.size w1 wr)
  case atStart => exact ⟨0, rfl, rfl, Nat.zero_le _, rfl, Below.refl _ _⟩
  case round =>
    obtain ⟨j, rfl, rfl, hj, hk, hBr⟩ := hrel
    have Hk := Lib.hid hk
    have HBr := Lib.hid hBr
    clear hk hBr
    obtain ⟨acc, hacc⟩ : ∃ acc, allK d.fs (ks.take j) = acc := ⟨_, rfl⟩
    rw [hacc]
    have Hacc := Lib.hid hacc
    clear hacc
    by_cases hlt : j < m
    · obtain ⟨bn, on, rfl, hbn, hcn'⟩ := Hcn.out.resolve_left (by omega)
      obtain ⟨z, hz⟩ : ∃ z, ks.getD j ⟨#[]⟩ = z := ⟨_, rfl⟩
      have HX : Hid (∃ x, fget d.fs z = some x) := names_some1 (j := j) (by rw [Hks.out, Hm.out]; exact hlt) (by rw [Hks.out]; exact hz)
      obtain ⟨x, hx⟩ := HX.out
      have hzs : z.size ≤ 80 := (HG.out.get hx).1
      have hxs : x.now.size ≤ 30000 := (HG.out.get hx).2.1
      have dz : wr.cell? ⟨bn, on + j, none⟩ = some (.string z) := by
        have h1 : w1.cell? ⟨bn, on + j * 1 + 0, none⟩ = some (.string (ks.getD j ⟨#[]⟩)) := hcn' j 0 hlt (by decide)
        rw [hz] at h1
        exact (HBr.out.cell (p := ⟨bn, on + j, none⟩) hbn).trans (by simpa using h1)
      have HNX : Hid (allK d.fs (ks.take (j + 1)) = acc ++ (z ++ ⟨#[61]⟩ ++ x.now ++ ⟨#[59]⟩)) := by
        have hjl : j < ks.length := by rw [Hm.out]; exact hlt
        show _ = _
        rw [List.take_succ_eq_append_getElem hjl, allK_snoc, Hacc.out]
        have e : ks[j] = z := by rw [← hz, List.getD_eq_getElem?_getD, List.getElem?_eq_getElem hjl]; rfl
        rw [e]
        unfold pieceS
        rw [nowOf_get hx]
      have hsz : acc.size ≤ 30082 * j := by
        rw [← Hacc.out]
        have h1 := allK_size (fs := d.fs) (ks.take j) (fun f hf => by
          have hf' : f ∈ sortB (d.fs.map (·.1)) := by rw [Hks.out]; exact List.mem_of_mem_take hf
          rw [sortB_mem, keys_mem, nowG_some] at hf'
          cases e : fget d.fs f with
          | none => rw [e] at hf'; cases hf'
          | some y => exact ⟨(HG.out.get e).1, by rw [nowOf_get e]; exact (HG.out.get e).2.1⟩)
        rw [List.length_take] at h1
        omega
      have HR := Lib.hid (one_read (HO1.out.other HBr.out) hx (by unfold maxLen; omega))
      clear hcn' hz hx HX
      go_wp2_with fail
      refine HR.out.mono ?_
      rintro e2 w2 ⟨rfl, rfl⟩
      clear HR
      go_wp2_with fail
      go_roundg (m - (j + 1))
      case rel => exact ⟨j + 1, by rw [HNX.out], by go_num, by omega, rfl, HBr.out⟩
      case measure => have := Hk.out; omega
    · have HE : Hid (acc = S) := by show _ = _; rw [← Hacc.out, List.take_of_length_le (by rw [Hm.out]; omega)]; exact HS.out
      go_wp2_with fail
      go_ret
      exact ⟨by rw [HE.out]; rfl, HB1.out.trans (HBr.out.mono HB1.out.size)⟩

def fA : ByteArray := ⟨#[97]⟩
def fB : ByteArray := ⟨#[98]⟩
def s1 : ByteArray := ⟨#[120, 121]⟩
def s2 : ByteArray := ⟨#[117, 118, 119]⟩
def s3 : ByteArray := ⟨#[122]⟩
theorem safe_calls (w : World) :
    Calls Tryd.prog 22 #[] w fun e w' => e = .returned (.bool true) ∧ Below w.heap.size w w' := by
  obtain ⟨w0, hw0⟩ : ∃ w0 : World, w0 = w.alloc (.cells #[.map none, .map none, .int .i64 0, .bool false, .int .i64 0, .bool false] 25) := ⟨_, rfl⟩
  have hz0 : w0.heap.size = w.heap.size + 1 := by rw [hw0]; simp
  have HB0 : Hid (Below w.heap.size w w0) := by rw [hw0]; exact (Below.refl _ _).alloc (Nat.le_refl _) _
  have HO0 : Hid (One w0 w.heap.size [] w.heap.size zeroD) := One.start (by rw [hw0]; exact heap_alloc_new w _) (Nat.le_refl _)
  have Hw0 := Lib.hid hw0
  have hBB : w.heap.size ≤ w0.heap.size := by omega
  obtain ⟨d1, hd1⟩ : ∃ d1 : DiskD, ({ zeroD with fs := fput zeroD.fs fA ⟨s1, safeG zeroD.fs fA⟩ } : DiskD) = d1 := ⟨_, rfl⟩
  obtain ⟨d2, hd2⟩ : ∃ d2 : DiskD, ({ d1 with fs := fput d1.fs fA ⟨s1, some s1⟩ } : DiskD) = d2 := ⟨_, rfl⟩
  obtain ⟨d3, hd3⟩ : ∃ d3 : DiskD, ({ d2 with fs := fput d2.fs fA ⟨s2, safeG d2.fs fA⟩ } : DiskD) = d3 := ⟨_, rfl⟩
  obtain ⟨d4, hd4⟩ : ∃ d4 : DiskD, ({ d3 with fs := fput d3.fs fB ⟨s3, safeG d3.fs fB⟩ } : DiskD) = d4 := ⟨_, rfl⟩
  have hF : FreeD zeroD := ⟨rfl, rfl⟩
  have hF1 : FreeD d1 := by rw [← hd1]; exact hF
  have hF2 : FreeD d2 := by rw [← hd2]; exact hF1
  have hF3 : FreeD d3 := by rw [← hd3]; exact hF2
  have hg0 : GoodD 0 200 zeroD := GoodD.zero _ _
  have hg1 : GoodD 1 200 d1 := by
    have := hg0.write (f := fA) (s := s1) (by decide)
    rw [write_free hF (by decide) (by decide)] at this
    rw [← hd1]; exact this
  have hx1 : fget d1.fs fA = some ⟨s1, none⟩ := by rw [← hd1]; rfl
  have hg2 : GoodD 1 200 d2 := by
    have := hg1.sync fA
    rw [sync_free hF1 hx1] at this
    rw [← hd2]; exact this
  have hl2 : d2.fs.length < 5000 := by have := hg2.len; omega
  have hg3 : GoodD 2 200 d3 := by
    have := hg2.write (f := fA) (s := s2) (by decide)
    rw [write_free hF2 hl2 (by decide)] at this
    rw [← hd3]; exact this
  have hl3 : d3.fs.length < 5000 := by have := hg3.len; omega
  have hg4 : GoodD 3 200 d4 := by
    have := hg3.write (f := fB) (s := s3) (by decide)
    rw [write_free hF3 hl3 (by decide)] at this
    rw [← hd4]; exact this
  have hm : ∀ {C : Nat} {d : DiskD}, C ≤ 1000 → GoodD C 200 d → GoodD 1000 30000 d := fun hC hg => hg.mono hC (by decide)
  have HW1 : Hid (∀ W, w.heap.size ≤ W.heap.size → One W w.heap.size [] w.heap.size zeroD → Calls Tryd.prog 7 #[.pointer (some ⟨w.heap.size, 0, none⟩), .string ⟨#[97]⟩, .string ⟨#[120, 121]⟩] W fun e w' => e = .returned .nilIface ∧ One w' w.heap.size [] w.heap.size d1 ∧ KeptX w.heap.size [] W w') := fun W hb h => by rw [← hd1]; exact one_writeF (f := fA) (s := s1) hb h (hm (by decide) hg0) hF (by decide) (by decide)
  have HW2 : Hid (∀ W, w.heap.size ≤ W.heap.size → One W w.heap.size [] w.heap.size d1 → Calls Tryd.prog 9 #[.pointer (some ⟨w.heap.size, 0, none⟩), .string ⟨#[97]⟩] W fun e w' => e = .returned .nilIface ∧ One w' w.heap.size [] w.heap.size d2 ∧ KeptX w.heap.size [] W w') := fun W hb h => by rw [← hd2]; exact one_syncF (f := fA) hb h (hm (by decide) hg1) hF1 hx1
  have HW3 : Hid (∀ W, w.heap.size ≤ W.heap.size → One W w.heap.size [] w.heap.size d2 → Calls Tryd.prog 7 #[.pointer (some ⟨w.heap.size, 0, none⟩), .string ⟨#[97]⟩, .string ⟨#[117, 118, 119]⟩] W fun e w' => e = .returned .nilIface ∧ One w' w.heap.size [] w.heap.size d3 ∧ KeptX w.heap.size [] W w') := fun W hb h => by rw [← hd3]; exact one_writeF (f := fA) (s := s2) hb h (hm (by decide) hg2) hF2 (by decide) (by decide)
  have HW4 : Hid (∀ W, w.heap.size ≤ W.heap.size → One W w.heap.size [] w.heap.size d3 → Calls Tryd.prog 7 #[.pointer (some ⟨w.heap.size, 0, none⟩), .string ⟨#[98]⟩, .string ⟨#[122]⟩] W fun e w' => e = .returned .nilIface ∧ One w' w.heap.size [] w.heap.size d4 ∧ KeptX w.heap.size [] W w') := fun W hb h => by rw [← hd4]; exact one_writeF (f := fB) (s := s3) hb h (hm (by decide) hg3) hF3 (by decide) (by decide)
  have HW5 : Hid (∀ W, w.heap.size ≤ W.heap.size → One W w.heap.size [] w.heap.size d4 → Calls Tryd.prog 15 #[.pointer (some ⟨w.heap.size, 0, none⟩), .int .i64 0] W fun e w' => e = .returned (.tuple #[]) ∧ One w' w.heap.size [] w.heap.size (startD d4 0) ∧ KeptX w.heap.size [] W w') := fun W hb h => one_start W _ [] _ d4 0 hb h (hm (by decide) hg4)
  have hfs : (startD d4 0).fs = [(fA, ⟨s1, some s1⟩)] := by rw [← hd4, ← hd3, ← hd2, ← hd1]; rfl
  have HRD : Hid (∀ W, One W w.heap.size [] w.heap.size (startD d4 0) → Calls Tryd.prog 21 #[.pointer (some ⟨w.heap.size, 0, none⟩), .string ⟨#[97]⟩] W fun e w' => e = .returned (.tuple #[.string ⟨#[120, 121]⟩, .nilIface]) ∧ W = w') := fun W h => one_read (x := ⟨s1, some s1⟩) (f := fA) h (by rw [hfs]; rfl) (by unfold maxLen; decide)
  have HLI : Hid (∀ W, One W w.heap.size [] w.heap.size (startD d4 0) → Calls Tryd.prog 19 #[.pointer (some ⟨w.heap.size, 0, none⟩)] W fun e w' => ∃ v, e = .returned v ∧ Strs w' v (sortB ((startD d4 0).fs.map (·.1))) ∧ Below W.heap.size W w') := fun W h => one_list h (hg4.start 0) (by decide)
  have HLL : Hid ((sortB ((startD d4 0).fs.map (·.1))).length = 1) := by show _ = _; rw [sortB_len, hfs]; rfl
  clear hd1 hd2 hd3 hd4 hF hF1 hF2 hF3 hg0 hg1 hg2 hg3 hg4 hl2 hl3 hm hx1 hfs hw0 hz0
  go_enter Tryd.func22, Tryd.ntmps22
  go_wp2_with fail
  rw [← Hw0.out]
  go_wp2_with fail
  refine (HW1.out _ hBB HO0.out).mono ?_
  rintro e1 w1 ⟨rfl, hO1, hK1⟩
  have HO1 := Lib.hid hO1
  have HK1 := Lib.hid hK1
  have hB1 := Nat.le_trans hBB hK1.1.size
  clear hO1 hK1
  go_wp2_with fail
  refine (HW2.out _ hB1 HO1.out).mono ?_
  rintro e2 w2 ⟨rfl, hO2, hK2⟩
  have HO2 := Lib.hid hO2
  have HK2 := Lib.hid hK2
  have hB2 := Nat.le_trans hB1 hK2.1.size
  clear hO2 hK2
  go_wp2_with fail
  refine (HW3.out _ hB2 HO2.out).mono ?_
  rintro e3 w3 ⟨rfl, hO3, hK3⟩
  have HO3 := Lib.hid hO3
  have HK3 := Lib.hid hK3
  have hB3 := Nat.le_trans hB2 hK3.1.size
  clear hO3 hK3
  go_wp2_with fail
  refine (HW4.out _ hB3 HO3.out).mono ?_
  rintro e4 w4 ⟨rfl, hO4, hK4⟩
  have HO4 := Lib.hid hO4
  have HK4 := Lib.hid hK4
  have hB4 := Nat.le_trans hB3 hK4.1.size
  clear hO4 hK4
  go_wp2_with fail
  refine (HW5.out _ hB4 HO4.out).mono ?_
  rintro e5 w5 ⟨rfl, hO5, hK5⟩
  have HO5 := Lib.hid hO5
  have HK5 := Lib.hid hK5
  clear hO5 hK5
  go_wp2_with fail
  refine (HRD.out _ HO5.out).mono ?_
  rintro e6 w6 ⟨rfl, rfl⟩
  go_wp2_with fail
  refine (HLI.out _ HO5.out).mono ?_
  rintro e7 w7 ⟨v, rfl, hS7, hb7⟩
  obtain ⟨an, cn, rfl, hcn, hmn, -⟩ := hS7.1
  have HB7 := Lib.hid hb7
  rw [HLL.out] at hcn ⊢
  clear hS7 hb7
  go_wp2_with fail
  go_ret
  exact ⟨rfl, ((((HB0.out.trans HK1.out.1).trans HK2.out.1).trans HK3.out.1).trans HK4.out.1).trans (HK5.out.1.trans (HB7.out.mono (Nat.le_trans hB4 HK5.out.1.size)))⟩
end Go.Proofs.YtodmnogoacghpaaDoor
