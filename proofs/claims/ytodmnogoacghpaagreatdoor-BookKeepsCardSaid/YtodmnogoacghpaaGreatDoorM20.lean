/- The disk's law: bare, sameTexts (at two rows of the same texts). · The document's Move, any name. -/
import Derived.Test.YtodmnogoacghpaaGreatDoorM19
import Derived.Test.YtodmnogoacghpaaGreatDoorM16
namespace Go.Proofs.YtodmnogoacghpaaGreatDoor
open Go.RowKit
set_option maxRecDepth 100000
set_option maxHeartbeats 4000000

theorem errV_is (k : Int) (w : World) : ErrV w (errV k) k (-1) := by
  by_cases h : k = 0
  · subst h; exact .nil
  · rw [errV_some h]; exact .no k
theorem drewN_belowD {B : Nat} {a w : World} (h : Below B a w) (n : Nat) : Below B a (w.drewN n) := ⟨h.os, h.tape, h.output, h.size, h.block⟩
theorem dbare_calls (k j : Int) (w : World) (hv : ErrVar w) : Calls Tryz.prog 6 #[errV k, .int .i64 j] w fun e w' => e = .returned (.bool (k == j)) ∧ Below w.heap.size w w' := by
  refine (bare_calls (errV k) k (-1) j w hv (errV_is k w)).mono ?_
  rintro e w' ⟨rfl, h⟩
  exact ⟨by simp, h⟩

theorem sameTexts_calls (va vb : Value) (xs : List ByteArray) (w : World) (ha : Strs w va xs) (hb : Strs w vb xs) :
    Calls Tryz.prog 15 #[va, vb] w fun e w' => e = .returned (.bool true) ∧ Below w.heap.size w w' := by
  obtain ⟨aa, ca, rfl, hca, hma, hcella⟩ := ha.1
  obtain ⟨ab, cb, rfl, hcb, hmb, hcellb⟩ := hb.1
  unfold maxLen at hma hmb
  clear ha hb
  obtain ⟨n, hn⟩ : ∃ n, xs.length = n := ⟨_, rfl⟩
  rw [hn] at hca hcb hcella hcellb ⊢
  have Ha := Lib.hid hcella
  have Hb := Lib.hid hcellb
  have tn : (n != n) = false := by simp
  clear hcella hcellb hn
  go_enter Tryz.func15, Tryz.ntmps15
  go_wp2_with fail
  go_loopg [5] n (fun k v5 wr => ∃ i : Nat, v5 = .int .i64 i ∧ i ≤ n ∧ k = n - i ∧ Below w.heap.size w wr)
  case atStart => exact ⟨0, rfl, Nat.zero_le _, rfl, Below.refl _ _⟩
  case round =>
    obtain ⟨i, rfl, hi, hk, hB⟩ := hrel
    have Hk := Lib.hid hk
    clear hk
    by_cases hlt : i < n
    · obtain ⟨b1, o1, rfl, hb1, hc1⟩ := Ha.out.resolve_left (by omega)
      obtain ⟨b2, o2, rfl, hb2, hc2⟩ := Hb.out.resolve_left (by omega)
      obtain ⟨x, hx⟩ : ∃ x, xs.getD i ⟨#[]⟩ = x := ⟨_, rfl⟩
      have d1 : wr.cell? ⟨b1, o1 + i, none⟩ = some (.string x) := (hB.cell (p := ⟨b1, o1 + i, none⟩) hb1).trans (by
        have h1 : w.cell? ⟨b1, o1 + i * 1 + 0, none⟩ = some (.string (xs.getD i ⟨#[]⟩)) := hc1 i 0 hlt (by decide)
        rw [hx] at h1
        simpa using h1)
      have d2 : wr.cell? ⟨b2, o2 + i, none⟩ = some (.string x) := (hB.cell (p := ⟨b2, o2 + i, none⟩) hb2).trans (by
        have h1 : w.cell? ⟨b2, o2 + i * 1 + 0, none⟩ = some (.string (xs.getD i ⟨#[]⟩)) := hc2 i 0 hlt (by decide)
        rw [hx] at h1
        simpa using h1)
      have tx : (x.toList == x.toList) = true := by simp
      clear hc1 hc2 hx
      go_wp2_with fail
      go_quiet (fail)
      go_wp2_with fail
      go_roundg (n - (i + 1))
      case rel => exact ⟨i + 1, by go_num, by omega, rfl, drewN_belowD hB _⟩
      case measure => have := Hk.out; omega
    · go_wp2_with fail
      go_ret
      exact ⟨rfl, hB⟩
end Go.Proofs.YtodmnogoacghpaaGreatDoor
namespace Go.Proofs.YtodmnogoacghpaaGreatDoor
open Go.RowKit Go.Maps
set_option maxRecDepth 100000
set_option maxHeartbeats 4000000

theorem rmove_calls (w : World) (a bf : Nat) (G : List Nat) (d : DiskD) (f t : ByteArray) (h : RDisk w a bf G d) (hn : NodupK d.fs) (hl : d.fs.length < 1000000) (hleft : -1 ≤ d.left ∧ d.left ≤ 9223372036854775807) (hf : f.size ≤ maxLen) (ht : t.size ≤ maxLen) :
    Calls Tryz.prog 10 #[.pointer (some ⟨a, 0, none⟩), .int .i64 1, .string f, .string t] w (OpS w a bf G (moveD d f t)) := by
  cases hnt : nameB t
  case' true => exact rmoveGood_calls w a bf G d f t h hn hl hleft hf ht hnt
  obtain ⟨m, hM, hRM⟩ := h.map
  obtain ⟨c0, -, -⟩ := h.cells
  have hlt := h.alt
  have HP := Lib.hid h
  have HM := Lib.hid hM
  have Hf := Lib.hid hf
  have HNT := Lib.hid hnt
  have HR : Hid (moveD d f t = (1, d)) := by show _ = _; unfold moveD; rw [if_pos hnt]
  have HX : Hid (∀ c, RStep w a bf G d (w.alloc (.cells c 47))) := fun c => rstep_same HP.out ((Below.refl _ _).alloc (Nat.le_refl _) _)
  obtain ⟨OLD, P, hg⟩ : ∃ (OLD : ByteArray) (P : Option Addr), gotV m (.agg #[.string ⟨#[]⟩, .pointer none]) f = .agg #[.string OLD, .pointer P] := by
    cases hx : fget d.fs f with
    | none => exact ⟨⟨#[]⟩, none, by unfold gotV; rw [(hRM f).1 hx]; rfl⟩
    | some x =>
      obtain ⟨pv, hm, hsp⟩ := (hRM f).2 x hx
      obtain ⟨P, rfl⟩ := hsp.ptr
      exact ⟨x.now, P, by unfold gotV; rw [hm]; rfl⟩
  obtain ⟨y, hy⟩ : ∃ y, (m f).isSome = y := ⟨_, rfl⟩
  have HG := Lib.hid (And.intro hg hy)
  clear h hM hRM hf ht hn hnt hg hy
  go_enter Tryz.func10, Tryz.ntmps10
  go_wp2_with (at_lookup; refine wpList_lookV_ok _ rfl _ _ 48 rfl 9 47 Tryz.underlying9 Tryz.underlying48 (.agg #[.string ⟨#[]⟩, .pointer none]) (zeroState _) bf d.fs.length _ rfl HM.out f rfl Hf.out (.agg #[.string OLD, .pointer P]) y HG.out.1 HG.out.2 ?_)
  refine (inName_calls t _).mono ?_
  rintro e0 w0 ⟨rfl, rfl⟩
  rw [HNT.out]
  go_wp2_with fail
  go_ret
  rw [HR.out]
  exact ⟨rfl, HX.out _⟩
end Go.Proofs.YtodmnogoacghpaaGreatDoor
