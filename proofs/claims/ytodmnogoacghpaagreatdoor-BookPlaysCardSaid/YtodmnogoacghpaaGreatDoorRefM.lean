/- The document's Move, any name. (Written by gen_refm.py.) -/
import Derived.Test.YtodmnogoacghpaaGreatDoorRefC
namespace Go.Proofs.YtodmnogoacghpaaGreatDoor
open Go.RowKit Go.Maps
set_option maxRecDepth 100000
set_option maxHeartbeats 4000000

theorem rmove_calls (w : World) (a bf : Nat) (G : List Nat) (d : DiskD) (f t : ByteArray) (h : RDisk w a bf G d) (hn : NodupK d.fs) (hl : d.fs.length < 1000000) (hleft : -1 ≤ d.left ∧ d.left ≤ 9223372036854775807) (hf : f.size ≤ maxLen) (ht : t.size ≤ maxLen) :
    Calls Tryz.prog 10 #[.pointer (some ⟨a, 0, none⟩), .int .i64 1, .string f, .string t] w (OpS w a bf G (moveD d f t)) := by
  cases hnt : nameB t
  case' true => exact rmoveGood_calls w a bf G d f t h hn hl hleft hf ht hnt
  obtain ⟨m, hM, hRM⟩ := h.map
  obtain ⟨c0, -, -⟩ := h.cells
  have hlt := h.alt
  have HP := Lib.hid h
  have HM := Lib.hid hM
  have Hf := Lib.hid hf
  have HNT := Lib.hid hnt
  have HR : Hid (moveD d f t = (1, d)) := by show _ = _; unfold moveD; rw [if_pos hnt]
  have HX : Hid (∀ c, RStep w a bf G d (w.alloc (.cells c 47))) := fun c => rstep_same HP.out ((Below.refl _ _).alloc (Nat.le_refl _) _)
  obtain ⟨OLD, P, hg⟩ : ∃ (OLD : ByteArray) (P : Option Addr), gotV m (.agg #[.string ⟨#[]⟩, .pointer none]) f = .agg #[.string OLD, .pointer P] := by
    cases hx : fget d.fs f with
    | none => exact ⟨⟨#[]⟩, none, by unfold gotV; rw [(hRM f).1 hx]; rfl⟩
    | some x =>
      obtain ⟨pv, hm, hsp⟩ := (hRM f).2 x hx
      obtain ⟨P, rfl⟩ := hsp.ptr
      exact ⟨x.now, P, by unfold gotV; rw [hm]; rfl⟩
  obtain ⟨y, hy⟩ : ∃ y, (m f).isSome = y := ⟨_, rfl⟩
  have HG := Lib.hid (And.intro hg hy)
  clear h hM hRM hf ht hn hnt hg hy
  go_enter Tryz.func10, Tryz.ntmps10
  go_wp2_with (at_lookup; refine wpList_lookV_ok _ rfl _ _ 48 rfl 9 47 Tryz.underlying9 Tryz.underlying48 (.agg #[.string ⟨#[]⟩, .pointer none]) (zeroState _) bf d.fs.length _ rfl HM.out f rfl Hf.out (.agg #[.string OLD, .pointer P]) y HG.out.1 HG.out.2 ?_)
  refine (inName_calls t _).mono ?_
  rintro e0 w0 ⟨rfl, rfl⟩
  rw [HNT.out]
  go_wp2_with fail
  go_ret
  rw [HR.out]
  exact ⟨rfl, HX.out _⟩
end Go.Proofs.YtodmnogoacghpaaGreatDoor
