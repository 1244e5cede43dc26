/- A package that is known, its twenty cells written out. -/
import Derived.Test.YtnfnebfioibndaaGreatDoorDelW
namespace Go.Proofs.YtnfnebfioibndaaGreatDoor
open Go.RowKit
set_option maxRecDepth 100000

theorem KnownOk.cells {w : World} {k : KnownD} {R : Nat → Value} (h : KnownOk w k R) :
    ∃ (fw : Option Addr) (nw qw : Nat) (ft : Option Addr) (nt qt : Nat) (f4 : Option Addr) (n4 q4 : Nat) (f5 : Option Addr) (n5 q5 : Nat) (f6 : Option Addr) (n6 q6 : Nat) (f7 : Option Addr) (n7 q7 : Nat) (f8 : Option Addr) (n8 q8 : Nat) (f9 : Option Addr) (n9 q9 : Nat) (f10 : Option Addr) (n10 q10 : Nat) (f11 : Option Addr) (n11 q11 : Nat) (fa : Option Addr) (fn fc : Nat),
    row20 R = [.int .i64 k.state, .int .i64 k.ep, .string k.up, .string k.rv, .bool k.held, .slice fw nw qw, .slice ft nt qt, .string k.pack.name, .int .i64 k.pack.ep, .string k.pack.up, .string k.pack.rv, .slice f4 n4 q4, .slice f5 n5 q5, .slice f6 n6 q6, .slice f7 n7 q7, .slice f8 n8 q8, .slice f9 n9 q9, .slice f10 n10 q10, .slice f11 n11 q11, .slice fa fn fc] ∧
    PackV w k.pack (.slice f4 n4 q4) (.slice f5 n5 q5) (.slice f6 n6 q6) (.slice f7 n7 q7) (.slice f8 n8 q8) (.slice f9 n9 q9) (.slice f10 n10 q10) (.slice f11 n11 q11) fa fn fc ∧ Strs w (.slice fw nw qw) k.waits ∧ Strs w (.slice ft nt qt) k.tasks := by
  have hpk := h.pack
  obtain ⟨dv, av, gv, bv, rv, pv, sv, lv, fa, fn, fc, e4, e5, e6, e7, e8, e9, e10, e11, e12, hV⟩ := hpk.cells
  obtain ⟨f4, n4, q4, rfl⟩ := hV.depends.slice
  obtain ⟨f5, n5, q5, rfl⟩ := hV.ahead.slice
  obtain ⟨f6, n6, q6, rfl⟩ := hV.against.1.slice
  obtain ⟨f7, n7, q7, rfl⟩ := hV.breaks.1.slice
  obtain ⟨f8, n8, q8, rfl⟩ := hV.replaces.1.slice
  obtain ⟨f9, n9, q9, rfl⟩ := hV.provides.1.slice
  obtain ⟨f10, n10, q10, rfl⟩ := hV.settings.1.slice
  obtain ⟨f11, n11, q11, rfl⟩ := hV.listens.1.slice
  obtain ⟨fw, nw, qw, ew⟩ := h.waits.1.slice
  obtain ⟨ft, nt, qt, et⟩ := h.tasks.1.slice
  refine ⟨fw, nw, qw, ft, nt, qt, f4, n4, q4, f5, n5, q5, f6, n6, q6, f7, n7, q7, f8, n8, q8, f9, n9, q9, f10, n10, q10, f11, n11, q11, fa, fn, fc, ?_, hV, by rw [← ew]; exact h.waits, by rw [← et]; exact h.tasks⟩
  have r7 : R 7 = .string k.pack.name := hpk.name
  have r8 : R 8 = .int .i64 k.pack.ep := hpk.ep
  have r9 : R 9 = .string k.pack.up := hpk.up
  have r10 : R 10 = .string k.pack.rv := hpk.rv
  have r11 : R 11 = _ := e4
  have r12 : R 12 = _ := e5
  have r13 : R 13 = _ := e6
  have r14 : R 14 = _ := e7
  have r15 : R 15 = _ := e8
  have r16 : R 16 = _ := e9
  have r17 : R 17 = _ := e10
  have r18 : R 18 = _ := e11
  have r19 : R 19 = _ := e12
  show [R 0, R 1, R 2, R 3, R 4, R 5, R 6, R 7, R 8, R 9, R 10, R 11, R 12, R 13, R 14, R 15, R 16, R 17, R 18, R 19] = _
  rw [h.state, h.ep, h.up, h.rv, h.held, ew, et, r7, r8, r9, r10, r11, r12, r13, r14, r15, r16, r17, r18, r19]
end Go.Proofs.YtnfnebfioibndaaGreatDoor
