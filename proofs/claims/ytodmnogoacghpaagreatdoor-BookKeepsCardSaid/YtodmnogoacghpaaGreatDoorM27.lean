/- A book: keeps, Set, Down, Get, Names. -/
import Derived.Test.YtodmnogoacghpaaGreatDoorM26
namespace Go.Proofs.YtodmnogoacghpaaGreatDoor
open Go.RowKit
set_option maxRecDepth 100000
set_option maxHeartbeats 4000000

section
variable {w : World} {F : List Nat} {a bb : Nat} {d : DiskD} {m : FS} {t : ByteArray} {dn : Bool}
theorem BkF.cells (h : BkF w F a bb d m t dn) : ∃ bl, w.cell? ⟨bb, 0, none⟩ = some (.pointer (some ⟨a, 0, none⟩)) ∧ w.cell? ⟨bb, 1, none⟩ = some (.map (some bl)) ∧ w.cell? ⟨bb, 2, none⟩ = some (.string t) ∧ w.cell? ⟨bb, 3, none⟩ = some (.bool dn) ∧ bb < w.heap.size ∧ (∀ i, w.frozen? ⟨bb, i, none⟩ = false) ∧ MapV Tryz.prog 9 w bl m.length (nowM m) := by
  obtain ⟨FD, bl, hP, hA, rfl, h1, h2⟩ := h
  exact ⟨bl, hA.cell.1, hA.cell.2.1, hA.cell.2.2.1, hA.cell.2.2.2, hA.lt, hA.free, hA.map⟩
theorem BkF.nodup (h : BkF w F a bb d m t dn) : NodupK m := by
  obtain ⟨FD, bl, hP, hA, rfl, h1, h2⟩ := h
  exact hA.nodup
theorem bk_write {f s : ByteArray} (h : BkF w F a bb d m t dn) (hg : GoodD 1000 30000 d) (hf : f.size ≤ 200) (hs : s.size ≤ 30000) :
    Calls Tryz.prog 45 #[.pointer (some ⟨a, 0, none⟩), .string f, .string s] w fun e w' => e = .returned (errV (writeD d f s).1) ∧ BStep w F a bb (writeD d f s).2 m t dn w' := by
  obtain ⟨FD, bl, hP, hA, rfl, h1, h2⟩ := h
  have hl : d.fs.length < 1000000 := by have := hg.len; omega
  have htot : ftot d.fs ≤ 1000000000 := by have := hg.tot; omega
  refine (write_calls w a FD d f s hP hg.nodup hl htot hg.left.2 hg.bytes.2 (by omega) (by omega)).mono ?_
  rintro e w' ⟨rfl, hs⟩
  exact ⟨rfl, BkF.disk hA h1 h2 hs⟩
theorem bk_sync {f : ByteArray} (h : BkF w F a bb d m t dn) (hg : GoodD 1000 30000 d) (hf : f.size ≤ 200) :
    Calls Tryz.prog 46 #[.pointer (some ⟨a, 0, none⟩), .string f] w fun e w' => e = .returned (errV (syncD d f).1) ∧ BStep w F a bb (syncD d f).2 m t dn w' := by
  obtain ⟨FD, bl, hP, hA, rfl, h1, h2⟩ := h
  have hl : d.fs.length < 1000000 := by have := hg.len; omega
  refine (sync_calls w a FD d f hP hg.nodup hl hg.left.2 (by unfold maxLen; omega)).mono ?_
  rintro e w' ⟨rfl, hs⟩
  exact ⟨rfl, BkF.disk hA h1 h2 hs⟩
theorem bk_move {f g : ByteArray} (h : BkF w F a bb d m t dn) (hg : GoodD 1000 30000 d) (hf : f.size ≤ 200) (hgz : g.size ≤ 200) :
    Calls Tryz.prog 35 #[.pointer (some ⟨a, 0, none⟩), .string f, .string g] w fun e w' => e = .returned (errV (moveD d f g).1) ∧ BStep w F a bb (moveD d f g).2 m t dn w' := by
  obtain ⟨FD, bl, hP, hA, rfl, h1, h2⟩ := h
  have hl : d.fs.length < 1000000 := by have := hg.len; omega
  refine (move_calls w a FD d f g hP hg.nodup hl hg.left.2 (by unfold maxLen; omega) (by omega)).mono ?_
  rintro e w' ⟨rfl, hs⟩
  exact ⟨rfl, BkF.disk hA h1 h2 hs⟩
end
/-- Written, and made safe. -/
def keepsD (d : DiskD) (f s : ByteArray) : Int × DiskD := if (writeD d f s).1 = 0 then syncD (writeD d f s).2 f else writeD d f s
theorem keeps_calls (w : World) (F : List Nat) (a bb : Nat) (d : DiskD) (m : FS) (t : ByteArray) (dn : Bool) (f s : ByteArray) (h : BkF w F a bb d m t dn) (hg : GoodD 999 30000 d) (hf : f.size ≤ 200) (hs : s.size ≤ 30000) :
    Calls Tryz.prog 30 #[.pointer (some ⟨bb, 0, none⟩), .string f, .string s] w fun e w' => e = .returned (errV (keepsD d f s).1) ∧ BStep w F a bb (keepsD d f s).2 m t dn w' := by
  obtain ⟨bl, c0, -, -, -, hlt, -, -⟩ := h.cells
  have HB := Lib.hid h
  have WR := Lib.hid (bk_write h (hg.mono (by decide) (Nat.le_refl _)) hf hs)
  have hg1 : GoodD 1000 30000 (writeD d f s).2 := hg.write hs
  obtain ⟨k1, hk1⟩ : ∃ k1, (writeD d f s).1 = k1 := ⟨_, rfl⟩
  obtain ⟨d1, hd1⟩ : ∃ d1, (writeD d f s).2 = d1 := ⟨_, rfl⟩
  have HE : Hid (keepsD d f s = if k1 = 0 then syncD d1 f else (k1, d1)) := by
    show _ = _
    unfold keepsD
    rw [hk1, hd1]
    split
    · rfl
    · rw [← hk1, ← hd1]
  rw [hk1, hd1] at WR
  rw [hd1] at hg1
  have HG1 := Lib.hid hg1
  clear h hg hk1 hd1 hg1 hs
  by_cases h0 : k1 = 0
  · subst h0
    rw [errV_zero] at WR
    have HE0 : Hid (keepsD d f s = syncD d1 f) := by show _ = _; rw [HE.out]; exact if_pos rfl
    go_enter Tryz.func30, Tryz.ntmps30
    go_wp2_with fail
    refine WR.out.mono ?_
    rintro e1 w1 ⟨rfl, hS1⟩
    obtain ⟨F1, hB1, hs1, hT1⟩ := hS1
    obtain ⟨bl1, c10, -, -, -, hlt1, -, -⟩ := hB1.cells
    have HS1 : Hid (BStep w F a bb d1 m t dn w1) := ⟨F1, hB1, hs1, hT1⟩
    have SY : Hid (∀ F', BkF w1 F' a bb d1 m t dn → Calls Tryz.prog 46 #[.pointer (some ⟨a, 0, none⟩), .string f] w1 fun e w' => e = .returned (errV (syncD d1 f).1) ∧ BStep w1 F' a bb (syncD d1 f).2 m t dn w') := fun F' hB => bk_sync hB HG1.out hf
    have HB1 := Lib.hid hB1
    have Hs1 := Lib.hid (And.intro hs1 hT1)
    clear hB1 hs1 hT1 WR c0
    go_wp2_with fail
    refine (SY.out _ HB1.out).mono ?_
    rintro e2 w2 ⟨rfl, hS2⟩
    obtain ⟨F2, hB2, hs2, hT2⟩ := hS2
    have HS2 : Hid (BStep w F a bb (syncD d1 f).2 m t dn w2) := ⟨F2, hB2, fun j hj => by
      rcases hs2 j hj with hj | hj
      · exact Hs1.out.1 j hj
      · exact Or.inr (Nat.le_trans Hs1.out.2.size hj), Hs1.out.2.trans hT2 Hs1.out.1⟩
    clear hB2 hs2 hT2
    go_wp2_with fail
    go_ret
    rw [HE0.out]
    exact ⟨rfl, HS2.out⟩
  · rw [errV_some h0] at WR
    have HE0 : Hid (keepsD d f s = (k1, d1)) := by show _ = _; rw [HE.out]; exact if_neg h0
    have H0 := Lib.hid h0
    clear h0
    go_enter Tryz.func30, Tryz.ntmps30
    go_wp2_with fail
    refine WR.out.mono ?_
    rintro e1 w1 ⟨rfl, hS1⟩
    have HS1 := Lib.hid hS1
    clear hS1
    go_wp2_with fail
    go_ret
    rw [HE0.out, errV_some H0.out]
    exact ⟨rfl, HS1.out⟩

theorem down_calls (w : World) (F : List Nat) (a bb : Nat) (d : DiskD) (m : FS) (t : ByteArray) (dn : Bool) (h : BkF w F a bb d m t dn) :
    Calls Tryz.prog 13 #[.pointer (some ⟨bb, 0, none⟩)] w fun e w' => e = .returned (.bool dn) ∧ w = w' := by
  obtain ⟨bl, -, -, -, c3, hlt, -, -⟩ := h.cells
  clear h
  go_enter Tryz.func13, Tryz.ntmps13
  go_wp2_with fail
  go_ret
  exact ⟨rfl, rfl⟩
theorem nowOf_got (m : FS) (n : ByteArray) : gotV (nowM m) (.string ⟨#[]⟩) n = .string (nowOf m n) := by
  unfold gotV nowM nowOf nowG
  cases fget m n <;> rfl
theorem get_calls (w : World) (F : List Nat) (a bb : Nat) (d : DiskD) (m : FS) (t : ByteArray) (dn : Bool) (n : ByteArray) (h : BkF w F a bb d m t dn) (hn : n.size ≤ maxLen) :
    Calls Tryz.prog 14 #[.pointer (some ⟨bb, 0, none⟩), .string n] w fun e w' => e = .returned (.string (nowOf m n)) ∧ w = w' := by
  obtain ⟨bl, -, c1, -, -, hlt, -, hM⟩ := h.cells
  have HM := Lib.hid hM
  have Hn := Lib.hid hn
  have HG := Lib.hid (nowOf_got m n)
  clear h hM hn
  go_enter Tryz.func14, Tryz.ntmps14
  go_wp2_with (at_lookup; refine wpList_lookV _ rfl _ _ 24 rfl 9 9 Tryz.underlying9 Tryz.underlying24 (.string ⟨#[]⟩) (Tryz.zeroValue9 _) bl m.length _ rfl HM.out n rfl Hn.out (.string (nowOf m n)) HG.out ?_)
  go_ret
  exact ⟨rfl, rfl⟩
theorem bnames_calls (w : World) (F : List Nat) (a bb : Nat) (d : DiskD) (m : FS) (t : ByteArray) (dn : Bool) (h : BkF w F a bb d m t dn) (hl : m.length ≤ 1000000) :
    Calls Tryz.prog 16 #[.pointer (some ⟨bb, 0, none⟩)] w fun e w' => ∃ v, e = .returned v ∧ Strs w' v (sortB (m.map (·.1))) ∧ (FreshV w.heap.size v ∧ RowS w' v) ∧ Below w.heap.size w w' := by
  obtain ⟨bl, -, c1, -, -, hlt, -, hM⟩ := h.cells
  have C1 := Lib.hid (mapsKeys_calls (some bl) w)
  have C2 := Lib.hid (sortedKeys_calls3 bl m.length (nowM m) (m.map (·.1)) w hM (nowM_keys h.nodup) hl)
  clear h hM
  go_enter Tryz.func16, Tryz.ntmps16
  go_wp2_with fail
  refine C1.out.mono ?_
  rintro e1 w1 ⟨rfl, rfl⟩
  go_wp2_with fail
  refine C2.out.mono ?_
  rintro e2 w2 ⟨v, rfl, hS, hfr, hb⟩
  have HS := Lib.hid (And.intro hS (And.intro hfr hb))
  clear hS hfr hb
  go_wp2_with fail
  go_ret
  exact ⟨_, rfl, HS.out.1, HS.out.2.1, HS.out.2.2⟩
end Go.Proofs.YtodmnogoacghpaaGreatDoor
