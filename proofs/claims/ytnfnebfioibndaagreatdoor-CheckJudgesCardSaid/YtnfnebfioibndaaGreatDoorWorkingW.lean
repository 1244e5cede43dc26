/- stevedoreref.working: the walk. -/
import Derived.Test.YtnfnebfioibndaaGreatDoorWorking
namespace Go.Proofs.YtnfnebfioibndaaGreatDoor
open Go.RowKit
set_option maxRecDepth 100000
set_option maxHeartbeats 4000000

def keepsW (ks : List KnownD) (but : List Int) (i : Nat) : Bool := worksV (ks.getD i KnownD.none).state && !(but.any (· == (i : Int)))
def picksW (ks : List KnownD) (but : List Int) (n : Nat) : List PackD := ((List.range n).filter (keepsW ks but)).map (fun i => (ks.getD i KnownD.none).pack)

theorem rangeAt_new (w : World) (cs : List Value) (t : TypeId) : (w.alloc (.cells cs.toArray t)).rangeAt w.heap.size 0 cs := by
  intro j v hv
  rw [Nat.zero_add]
  simp only [World.cell?_alloc_new]
  simpa using hv
theorem rangeAt_tail {w : World} {b o : Nat} {v : Value} {vs : List Value} (h : w.rangeAt b o (v :: vs)) : w.rangeAt b (o + 1) vs := by
  intro j x hx
  have := h (j + 1) x (by simpa using hx)
  rwa [show o + (j + 1) = o + 1 + j by omega] at this
theorem rangeAt_below {w w' : World} {B b o : Nat} {vs : List Value} (h : w.rangeAt b o vs) (hb : Below B w w') (hlt : b < B) : w'.rangeAt b o vs := fun j x hx => (hb.cell (p := ⟨b, o + j, none⟩) hlt).trans (h j x hx)

theorem picksW_no {ks : List KnownD} {but : List Int} {i : Nat} (h : keepsW ks but i = false) : picksW ks but (i + 1) = picksW ks but i := by
  unfold picksW
  rw [List.range_succ, List.filter_append, List.map_append]
  simp [h]
theorem picksW_yes {ks : List KnownD} {but : List Int} {i : Nat} (h : keepsW ks but i = true) : picksW ks but (i + 1) = picksW ks but i ++ [(ks.getD i KnownD.none).pack] := by
  unfold picksW
  rw [List.range_succ, List.filter_append, List.map_append]
  simp [h]
theorem packsRows_snoc (os : List PackC) (o : PackC) : packsRows (os ++ [o]) = packsRows os ++ o.cells := by simp [packsRows]

def packCells (p : PackD) (dv av gv bv rv pv sv lv : Value) (fa : Option Addr) (fn fc : Nat) : List Value := [.string p.name, .int .i64 p.ep, .string p.up, .string p.rv, dv, av, gv, bv, rv, pv, sv, lv, .slice fa fn fc]
theorem PackV.ok {w : World} {p : PackD} {dv av gv bv rv pv sv lv : Value} {fa : Option Addr} {fn fc : Nat} (h : PackV w p dv av gv bv rv pv sv lv fa fn fc) : PackCOk w ⟨p, packCells p dv av gv bv rv pv sv lv fa fn fc⟩ := by
  exact ⟨rfl, rfl, rfl, rfl, rfl, h.depends, h.ahead, h.against, h.breaks, h.replaces, h.provides, h.settings, h.listens, h.files, h.lens⟩

def WorkingR (w : World) (ks : List KnownD) (but : List Int) (e : Ending) (w' : World) : Prop :=
  ∃ (ov : Value) (os : List PackC), e = .returned ov ∧ w'.ownsRow w.heap.size 30 13 ov os.length (packsRows os) ∧ os.map PackC.pack = picksW ks but ks.length ∧ (∀ o ∈ os, PackCOk w o) ∧ os.length ≤ ks.length ∧ Below w.heap.size w w'

theorem working_calls (kv bv : Value) (ks : List KnownD) (but : List Int) (w : World) (hK : Knowns w kv ks) (hI : Ints w bv but) (hlen : ks.length ≤ 20) :
    Calls Tryz.prog 33 #[kv, bv] w (WorkingR w ks but) := by
  obtain ⟨R, ⟨a, cap, rfl, hcap, hmax, hcell⟩, hO⟩ := hK
  unfold maxLen at hmax
  obtain ⟨i0, hi0, hz0, hz1, hz2⟩ := info_parts info_pack
  have Hcell := Lib.hid hcell
  have HO := Lib.hid hO
  have HI := Lib.hid hI
  obtain ⟨m, hm⟩ : ∃ m, ks.length = m := ⟨_, rfl⟩
  rw [hm] at hcap Hcell HO hlen ⊢
  have Hm := Lib.hid hm
  have Hi0 := Lib.hid (And.intro hi0 (And.intro hz0 (And.intro hz1 hz2)))
  clear hcell hO hm hi0 hz0 hz1 hz2 hI
  go_enter Tryz.func33, Tryz.ntmps33
  go_wp2_with fail
  go_loopg [5, 10] m (fun k v5 v10 wr => ∃ (i : Nat) (ov : Value) (os : List PackC), ov = v5 ∧ v10 = .int .i64 i ∧ i ≤ m ∧ k = m - i ∧ wr.ownsRow w.heap.size 30 13 ov os.length (packsRows os) ∧ os.map PackC.pack = picksW ks but i ∧ (∀ o ∈ os, PackCOk w o) ∧ os.length ≤ i ∧ Below w.heap.size w wr)
  case atStart => exact ⟨0, _, [], rfl, rfl, Nat.zero_le _, rfl, World.ownsRow_nil _ _ _ _, rfl, by simp, Nat.le_refl _, Below.refl _ _⟩
  case round =>
    obtain ⟨i, ov, os, rfl, rfl, hi, hk, hown, hbare, hterm, hos, hB⟩ := hrel
    have Hk := Lib.hid hk
    have Hown := Lib.hid hown
    have Hbare := Lib.hid hbare
    have Hterm := Lib.hid hterm
    have Hos := Lib.hid hos
    clear hk hown hbare hterm hos
    by_cases hlt : i < m
    · obtain ⟨bp, op, rfl, hbp, hcp⟩ := Hcell.out.resolve_left (by omega)
      obtain ⟨q, hq⟩ : ∃ q, ks.getD i KnownD.none = q := ⟨_, rfl⟩
      have hkn := HO.out i hlt
      rw [hq] at hkn
      have HR0 : wr.rangeAt bp (op + i * 20) (row20 (R i)) := rangeAt_row20 fun j hj => (hB.cell (p := ⟨bp, op + i * 20 + j, none⟩) hbp).trans (hcp i j hlt hj)
      obtain ⟨s, e, u, r, hd, ws, ts, p⟩ := q
      obtain ⟨fw, nw, qw, ft, nt, qt, f4, n4, q4, f5, n5, q5, f6, n6, q6, f7, n7, q7, f8, n8, q8, f9, n9, q9, f10, n10, q10, f11, n11, q11, fa, fn, fc, eR, hV, -, -⟩ := hkn.cells
      dsimp only at eR hV
      rw [eR] at HR0
      have HR := Lib.hid HR0
      have HV := Lib.hid hV
      have Hq := Lib.hid hq
      have hsz := hB.size
      clear HR0 eR hV hkn hcp hq
      obtain ⟨wt, hwt⟩ : ∃ wt : World, wt = wr.alloc (.cells #[.int .i64 s, .int .i64 e, .string u, .string r, .bool hd, .slice fw nw qw, .slice ft nt qt, .string p.name, .int .i64 p.ep, .string p.up, .string p.rv, .slice f4 n4 q4, .slice f5 n5 q5, .slice f6 n6 q6, .slice f7 n7 q7, .slice f8 n8 q8, .slice f9 n9 q9, .slice f10 n10 q10, .slice f11 n11 q11, .slice fa fn fc] 56) := ⟨_, rfl⟩
      have hBr : Below wr.heap.size wr wt := by rw [hwt]; exact (Below.refl _ _).alloc (Nat.le_refl _) _
      have hBt : Below w.heap.size w wt := by rw [hwt]; exact hB.alloc hB.size _
      have hzt : wt.heap.size = wr.heap.size + 1 := by rw [hwt]; simp
      have hRn : wt.rangeAt wr.heap.size 0 [.int .i64 s, .int .i64 e, .string u, .string r, .bool hd, .slice fw nw qw, .slice ft nt qt, .string p.name, .int .i64 p.ep, .string p.up, .string p.rv, .slice f4 n4 q4, .slice f5 n5 q5, .slice f6 n6 q6, .slice f7 n7 q7, .slice f8 n8 q8, .slice f9 n9 q9, .slice f10 n10 q10, .slice f11 n11 q11, .slice fa fn fc] := by rw [hwt]; exact rangeAt_new _ _ _
      have HRn := Lib.hid hRn
      have Hownt := Lib.hid (owns_below Hown.out hBr)
      have Hwt := Lib.hid hwt
      have Hzt := Lib.hid hzt
      have hsz2 : w.heap.size ≤ wt.heap.size := hBt.size
      clear hzt hwt hRn hBr
      go_wp2_with (first
        | (refine wpList_load_mid (by rfl) 56 _ (by rfl) bp (op + i * 20) (by rfl) _ _ HR.out Tryz.underlying56 (by rfl) (by kernel_rfl) ?_)
        | (refine wpList_store_mid (by rfl) 56 _ _ (by rfl) wr.heap.size 0 #[.int .i64 s, .int .i64 e, .string u, .string r, .bool hd, .slice fw nw qw, .slice ft nt qt, .string p.name, .int .i64 p.ep, .string p.up, .string p.rv, .slice f4 n4 q4, .slice f5 n5 q5, .slice f6 n6 q6, .slice f7 n7 q7, .slice f8 n8 q8, .slice f9 n9 q9, .slice f10 n10 q10, .slice f11 n11 q11, .slice fa fn fc] (by rfl) (by rfl) (there_new _ _ _ _ (by rfl)) (by kernel_rfl) (by simp [Value.oneCell']) ?_; rw [setCells_new _ _ _ _ (by rfl)]; rw [show wr.alloc (.cells _ _) = wt from Hwt.out.symm])
        | (refine wpList_load_mid (by rfl) 56 _ (by rfl) wr.heap.size 0 (by rfl) _ _ HRn.out Tryz.underlying56 (by rfl) (by kernel_rfl) ?_))
      refine (refWorks_calls s e u r hd _ _ p _ _ _ _ _ _ _ _ _ _ _ wt).mono ?_
      rintro e1 w1 ⟨rfl, hb1⟩
      have hB1 := hBt.trans (hb1.mono hsz2)
      have Hown1 := Lib.hid (owns_below Hownt.out hb1)
      have HRp : Hid (w1.rangeAt wr.heap.size 7 [.string p.name, .int .i64 p.ep, .string p.up, .string p.rv, .slice f4 n4 q4, .slice f5 n5 q5, .slice f6 n6 q6, .slice f7 n7 q7, .slice f8 n8 q8, .slice f9 n9 q9, .slice f10 n10 q10, .slice f11 n11 q11, .slice fa fn fc]) := rangeAt_below (rangeAt_tail (rangeAt_tail (rangeAt_tail (rangeAt_tail (rangeAt_tail (rangeAt_tail (rangeAt_tail HRn.out))))))) hb1 (by rw [Hzt.out]; omega)
      clear hb1 hBt hB hsz2 Hownt
      have HN0 : worksV s = false → picksW ks but (i + 1) = picksW ks but i := fun h => picksW_no (by unfold keepsW; rw [Hq.out]; simp [h])
      have HN1 : but.any (· == (i : Int)) = true → picksW ks but (i + 1) = picksW ks but i := fun h => picksW_no (by unfold keepsW; rw [h]; simp)
      have HN2 : worksV s = true → but.any (· == (i : Int)) = false → picksW ks but (i + 1) = picksW ks but i ++ [p] := fun h h' => by
        rw [picksW_yes (by unfold keepsW; rw [Hq.out, h']; simp [h]), Hq.out]
      have hN0 := Lib.hid HN0
      have hN1 := Lib.hid HN1
      have hN2 := Lib.hid HN2
      clear HN0 HN1 HN2
      cases hwk : worksV s
      · have HN : Hid (os.map PackC.pack = picksW ks but (i + 1)) := by show _ = _; rw [hN0.out hwk]; exact Hbare.out
        clear hwk
        go_wp2_with fail
        go_roundg (m - (i + 1))
        case rel => exact ⟨i + 1, _, os, rfl, by go_num, by omega, rfl, Hown1.out, HN.out, Hterm.out, by have := Hos.out; omega, hB1⟩
        case measure => have := Hk.out; omega
      · have Hwk := Lib.hid hwk
        clear hwk
        go_wp2_with fail
        refine (holds_calls bv but i w1 (HI.out.below hB1 (Nat.le_refl _))).mono ?_
        rintro e2 w2 ⟨rfl, rfl⟩
        cases hbt : but.any (· == (i : Int))
        · have HN : Hid ((os ++ [(⟨p, packCells p (.slice f4 n4 q4) (.slice f5 n5 q5) (.slice f6 n6 q6) (.slice f7 n7 q7) (.slice f8 n8 q8) (.slice f9 n9 q9) (.slice f10 n10 q10) (.slice f11 n11 q11) fa fn fc⟩ : PackC)]).map PackC.pack = picksW ks but (i + 1)) := by
            show _ = _
            rw [hN2.out Hwk.out hbt, List.map_append, Hbare.out]
            rfl
          have HT : Hid (∀ o ∈ os ++ [(⟨p, packCells p (.slice f4 n4 q4) (.slice f5 n5 q5) (.slice f6 n6 q6) (.slice f7 n7 q7) (.slice f8 n8 q8) (.slice f9 n9 q9) (.slice f10 n10 q10) (.slice f11 n11 q11) fa fn fc⟩ : PackC)], PackCOk w o) := by
            intro o ho
            rcases List.mem_append.1 ho with h | h
            · exact Hterm.out o h
            · rw [List.mem_singleton.1 h]
              exact HV.out.ok
          have hos2 : os.length ≤ i := Hos.out
          have hsz2 : w.heap.size ≤ w1.heap.size := hB1.size
          clear hbt
          go_wp2_with (first
            | (refine wpList_load_mid (by rfl) 30 _ (by rfl) wr.heap.size 7 (by rfl) _ _ HRp.out Tryz.underlying30 (by rfl) (by kernel_rfl) ?_)
            | (refine wpList_store_mid (by rfl) 30 _ _ (by rfl) w1.heap.size 0 #[.string p.name, .int .i64 p.ep, .string p.up, .string p.rv, .slice f4 n4 q4, .slice f5 n5 q5, .slice f6 n6 q6, .slice f7 n7 q7, .slice f8 n8 q8, .slice f9 n9 q9, .slice f10 n10 q10, .slice f11 n11 q11, .slice fa fn fc] (by rfl) (by rfl) (there_new _ _ _ _ (by rfl)) (by kernel_rfl) (by simp [Value.oneCell']) ?_; rw [setCells_new _ _ _ _ (by rfl)])
            | (at_builtin; refine wpList_append_own _ rfl _ _ 85 rfl w.heap.size 30 i0 _ 13 272 Tryz.underlying85 Hi0.out.1 Hi0.out.2.1 Hi0.out.2.2.1 Hi0.out.2.2.2 rfl (by decide) ov os.length (packsRows os) rfl (Hown1.out.alloc _) ⟨w1.heap.size, 0, none⟩ 1 1 [.string p.name, .int .i64 p.ep, .string p.up, .string p.rv, .slice f4 n4 q4, .slice f5 n5 q5, .slice f6 n6 q6, .slice f7 n7 q7, .slice f8 n8 q8, .slice f9 n9 q9, .slice f10 n10 q10, .slice f11 n11 q11, .slice fa fn fc] rfl rfl (World.news_of_block (cs := #[.string p.name, .int .i64 p.ep, .string p.up, .string p.rv, .slice f4 n4 q4, .slice f5 n5 q5, .slice f6 n6 q6, .slice f7 n7 q7, .slice f8 n8 q8, .slice f9 n9 q9, .slice f10 n10 q10, .slice f11 n11 q11, .slice fa fn fc]) (t := 30) (fr := (0, 0)) (heap_alloc_new w1 _)) (by simp [Value.oneCell']) (by unfold maxLen; omega) (by omega) (by simp; omega) ?_))
          intro v' w' hown1 hgrow _
          have hB2 : Below w.heap.size w w' := (hB1.alloc hB1.size _).grown hgrow (by simp; have := hB1.size; omega) (fun k e => (Hown1.out.lt _ e).1)
          have Hown2 : Hid (w'.ownsRow w.heap.size 30 13 v' (os ++ [(⟨p, packCells p (.slice f4 n4 q4) (.slice f5 n5 q5) (.slice f6 n6 q6) (.slice f7 n7 q7) (.slice f8 n8 q8) (.slice f9 n9 q9) (.slice f10 n10 q10) (.slice f11 n11 q11) fa fn fc⟩ : PackC)]).length (packsRows (os ++ [(⟨p, packCells p (.slice f4 n4 q4) (.slice f5 n5 q5) (.slice f6 n6 q6) (.slice f7 n7 q7) (.slice f8 n8 q8) (.slice f9 n9 q9) (.slice f10 n10 q10) (.slice f11 n11 q11) fa fn fc⟩ : PackC)]))) := by
            show World.ownsRow _ _ _ _ _ _ _
            rw [packsRows_snoc, List.length_append]
            exact hown1
          clear hown1 hgrow
          go_wp2_with fail
          go_roundg (m - (i + 1))
          case rel => exact ⟨i + 1, _, _, rfl, by go_num, by omega, rfl, Hown2.out, HN.out, HT.out, by simp; exact hos2, hB2⟩
          case measure => have := Hk.out; omega
        · have HN : Hid (os.map PackC.pack = picksW ks but (i + 1)) := by show _ = _; rw [hN1.out hbt]; exact Hbare.out
          clear hbt
          go_wp2_with fail
          go_roundg (m - (i + 1))
          case rel => exact ⟨i + 1, _, os, rfl, by go_num, by omega, rfl, Hown1.out, HN.out, Hterm.out, by have := Hos.out; omega, hB1⟩
          case measure => have := Hk.out; omega
    · obtain rfl : i = m := by omega
      go_wp2_with fail
      go_ret
      exact ⟨ov, os, rfl, Hown.out, by rw [Hm.out]; exact Hbare.out, Hterm.out, by rw [Hm.out]; exact Hos.out, hB⟩
end Go.Proofs.YtnfnebfioibndaaGreatDoor
