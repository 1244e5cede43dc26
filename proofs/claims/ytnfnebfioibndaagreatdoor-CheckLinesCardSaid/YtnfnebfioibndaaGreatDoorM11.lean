/- stevedoreref.working: the walk. · CheckJudges: what is judged, in plain lists. · What the law's bounds say of packages; the document's Bare; the variable Fine; a result that lies in a variable. -/
import Derived.Test.YtnfnebfioibndaaGreatDoorM10
namespace Go.Proofs.YtnfnebfioibndaaGreatDoor
open Go.RowKit
set_option maxRecDepth 100000
set_option maxHeartbeats 4000000

def keepsW (ks : List KnownD) (but : List Int) (i : Nat) : Bool := worksV (ks.getD i KnownD.none).state && !(but.any (· == (i : Int)))
def picksW (ks : List KnownD) (but : List Int) (n : Nat) : List PackD := ((List.range n).filter (keepsW ks but)).map (fun i => (ks.getD i KnownD.none).pack)

theorem rangeAt_new (w : World) (cs : List Value) (t : TypeId) : (w.alloc (.cells cs.toArray t)).rangeAt w.heap.size 0 cs := by
  intro j v hv
  rw [Nat.zero_add]
  simp only [World.cell?_alloc_new]
  simpa using hv
theorem rangeAt_tail {w : World} {b o : Nat} {v : Value} {vs : List Value} (h : w.rangeAt b o (v :: vs)) : w.rangeAt b (o + 1) vs := by
  intro j x hx
  have := h (j + 1) x (by simpa using hx)
  rwa [show o + (j + 1) = o + 1 + j by omega] at this
theorem rangeAt_below {w w' : World} {B b o : Nat} {vs : List Value} (h : w.rangeAt b o vs) (hb : Below B w w') (hlt : b < B) : w'.rangeAt b o vs := fun j x hx => (hb.cell (p := ⟨b, o + j, none⟩) hlt).trans (h j x hx)

theorem picksW_no {ks : List KnownD} {but : List Int} {i : Nat} (h : keepsW ks but i = false) : picksW ks but (i + 1) = picksW ks but i := by
  unfold picksW
  rw [List.range_succ, List.filter_append, List.map_append]
  simp [h]
theorem picksW_yes {ks : List KnownD} {but : List Int} {i : Nat} (h : keepsW ks but i = true) : picksW ks but (i + 1) = picksW ks but i ++ [(ks.getD i KnownD.none).pack] := by
  unfold picksW
  rw [List.range_succ, List.filter_append, List.map_append]
  simp [h]
theorem packsRows_snoc (os : List PackC) (o : PackC) : packsRows (os ++ [o]) = packsRows os ++ o.cells := by simp [packsRows]

def packCells (p : PackD) (dv av gv bv rv pv sv lv : Value) (fa : Option Addr) (fn fc : Nat) : List Value := [.string p.name, .int .i64 p.ep, .string p.up, .string p.rv, dv, av, gv, bv, rv, pv, sv, lv, .slice fa fn fc]
theorem PackV.ok {w : World} {p : PackD} {dv av gv bv rv pv sv lv : Value} {fa : Option Addr} {fn fc : Nat} (h : PackV w p dv av gv bv rv pv sv lv fa fn fc) : PackCOk w ⟨p, packCells p dv av gv bv rv pv sv lv fa fn fc⟩ := by
  exact ⟨rfl, rfl, rfl, rfl, rfl, h.depends, h.ahead, h.against, h.breaks, h.replaces, h.provides, h.settings, h.listens, h.files, h.lens⟩

def WorkingR (w : World) (ks : List KnownD) (but : List Int) (e : Ending) (w' : World) : Prop :=
  ∃ (ov : Value) (os : List PackC), e = .returned ov ∧ w'.ownsRow w.heap.size 30 13 ov os.length (packsRows os) ∧ os.map PackC.pack = picksW ks but ks.length ∧ (∀ o ∈ os, PackCOk w o) ∧ os.length ≤ ks.length ∧ Below w.heap.size w w'

theorem working_calls (kv bv : Value) (ks : List KnownD) (but : List Int) (w : World) (hK : Knowns w kv ks) (hI : Ints w bv but) (hlen : ks.length ≤ 20) :
    Calls Tryz.prog 33 #[kv, bv] w (WorkingR w ks but) := by
  obtain ⟨R, ⟨a, cap, rfl, hcap, hmax, hcell⟩, hO⟩ := hK
  unfold maxLen at hmax
  obtain ⟨i0, hi0, hz0, hz1, hz2⟩ := info_parts info_pack
  have Hcell := Lib.hid hcell
  have HO := Lib.hid hO
  have HI := Lib.hid hI
  obtain ⟨m, hm⟩ : ∃ m, ks.length = m := ⟨_, rfl⟩
  rw [hm] at hcap Hcell HO hlen ⊢
  have Hm := Lib.hid hm
  have Hi0 := Lib.hid (And.intro hi0 (And.intro hz0 (And.intro hz1 hz2)))
  clear hcell hO hm hi0 hz0 hz1 hz2 hI
  go_enter Tryz.func33, Tryz.ntmps33
  go_wp2_with fail
  go_loopg [5, 10] m (fun k v5 v10 wr => ∃ (i : Nat) (ov : Value) (os : List PackC), ov = v5 ∧ v10 = .int .i64 i ∧ i ≤ m ∧ k = m - i ∧ wr.ownsRow w.heap.size 30 13 ov os.length (packsRows os) ∧ os.map PackC.pack = picksW ks but i ∧ (∀ o ∈ os, PackCOk w o) ∧ os.length ≤ i ∧ Below w.heap.size w wr)
  case atStart => exact ⟨0, _, [], rfl, rfl, Nat.zero_le _, rfl, World.ownsRow_nil _ _ _ _, rfl, by simp, Nat.le_refl _, Below.refl _ _⟩
  case round =>
    obtain ⟨i, ov, os, rfl, rfl, hi, hk, hown, hbare, hterm, hos, hB⟩ := hrel
    have Hk := Lib.hid hk
    have Hown := Lib.hid hown
    have Hbare := Lib.hid hbare
    have Hterm := Lib.hid hterm
    have Hos := Lib.hid hos
    clear hk hown hbare hterm hos
    by_cases hlt : i < m
    · obtain ⟨bp, op, rfl, hbp, hcp⟩ := Hcell.out.resolve_left (by omega)
      obtain ⟨q, hq⟩ : ∃ q, ks.getD i KnownD.none = q := ⟨_, rfl⟩
      have hkn := HO.out i hlt
      rw [hq] at hkn
      have HR0 : wr.rangeAt bp (op + i * 20) (row20 (R i)) := rangeAt_row20 fun j hj => (hB.cell (p := ⟨bp, op + i * 20 + j, none⟩) hbp).trans (hcp i j hlt hj)
      obtain ⟨s, e, u, r, hd, ws, ts, p⟩ := q
      obtain ⟨fw, nw, qw, ft, nt, qt, f4, n4, q4, f5, n5, q5, f6, n6, q6, f7, n7, q7, f8, n8, q8, f9, n9, q9, f10, n10, q10, f11, n11, q11, fa, fn, fc, eR, hV, -, -⟩ := hkn.cells
      dsimp only at eR hV
      rw [eR] at HR0
      have HR := Lib.hid HR0
      have HV := Lib.hid hV
      have Hq := Lib.hid hq
      have hsz := hB.size
      clear HR0 eR hV hkn hcp hq
      obtain ⟨wt, hwt⟩ : ∃ wt : World, wt = wr.alloc (.cells #[.int .i64 s, .int .i64 e, .string u, .string r, .bool hd, .slice fw nw qw, .slice ft nt qt, .string p.name, .int .i64 p.ep, .string p.up, .string p.rv, .slice f4 n4 q4, .slice f5 n5 q5, .slice f6 n6 q6, .slice f7 n7 q7, .slice f8 n8 q8, .slice f9 n9 q9, .slice f10 n10 q10, .slice f11 n11 q11, .slice fa fn fc] 56) := ⟨_, rfl⟩
      have hBr : Below wr.heap.size wr wt := by rw [hwt]; exact (Below.refl _ _).alloc (Nat.le_refl _) _
      have hBt : Below w.heap.size w wt := by rw [hwt]; exact hB.alloc hB.size _
      have hzt : wt.heap.size = wr.heap.size + 1 := by rw [hwt]; simp
      have hRn : wt.rangeAt wr.heap.size 0 [.int .i64 s, .int .i64 e, .string u, .string r, .bool hd, .slice fw nw qw, .slice ft nt qt, .string p.name, .int .i64 p.ep, .string p.up, .string p.rv, .slice f4 n4 q4, .slice f5 n5 q5, .slice f6 n6 q6, .slice f7 n7 q7, .slice f8 n8 q8, .slice f9 n9 q9, .slice f10 n10 q10, .slice f11 n11 q11, .slice fa fn fc] := by rw [hwt]; exact rangeAt_new _ _ _
      have HRn := Lib.hid hRn
      have Hownt := Lib.hid (owns_below Hown.out hBr)
      have Hwt := Lib.hid hwt
      have Hzt := Lib.hid hzt
      have hsz2 : w.heap.size ≤ wt.heap.size := hBt.size
      clear hzt hwt hRn hBr
      go_wp2_with (first
        | (refine wpList_load_mid (by rfl) 56 _ (by rfl) bp (op + i * 20) (by rfl) _ _ HR.out Tryz.underlying56 (by rfl) (by kernel_rfl) ?_)
        | (refine wpList_store_mid (by rfl) 56 _ _ (by rfl) wr.heap.size 0 #[.int .i64 s, .int .i64 e, .string u, .string r, .bool hd, .slice fw nw qw, .slice ft nt qt, .string p.name, .int .i64 p.ep, .string p.up, .string p.rv, .slice f4 n4 q4, .slice f5 n5 q5, .slice f6 n6 q6, .slice f7 n7 q7, .slice f8 n8 q8, .slice f9 n9 q9, .slice f10 n10 q10, .slice f11 n11 q11, .slice fa fn fc] (by rfl) (by rfl) (there_new _ _ _ _ (by rfl)) (by kernel_rfl) (by simp [Value.oneCell']) ?_; rw [setCells_new _ _ _ _ (by rfl)]; rw [show wr.alloc (.cells _ _) = wt from Hwt.out.symm])
        | (refine wpList_load_mid (by rfl) 56 _ (by rfl) wr.heap.size 0 (by rfl) _ _ HRn.out Tryz.underlying56 (by rfl) (by kernel_rfl) ?_))
      refine (refWorks_calls s e u r hd _ _ p _ _ _ _ _ _ _ _ _ _ _ wt).mono ?_
      rintro e1 w1 ⟨rfl, hb1⟩
      have hB1 := hBt.trans (hb1.mono hsz2)
      have Hown1 := Lib.hid (owns_below Hownt.out hb1)
      have HRp : Hid (w1.rangeAt wr.heap.size 7 [.string p.name, .int .i64 p.ep, .string p.up, .string p.rv, .slice f4 n4 q4, .slice f5 n5 q5, .slice f6 n6 q6, .slice f7 n7 q7, .slice f8 n8 q8, .slice f9 n9 q9, .slice f10 n10 q10, .slice f11 n11 q11, .slice fa fn fc]) := rangeAt_below (rangeAt_tail (rangeAt_tail (rangeAt_tail (rangeAt_tail (rangeAt_tail (rangeAt_tail (rangeAt_tail HRn.out))))))) hb1 (by rw [Hzt.out]; omega)
      clear hb1 hBt hB hsz2 Hownt
      have HN0 : worksV s = false → picksW ks but (i + 1) = picksW ks but i := fun h => picksW_no (by unfold keepsW; rw [Hq.out]; simp [h])
      have HN1 : but.any (· == (i : Int)) = true → picksW ks but (i + 1) = picksW ks but i := fun h => picksW_no (by unfold keepsW; rw [h]; simp)
      have HN2 : worksV s = true → but.any (· == (i : Int)) = false → picksW ks but (i + 1) = picksW ks but i ++ [p] := fun h h' => by
        rw [picksW_yes (by unfold keepsW; rw [Hq.out, h']; simp [h]), Hq.out]
      have hN0 := Lib.hid HN0
      have hN1 := Lib.hid HN1
      have hN2 := Lib.hid HN2
      clear HN0 HN1 HN2
      cases hwk : worksV s
      · have HN : Hid (os.map PackC.pack = picksW ks but (i + 1)) := by show _ = _; rw [hN0.out hwk]; exact Hbare.out
        clear hwk
        go_wp2_with fail
        go_roundg (m - (i + 1))
        case rel => exact ⟨i + 1, _, os, rfl, by go_num, by omega, rfl, Hown1.out, HN.out, Hterm.out, by have := Hos.out; omega, hB1⟩
        case measure => have := Hk.out; omega
      · have Hwk := Lib.hid hwk
        clear hwk
        go_wp2_with fail
        refine (holds_calls bv but i w1 (HI.out.below hB1 (Nat.le_refl _))).mono ?_
        rintro e2 w2 ⟨rfl, rfl⟩
        cases hbt : but.any (· == (i : Int))
        · have HN : Hid ((os ++ [(⟨p, packCells p (.slice f4 n4 q4) (.slice f5 n5 q5) (.slice f6 n6 q6) (.slice f7 n7 q7) (.slice f8 n8 q8) (.slice f9 n9 q9) (.slice f10 n10 q10) (.slice f11 n11 q11) fa fn fc⟩ : PackC)]).map PackC.pack = picksW ks but (i + 1)) := by
            show _ = _
            rw [hN2.out Hwk.out hbt, List.map_append, Hbare.out]
            rfl
          have HT : Hid (∀ o ∈ os ++ [(⟨p, packCells p (.slice f4 n4 q4) (.slice f5 n5 q5) (.slice f6 n6 q6) (.slice f7 n7 q7) (.slice f8 n8 q8) (.slice f9 n9 q9) (.slice f10 n10 q10) (.slice f11 n11 q11) fa fn fc⟩ : PackC)], PackCOk w o) := by
            intro o ho
            rcases List.mem_append.1 ho with h | h
            · exact Hterm.out o h
            · rw [List.mem_singleton.1 h]
              exact HV.out.ok
          have hos2 : os.length ≤ i := Hos.out
          have hsz2 : w.heap.size ≤ w1.heap.size := hB1.size
          clear hbt
          go_wp2_with (first
            | (refine wpList_load_mid (by rfl) 30 _ (by rfl) wr.heap.size 7 (by rfl) _ _ HRp.out Tryz.underlying30 (by rfl) (by kernel_rfl) ?_)
            | (refine wpList_store_mid (by rfl) 30 _ _ (by rfl) w1.heap.size 0 #[.string p.name, .int .i64 p.ep, .string p.up, .string p.rv, .slice f4 n4 q4, .slice f5 n5 q5, .slice f6 n6 q6, .slice f7 n7 q7, .slice f8 n8 q8, .slice f9 n9 q9, .slice f10 n10 q10, .slice f11 n11 q11, .slice fa fn fc] (by rfl) (by rfl) (there_new _ _ _ _ (by rfl)) (by kernel_rfl) (by simp [Value.oneCell']) ?_; rw [setCells_new _ _ _ _ (by rfl)])
            | (at_builtin; refine wpList_append_own _ rfl _ _ 85 rfl w.heap.size 30 i0 _ 13 272 Tryz.underlying85 Hi0.out.1 Hi0.out.2.1 Hi0.out.2.2.1 Hi0.out.2.2.2 rfl (by decide) ov os.length (packsRows os) rfl (Hown1.out.alloc _) ⟨w1.heap.size, 0, none⟩ 1 1 [.string p.name, .int .i64 p.ep, .string p.up, .string p.rv, .slice f4 n4 q4, .slice f5 n5 q5, .slice f6 n6 q6, .slice f7 n7 q7, .slice f8 n8 q8, .slice f9 n9 q9, .slice f10 n10 q10, .slice f11 n11 q11, .slice fa fn fc] rfl rfl (World.news_of_block (cs := #[.string p.name, .int .i64 p.ep, .string p.up, .string p.rv, .slice f4 n4 q4, .slice f5 n5 q5, .slice f6 n6 q6, .slice f7 n7 q7, .slice f8 n8 q8, .slice f9 n9 q9, .slice f10 n10 q10, .slice f11 n11 q11, .slice fa fn fc]) (t := 30) (fr := (0, 0)) (heap_alloc_new w1 _)) (by simp [Value.oneCell']) (by unfold maxLen; omega) (by omega) (by simp; omega) ?_))
          intro v' w' hown1 hgrow _
          have hB2 : Below w.heap.size w w' := (hB1.alloc hB1.size _).grown hgrow (by simp; have := hB1.size; omega) (fun k e => (Hown1.out.lt _ e).1)
          have Hown2 : Hid (w'.ownsRow w.heap.size 30 13 v' (os ++ [(⟨p, packCells p (.slice f4 n4 q4) (.slice f5 n5 q5) (.slice f6 n6 q6) (.slice f7 n7 q7) (.slice f8 n8 q8) (.slice f9 n9 q9) (.slice f10 n10 q10) (.slice f11 n11 q11) fa fn fc⟩ : PackC)]).length (packsRows (os ++ [(⟨p, packCells p (.slice f4 n4 q4) (.slice f5 n5 q5) (.slice f6 n6 q6) (.slice f7 n7 q7) (.slice f8 n8 q8) (.slice f9 n9 q9) (.slice f10 n10 q10) (.slice f11 n11 q11) fa fn fc⟩ : PackC)]))) := by
            show World.ownsRow _ _ _ _ _ _ _
            rw [packsRows_snoc, List.length_append]
            exact hown1
          clear hown1 hgrow
          go_wp2_with fail
          go_roundg (m - (i + 1))
          case rel => exact ⟨i + 1, _, _, rfl, by go_num, by omega, rfl, Hown2.out, HN.out, HT.out, by simp; exact hos2, hB2⟩
          case measure => have := Hk.out; omega
        · have HN : Hid (os.map PackC.pack = picksW ks but (i + 1)) := by show _ = _; rw [hN1.out hbt]; exact Hbare.out
          clear hbt
          go_wp2_with fail
          go_roundg (m - (i + 1))
          case rel => exact ⟨i + 1, _, os, rfl, by go_num, by omega, rfl, Hown1.out, HN.out, Hterm.out, by have := Hos.out; omega, hB1⟩
          case measure => have := Hk.out; omega
    · obtain rfl : i = m := by omega
      go_wp2_with fail
      go_ret
      exact ⟨ov, os, rfl, Hown.out, by rw [Hm.out]; exact Hbare.out, Hterm.out, by rw [Hm.out]; exact Hos.out, hB⟩
end Go.Proofs.YtnfnebfioibndaaGreatDoor
namespace Go.Proofs.YtnfnebfioibndaaGreatDoor
open Go.RowKit
set_option maxRecDepth 10000

abbrev BareD := ByteArray × Int × ByteArray × ByteArray × List TermD
def oneK (bs : List BareD) (x : List TermD) : Bool := x.any fun t => bs.any (bareB t)
theorem oneK_congr {l1 l2 : List BareD} (h : ∀ b, b ∈ l1 ↔ b ∈ l2) : oneK l1 = oneK l2 := by
  funext x
  unfold oneK
  congr 1
  funext t
  rw [Bool.eq_iff_iff, List.any_eq_true, List.any_eq_true]
  exact ⟨fun ⟨b, h1, h2⟩ => ⟨b, (h b).1 h1, h2⟩, fun ⟨b, h1, h2⟩ => ⟨b, (h b).2 h1, h2⟩⟩
theorem oneO_K (os : List OffD) : oneO os = oneK (os.map OffD.bare) := oneO_bare os
theorem oneP_K (ps : List PackD) : oneP ps = oneK (ps.map PackD.bare) := oneP_bare ps

def nameB (k : KnownD) (nm : ByteArray) : Bool := k.pack.name.toList == nm.toList
/-- The others that work. -/
def othersB (ks : List KnownD) (nm : ByteArray) : List BareD := (ks.filter (fun k => worksV k.state && !nameB k nm)).map KnownD.bare
def codeU (p : PackD) (k : KnownD) : Int :=
  if nameB k p.name || decide (k.state ≤ 1) then 0
  else if p.against.any (fun t => packB t k.pack) || k.pack.against.any (fun t => packB t p) then 13
  else if worksV k.state && (p.breaks.any (fun t => packB t k.pack) || k.pack.breaks.any (fun t => packB t p)) then 10
  else 0
def firstU (p : PackD) : List KnownD → Int → Int × Int
  | [], _ => (0, -1)
  | k :: ks, i => if codeU p k = 0 then firstU p ks (i + 1) else (codeU p k, i)
def metU (ks : List KnownD) (p : PackD) : Int × Bool := metR (oneK (othersB ks p.name)) p.ahead
def judgeU (ks : List KnownD) (p : PackD) : Int × Int :=
  if ks.any (fun k => nameB k p.name && k.held) then (6, -1)
  else if (metU ks p).2 then firstU p ks 0 else (7, (metU ks p).1)

def mayK (k : KnownD) : Bool := nextE k.state 3 == 0
/-- Those that work, and those that are about to, of some numbers. -/
def allB (ks : List KnownD) (ws : List Int) : List BareD := (ks.filter (fun k => worksV k.state)).map KnownD.bare ++ (ws.filter (fun (i : Int) => decide (0 ≤ i ∧ i < (ks.length : Int)) && mayK (ks.getD i.toNat KnownD.none))).map (fun (i : Int) => (ks.getD i.toNat KnownD.none).bare)
def metC (ks : List KnownD) (k : KnownD) (ws : List Int) : Int × Bool := metR (oneK (allB ks ws)) k.pack.depends
def judgeC (ks : List KnownD) (which : Int) (ws : List Int) : Int × Int :=
  if which < 0 ∨ (ks.length : Int) ≤ which then (2, -1)
  else if mayK (ks.getD which.toNat KnownD.none) then (if (metC ks (ks.getD which.toNat KnownD.none) ws).2 then (0, -1) else (7, (metC ks (ks.getD which.toNat KnownD.none) ws).1))
  else (6, -1)

theorem firstU_step {p : PackD} {ks : List KnownD} {i : Nat} (h : i < ks.length) (hc : codeU p (ks.getD i KnownD.none) = 0) : firstU p (ks.drop i) i = firstU p (ks.drop (i + 1)) ((i + 1 : Nat) : Int) := by
  rw [List.drop_eq_getElem_cons h, firstU]
  have e : ks.getD i KnownD.none = ks[i] := by simp [List.getD, List.getElem?_eq_getElem h]
  rw [e] at hc
  rw [if_pos hc]
  rfl
theorem firstU_at {p : PackD} {ks : List KnownD} {i : Nat} (h : i < ks.length) (hc : codeU p (ks.getD i KnownD.none) ≠ 0) : firstU p (ks.drop i) i = (codeU p (ks.getD i KnownD.none), (i : Int)) := by
  rw [List.drop_eq_getElem_cons h, firstU]
  have e : ks.getD i KnownD.none = ks[i] := by simp [List.getD, List.getElem?_eq_getElem h]
  rw [e] at hc ⊢
  rw [if_neg hc]
theorem firstU_end {p : PackD} {ks : List KnownD} {i : Nat} (h : ks.length ≤ i) : firstU p (ks.drop i) i = (0, -1) := by
  rw [List.drop_eq_nil_of_le h, firstU]

theorem rangeF_no {α : Type} {p : Nat → Bool} {f : Nat → α} {i : Nat} (h : p i = false) : ((List.range (i + 1)).filter p).map f = ((List.range i).filter p).map f := by
  have : ([i] : List Nat).filter p = [] := by rw [List.filter_cons, h]; rfl
  rw [List.range_succ, List.filter_append, this, List.append_nil]
theorem rangeF_yes {α : Type} {p : Nat → Bool} {f : Nat → α} {i : Nat} (h : p i = true) : ((List.range (i + 1)).filter p).map f = ((List.range i).filter p).map f ++ [f i] := by
  have : ([i] : List Nat).filter p = [i] := by rw [List.filter_cons, h]; rfl
  rw [List.range_succ, List.filter_append, this, List.map_append]
  rfl
def sameL (ks : List KnownD) (nm : ByteArray) (n : Nat) : List Int := ((List.range n).filter (fun (j : Nat) => nameB (ks.getD j KnownD.none) nm)).map (fun (j : Nat) => (j : Int))
theorem sameL_no {ks : List KnownD} {nm : ByteArray} {i : Nat} (h : nameB (ks.getD i KnownD.none) nm = false) : sameL ks nm (i + 1) = sameL ks nm i := rangeF_no h
theorem sameL_yes {ks : List KnownD} {nm : ByteArray} {i : Nat} (h : nameB (ks.getD i KnownD.none) nm = true) : sameL ks nm (i + 1) = sameL ks nm i ++ [(i : Int)] := rangeF_yes h
theorem sameL_any {ks : List KnownD} {nm : ByteArray} {n i : Nat} (h : i < n) : (sameL ks nm n).any (· == (i : Int)) = nameB (ks.getD i KnownD.none) nm := by
  unfold sameL
  rw [List.any_map, Bool.eq_iff_iff, List.any_eq_true]
  constructor
  · rintro ⟨j, hj, he⟩
    have : j = i := by simp only [Function.comp, beq_iff_eq] at he; omega
    subst this
    exact (List.mem_filter.1 hj).2
  · intro h'
    exact ⟨i, List.mem_filter.2 ⟨List.mem_range.2 h, h'⟩, by simp⟩
theorem mem_pairs {ks : List KnownD} {f : KnownD → Bool} {g : Nat → Bool} (h : ∀ i, i < ks.length → g i = f (ks.getD i KnownD.none)) (b : BareD) :
    b ∈ (((List.range ks.length).filter g).map (fun i => (ks.getD i KnownD.none).pack)).map PackD.bare ↔ b ∈ (ks.filter f).map KnownD.bare := by
  simp only [List.mem_map, List.mem_filter, List.mem_range]
  constructor
  · rintro ⟨q, ⟨i, ⟨hi, hg⟩, rfl⟩, rfl⟩
    exact ⟨ks.getD i KnownD.none, ⟨mem_getD _ hi, by rw [← h i hi]; exact hg⟩, rfl⟩
  · rintro ⟨k, ⟨hk, hf⟩, rfl⟩
    obtain ⟨i, hi, rfl⟩ := List.getElem_of_mem hk
    have e : ks.getD i KnownD.none = ks[i] := by simp [List.getD, List.getElem?_eq_getElem hi]
    exact ⟨ks[i].pack, ⟨i, ⟨hi, by rw [h i hi, e]; exact hf⟩, by rw [e]⟩, rfl⟩
/-- What the document's working leaves is what the program's offers leave. -/
theorem others_eq (ks : List KnownD) (nm : ByteArray) : oneP (picksW ks (sameL ks nm ks.length) ks.length) = oneK (othersB ks nm) := by
  rw [oneP_K]
  refine oneK_congr fun b => ?_
  unfold picksW othersB
  refine mem_pairs (fun i hi => ?_) b
  unfold keepsW
  rw [sameL_any hi]

/-- The document's offers of Configure. -/
def allP (ks : List KnownD) (ws : List Int) (n : Nat) : List PackD := picksW ks [] ks.length ++ ((List.range n).filter (fun (i : Nat) => ws.any (· == (i : Int)) && mayK (ks.getD i KnownD.none))).map (fun i => (ks.getD i KnownD.none).pack)
theorem allP_no {ks : List KnownD} {ws : List Int} {i : Nat} (h : (ws.any (· == (i : Int)) && mayK (ks.getD i KnownD.none)) = false) : allP ks ws (i + 1) = allP ks ws i := by
  unfold allP
  rw [rangeF_no h]
theorem allP_yes {ks : List KnownD} {ws : List Int} {i : Nat} (h : (ws.any (· == (i : Int)) && mayK (ks.getD i KnownD.none)) = true) : allP ks ws (i + 1) = allP ks ws i ++ [(ks.getD i KnownD.none).pack] := by
  unfold allP
  rw [rangeF_yes h, List.append_assoc]
theorem all_eq (ks : List KnownD) (ws : List Int) : oneP (allP ks ws ks.length) = oneK (allB ks ws) := by
  rw [oneP_K]
  refine oneK_congr fun b => ?_
  unfold allP allB picksW
  rw [List.map_append, List.mem_append, List.mem_append]
  refine or_congr (mem_pairs (fun i hi => ?_) b) ?_
  · simp [keepsW]
  · simp only [List.mem_map, List.mem_filter, List.mem_range, Bool.and_eq_true, List.any_eq_true, decide_eq_true_eq]
    constructor
    · rintro ⟨q, ⟨i, ⟨hi, ⟨x, hx, he⟩, hm⟩, rfl⟩, rfl⟩
      have : x = (i : Int) := by simpa using he
      subst this
      exact ⟨(i : Int), ⟨hx, ⟨by omega, by omega⟩, by simpa using hm⟩, by simp [KnownD.bare]⟩
    · rintro ⟨x, ⟨hx, ⟨h0, h1⟩, hm⟩, rfl⟩
      exact ⟨_, ⟨x.toNat, ⟨by omega, ⟨x, hx, by simp; omega⟩, hm⟩, rfl⟩, rfl⟩

/-- What known leaves out. -/
def KnownD.strip (k : KnownD) : KnownD := { k with waits := [], tasks := [] }
theorem strip_at (ks : List KnownD) (i : Nat) : (ks.map KnownD.strip).getD i KnownD.none = (ks.getD i KnownD.none).strip := by
  rcases Nat.lt_or_ge i ks.length with h | h
  · simp [List.getD, List.getElem?_eq_getElem h]
  · simp [List.getD, List.getElem?_eq_none h]
    rfl
theorem firstU_strip (p : PackD) (ks : List KnownD) (i : Int) : firstU p (ks.map KnownD.strip) i = firstU p ks i := by
  induction ks generalizing i with
  | nil => rfl
  | cons k ks ih =>
    show (if codeU p k = 0 then firstU p (ks.map KnownD.strip) (i + 1) else (codeU p k, i)) = _
    rw [ih]
    rfl
theorem filter_strip (ks : List KnownD) (f : KnownD → Bool) (hf : ∀ k, f k.strip = f k) : ((ks.map KnownD.strip).filter f).map KnownD.bare = (ks.filter f).map KnownD.bare := by
  rw [List.filter_map, List.map_map, show f ∘ KnownD.strip = f from funext hf]
  rfl
theorem judgeU_strip (ks : List KnownD) (p : PackD) : judgeU (ks.map KnownD.strip) p = judgeU ks p := by
  have e : othersB (ks.map KnownD.strip) p.name = othersB ks p.name := filter_strip ks _ (fun _ => rfl)
  unfold judgeU metU
  rw [e, firstU_strip, List.any_map]
  rfl
theorem judgeC_strip (ks : List KnownD) (which : Int) (ws : List Int) : judgeC (ks.map KnownD.strip) which ws = judgeC ks which ws := by
  have e : allB (ks.map KnownD.strip) ws = allB ks ws := by
    unfold allB
    rw [filter_strip ks _ (fun _ => rfl), List.length_map]
    simp only [strip_at]
    rfl
  unfold judgeC metC
  rw [e, List.length_map, strip_at]
  rfl
end Go.Proofs.YtnfnebfioibndaaGreatDoor
namespace Go.Proofs.YtnfnebfioibndaaGreatDoor
open Go.RowKit
set_option maxRecDepth 100000

theorem held_next {P : World → Prop} {w1 : World} (H : ∀ w', Below w1.heap.size w1 w' → P w') {w' w'' : World} (h : Below w1.heap.size w1 w') (hb : Below w'.heap.size w' w'') : Below w1.heap.size w1 w'' ∧ P w'' :=
  ⟨h.trans (hb.mono h.size), H _ (h.trans (hb.mono h.size))⟩
theorem small_of_flat {ts : List TermD} (h : flatB ts = true) : ∀ t ∈ ts, SmallT t := by
  intro t ht
  unfold flatB at h
  rw [Bool.and_eq_true, List.all_eq_true] at h
  have := h.2 t ht
  unfold termB shortB at this
  simp only [Bool.and_eq_true, decide_eq_true_eq] at this
  exact ⟨by omega, by omega⟩
theorem small_of_terms {ls : List (List TermD)} (h : termsB ls = true) : ∀ l ∈ ls, ∀ t ∈ l, SmallT t := by
  intro l hl
  unfold termsB at h
  rw [Bool.and_eq_true, List.all_eq_true] at h
  exact small_of_flat (h.2 l hl)
structure SmallP (p : PackD) : Prop where
  sm : p.up.size ≤ 1000 ∧ p.rv.size ≤ 1000
  provides : ∀ q ∈ p.provides, SmallT q
  against : ∀ q ∈ p.against, SmallT q
  breaks : ∀ q ∈ p.breaks, SmallT q
  depends : ∀ l ∈ p.depends, ∀ t ∈ l, SmallT t
  ahead : ∀ l ∈ p.ahead, ∀ t ∈ l, SmallT t
theorem smallP_of_says {p : PackD} (h : saysB p = true) : SmallP p := by
  unfold saysB shortB at h
  simp only [Bool.and_eq_true, decide_eq_true_eq] at h
  obtain ⟨_, ⟨h1, h2⟩, hd, ha, hg, hb, _, h3, _⟩ := h
  exact ⟨⟨by omega, by omega⟩, small_of_flat h3, small_of_flat hg, small_of_flat hb, small_of_terms hd, small_of_terms ha⟩
structure FitK (ks : List KnownD) : Prop where
  len : ks.length ≤ 20
  pos : ∀ k ∈ ks, 0 ≤ k.state
  small : ∀ k ∈ ks, SmallP k.pack

theorem refBare_calls (e : Int) (w : World) : Calls Tryz.prog 31 #[.int .i64 e] w fun ev w' => ev = .returned (.agg #[.int .i64 e, .int .i64 (-1)]) ∧ Below w.heap.size w w' := by
  go_enter Tryz.func31, Tryz.ntmps31
  go_wp2
  go_returns
  exact ⟨rfl, by go_grown⟩

/-- The variable Fine. -/
structure FineR (w : World) : Prop where
  lt : 0 < w.heap.size
  c0 : w.cell? ⟨0, 0, none⟩ = some (.int .i64 0)
  c1 : w.cell? ⟨0, 1, none⟩ = some (.int .i64 (-1))
theorem FineR.below {w w' : World} (h : FineR w) {B : Nat} (hb : Below B w w') (hB : w.heap.size ≤ B) : FineR w' :=
  ⟨Nat.lt_of_lt_of_le h.lt hb.size, (hb.cell (p := ⟨0, 0, none⟩) (Nat.lt_of_lt_of_le h.lt hB)).trans h.c0, (hb.cell (p := ⟨0, 1, none⟩) (Nat.lt_of_lt_of_le h.lt hB)).trans h.c1⟩

/-- A result of two numbers, in a variable that nothing was written into. -/
structure ResC (w : World) (b : Nat) : Prop where
  lt : b < w.heap.size
  c : w.heap[b]? = some (.cells #[.int .i64 0, .int .i64 0] 42)
theorem ResC.below {w w' : World} {b : Nat} (h : ResC w b) {B : Nat} (hb : Below B w w') (hB : b < B) : ResC w' b := ⟨Nat.lt_of_lt_of_le h.lt hb.size, (hb.block b hB).trans h.c⟩
theorem ResC.new (w : World) : ResC (w.alloc (.cells #[.int .i64 0, .int .i64 0] 42)) w.heap.size := ⟨by simp, heap_alloc_new w _⟩
theorem ResC.c0 {w : World} {b : Nat} (h : ResC w b) : w.cell? ⟨b, 0, none⟩ = some (.int .i64 0) := by simp [World.cell?, h.c]
theorem ResC.c1 {w : World} {b : Nat} (h : ResC w b) : w.cell? ⟨b, 1, none⟩ = some (.int .i64 0) := by simp [World.cell?, h.c]
theorem ResC.z0 {w : World} {b : Nat} (h : ResC w b) : w.frozen? ⟨b, 0, none⟩ = false := by simp [World.frozen?, h.c]
theorem ResC.z1 {w : World} {b : Nat} (h : ResC w b) : w.frozen? ⟨b, 1, none⟩ = false := by simp [World.frozen?, h.c]
theorem ResC.d0 {w : World} {b : Nat} (h : ResC w b) (x : Value) : (w.setCell ⟨b, 0, none⟩ x).cell? ⟨b, 0, none⟩ = some x := World.cell?_setCell_same' _ _ _ (by rw [h.c0]; rfl)
theorem ResC.d1 {w : World} {b : Nat} (h : ResC w b) (x y : Value) : ((w.setCell ⟨b, 0, none⟩ x).setCell ⟨b, 1, none⟩ y).cell? ⟨b, 1, none⟩ = some y := World.cell?_setCell_same' _ _ _ (by rw [show (w.setCell ⟨b, 0, none⟩ x).cell? ⟨b, 1, none⟩ = w.cell? ⟨b, 1, none⟩ from World.cell?_setCell_other _ _ _ _ (by simp), h.c1]; rfl)

theorem PackCOk.below {w w' : World} {o : PackC} (h : PackCOk w o) {B : Nat} (hb : Below B w w') (hB : w.heap.size ≤ B) : PackCOk w' o := ⟨h.len, h.ok.below hb hB⟩
theorem working_packs {w w' : World} {ks : List KnownD} {but : List Int} {ov : Value} {os : List PackC} (hown : w'.ownsRow w.heap.size 30 13 ov os.length (packsRows os)) (hps : os.map PackC.pack = picksW ks but ks.length) (hok : ∀ o ∈ os, PackCOk w o) (hb : Below w.heap.size w w') : Packs w' ov (picksW ks but ks.length) := by
  rw [← hps]
  exact packs_owned hown (fun o ho => (hok o ho).below hb (Nat.le_refl _))
theorem info_int : (Tryz.prog.info? 3).map (fun i => (i.zero, i.size, i.bytes)) = some (some (.int .i64 0), 1, 8) := by kernel_rfl
theorem ints_owned {w : World} {base : Nat} {e : TypeId} {v : Value} {ns : List Int} (h : w.ownsRow base e 1 v ns.length (ns.map (Value.int .i64))) : Ints w v ns := by
  refine ⟨?_, trivial⟩
  rcases id h.2 with ⟨rfl, h0⟩ | ⟨g, cap, cur, rfl, _, hg, h1, h2, _⟩
  · rw [h0]
    exact Sl.nil _ _ _
  · refine ⟨_, cap, rfl, h1, h2, Or.inr ⟨g, 0, rfl, ?_, fun i j hi hj => ?_⟩⟩
    · rcases Nat.lt_or_ge g w.heap.size with hlt | hge
      · exact hlt
      · rw [Array.getElem?_eq_none hge] at hg; cases hg
    · obtain rfl : j = 0 := by omega
      have := h.cellAt i (by omega)
      rw [Nat.zero_add, Nat.mul_one, Nat.add_zero, this]
      simp [List.getD, List.getElem?_eq_getElem hi]
theorem picks_mem {ks : List KnownD} {but : List Int} {n : Nat} (hn : n ≤ ks.length) {q : PackD} (hq : q ∈ picksW ks but n) : ∃ k ∈ ks, k.pack = q := by
  unfold picksW at hq
  obtain ⟨i, hi, rfl⟩ := List.mem_map.1 hq
  have := List.mem_range.1 (List.mem_filter.1 hi).1
  exact ⟨_, mem_getD _ (by omega), rfl⟩
theorem rangeAt_drop7 {w : World} {b : Nat} {x0 x1 x2 x3 x4 x5 x6 : Value} {vs : List Value} (h : w.rangeAt b 0 (x0 :: x1 :: x2 :: x3 :: x4 :: x5 :: x6 :: vs)) : w.rangeAt b 7 vs :=
  rangeAt_tail (rangeAt_tail (rangeAt_tail (rangeAt_tail (rangeAt_tail (rangeAt_tail (rangeAt_tail h))))))
theorem rangeAt_at7 {w : World} {b o : Nat} {x0 x1 x2 x3 x4 x5 x6 : Value} {vs : List Value} (h : w.rangeAt b o (x0 :: x1 :: x2 :: x3 :: x4 :: x5 :: x6 :: vs)) : w.rangeAt b (o + 7) vs := by
  intro k v hv
  have := h (k + 7) v (by simpa using hv)
  rwa [show o + (k + 7) = o + 7 + k by omega] at this
end Go.Proofs.YtnfnebfioibndaaGreatDoor
