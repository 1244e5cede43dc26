/- stevedorelaw.known: what is known, for the program, and whether it is short enough. -/
import Derived.Test.YtnfnebfioibndaaGreatDoorM12
namespace Go.Proofs.YtnfnebfioibndaaGreatDoor
open Go.RowKit
set_option maxRecDepth 100000
set_option maxHeartbeats 80000000

theorem info_known : (Tryz.prog.info? 61).map (fun i => (i.zero, i.size, i.bytes)) = some (some (.agg #[.int .i64 0, .int .i64 0, .string ⟨#[]⟩, .string ⟨#[]⟩, .bool false, .slice none 0 0, .slice none 0 0, .string ⟨#[]⟩, .int .i64 0, .string ⟨#[]⟩, .string ⟨#[]⟩, .slice none 0 0, .slice none 0 0, .slice none 0 0, .slice none 0 0, .slice none 0 0, .slice none 0 0, .slice none 0 0, .slice none 0 0, .slice none 0 0]), 20, 376) := by kernel_rfl

/-- May a package that is known be so. -/
def okB (k : KnownD) : Bool := saysB k.pack && (shortB k.up k.rv && (textsB k.waits && (textsB k.tasks && (decide (0 ≤ k.state) && decide (k.state ≤ 7)))))
/-- One of the first of them has this one's name. -/
def twiceB (ks : List KnownD) (i : Nat) : Bool := (ks.take i).any (fun k => nameB k (ks.getD i KnownD.none).pack.name)
def goodB (ks : List KnownD) (i : Nat) : Bool := okB (ks.getD i KnownD.none) && !twiceB ks i
def knownsB (ks : List KnownD) : Bool := decide (ks.length ≤ 20) && (List.range ks.length).all (goodB ks)

theorem all_range_step {p : Nat → Bool} {i : Nat} (h : (List.range i).all p = true) (hp : p i = true) : (List.range (i + 1)).all p = true := by
  rw [List.range_succ, List.all_append, h]
  simp [hp]
theorem all_range_no {p : Nat → Bool} {n i : Nat} (hi : i < n) (hp : p i = false) : (List.range n).all p = false := by
  rw [List.all_eq_false]
  exact ⟨i, List.mem_range.2 hi, by simp [hp]⟩
theorem fit_of_knowns {ks : List KnownD} (h : knownsB ks = true) : FitK (ks.map KnownD.strip) := by
  unfold knownsB at h
  rw [Bool.and_eq_true, List.all_eq_true] at h
  have hk : ∀ k ∈ ks, okB k = true := by
    intro k hk
    obtain ⟨i, hi, rfl⟩ := List.getElem_of_mem hk
    have := h.2 i (List.mem_range.2 hi)
    unfold goodB at this
    rw [Bool.and_eq_true] at this
    have e : ks.getD i KnownD.none = ks[i] := by simp [List.getD, List.getElem?_eq_getElem hi]
    rw [e] at this
    exact this.1
  refine ⟨by rw [List.length_map]; exact of_decide_eq_true h.1, fun k hm => ?_, fun k hm => ?_⟩
  · obtain ⟨k, hm', rfl⟩ := List.mem_map.1 hm
    have := hk k hm'
    unfold okB at this
    simp only [Bool.and_eq_true, decide_eq_true_eq] at this
    exact this.2.2.2.2.1
  · obtain ⟨k, hm', rfl⟩ := List.mem_map.1 hm
    have := hk k hm'
    unfold okB at this
    simp only [Bool.and_eq_true] at this
    exact smallP_of_says this.1
theorem fit_of_knowns' {ks : List KnownD} (h : knownsB ks = true) : FitK ks := by
  have hf := fit_of_knowns h
  exact ⟨by have := hf.len; rwa [List.length_map] at this, fun k hk => hf.pos k.strip (List.mem_map_of_mem hk), fun k hk => hf.small k.strip (List.mem_map_of_mem hk)⟩

/-- A package that is known, with its cells. -/
structure KnC where
  known : KnownD
  cells : List Value
def knRows (os : List KnC) : List Value := os.flatMap KnC.cells
structure KnCOk (w : World) (o : KnC) : Prop where
  len : o.cells.length = 20
  ok : KnownOk w o.known (fun j => o.cells.getD j .nilFunc)
theorem knRows_snoc (os : List KnC) (o : KnC) : knRows (os ++ [o]) = knRows os ++ o.cells := by simp [knRows]
theorem knRows_at (os : List KnC) (h : ∀ o ∈ os, o.cells.length = 20) (i j : Nat) (o : KnC) (hi : os[i]? = some o) (hj : j < 20) : (knRows os)[i * 20 + j]? = some (o.cells.getD j .nilFunc) := by
  induction os generalizing i with
  | nil => simp at hi
  | cons p os ih =>
    have e : knRows (p :: os) = p.cells ++ knRows os := rfl
    have hp : p.cells.length = 20 := h p (List.mem_cons_self ..)
    rw [e]
    cases i with
    | zero =>
      obtain rfl : p = o := by simpa using hi
      rw [List.getElem?_append_left (by omega), show 0 * 20 + j = j by omega]
      simp [List.getD, List.getElem?_eq_getElem (show j < p.cells.length by omega)]
    | succ i =>
      rw [List.getElem?_append_right (by omega), hp, show (i + 1) * 20 + j - 20 = i * 20 + j by omega]
      exact ih (fun x hx => h x (List.mem_cons_of_mem _ hx)) i (by simpa using hi)
theorem kn_owned {w : World} {base : Nat} {e : TypeId} {v : Value} {os : List KnC} (h : w.ownsRow base e 20 v os.length (knRows os)) (hk : ∀ o ∈ os, KnCOk w o) : Knowns w v (os.map KnC.known) := by
  have hl : ∀ o ∈ os, o.cells.length = 20 := fun o ho => (hk o ho).len
  refine ⟨fun i j => (os.getD i ⟨KnownD.none, []⟩).cells.getD j .nilFunc, ?_, ?_⟩
  · rw [List.length_map]
    rcases id h.2 with ⟨rfl, h0⟩ | ⟨g, cap, cur, rfl, _, hg, h1, h2, _⟩
    · rw [h0]
      exact Sl.nil _ _ _
    · refine ⟨_, cap, rfl, h1, h2, Or.inr ⟨g, 0, rfl, ?_, fun i j hi hj => ?_⟩⟩
      · rcases Nat.lt_or_ge g w.heap.size with hlt | hge
        · exact hlt
        · rw [Array.getElem?_eq_none hge] at hg; cases hg
      · have := h.cellAt (i * 20 + j) (by omega)
        rw [knRows_at os hl i j os[i] (List.getElem?_eq_getElem hi) hj] at this
        rw [Nat.zero_add, this]
        simp [List.getD, List.getElem?_eq_getElem hi]
  · intro i hi
    rw [List.length_map] at hi
    have e1 : (os.map KnC.known).getD i KnownD.none = os[i].known := by simp [List.getD, List.getElem?_eq_getElem hi]
    have e2 : os.getD i ⟨KnownD.none, []⟩ = os[i] := by simp [List.getD, List.getElem?_eq_getElem hi]
    rw [e1]
    show KnownOk w os[i].known (fun j => (os.getD i ⟨KnownD.none, []⟩).cells.getD j .nilFunc)
    rw [e2]
    exact (hk _ (List.getElem_mem hi)).ok
theorem KnCOk.below {w w' : World} {o : KnC} (h : KnCOk w o) {B : Nat} (hb : Below B w w') (hB : w.heap.size ≤ B) : KnCOk w' o := ⟨h.len, h.ok.below hb hB⟩
theorem strs_nil (w : World) : Strs w (.slice none 0 0) [] := ⟨Sl.nil _ _ _, by simp⟩
theorem take_snoc_map {ks : List KnownD} {i : Nat} {k : KnownD} (h : i < ks.length) (hk : ks.getD i KnownD.none = k) : (ks.take (i + 1)).map KnownD.strip = (ks.take i).map KnownD.strip ++ [k.strip] := by
  rw [take_snoc KnownD.none h, hk, List.map_append]
  rfl

theorem kn_ok {w : World} {s e : Int} {u r : ByteArray} {hd : Bool} {wl tl : List ByteArray} {kp : PackD} {dv av gv bv rv pv sv lv : Value} {fa : Option Addr} {fn fc : Nat} (h : PackV w kp dv av gv bv rv pv sv lv fa fn fc) (hl : u.size ≤ maxLen ∧ r.size ≤ maxLen) :
    KnCOk w ⟨(⟨s, e, u, r, hd, wl, tl, kp⟩ : KnownD).strip, [.int .i64 s, .int .i64 e, .string u, .string r, .bool hd, .slice none 0 0, .slice none 0 0, .string kp.name, .int .i64 kp.ep, .string kp.up, .string kp.rv, dv, av, gv, bv, rv, pv, sv, lv, .slice fa fn fc]⟩ :=
  ⟨rfl, ⟨rfl, rfl, rfl, rfl, rfl, strs_nil w, strs_nil w, ⟨rfl, rfl, rfl, rfl, h.depends, h.ahead, h.against, h.breaks, h.replaces, h.provides, h.settings, h.listens, h.files, h.lens⟩, hl⟩⟩
theorem ret_known {v : Value} {b : Bool} {ks : List KnownD} (h : knownsB ks = b) : Ending.returned (.tuple #[v, .bool b]) = .returned (.tuple #[v, .bool (knownsB ks)]) := by rw [h]

def KnownsR (w : World) (ks : List KnownD) (e : Ending) (w' : World) : Prop := ∃ v, e = .returned (.tuple #[v, .bool (knownsB ks)]) ∧ (knownsB ks = true → Knowns w' v (ks.map KnownD.strip)) ∧ Below w.heap.size w w'

theorem known_calls (kv : Value) (ks : List KnownD) (w : World) (hK : Knowns w kv ks) :
    Calls Tryz.prog 5 #[kv] w (KnownsR w ks) := by
  obtain ⟨R, ⟨a, cap, rfl, hcap, hmax, hcell⟩, hO⟩ := hK
  unfold maxLen at hmax
  obtain ⟨i0, hi0, hz0', hz1, hz2⟩ := info_parts info_known
  have Hcell := Lib.hid hcell
  have HO := Lib.hid hO
  obtain ⟨m, hm⟩ : ∃ m, ks.length = m := ⟨_, rfl⟩
  rw [hm] at hcap Hcell HO ⊢
  have Hm := Lib.hid hm
  have Hi0 := Lib.hid (And.intro hi0 (And.intro hz0' (And.intro hz1 hz2)))
  clear hcell hO hm hi0 hz0' hz1 hz2
  by_cases h20 : m ≤ 20
  case' neg =>
    have HF : Hid (knownsB ks = false) := by
      show _ = _
      unfold knownsB
      rw [Hm.out, decide_eq_false h20]
      rfl
    have e20 : decide (20 < (m : Int)) = true := decide_eq_true (by omega)
    clear h20
    go_enter Tryz.func5, Tryz.ntmps5
    go_wp2_with fail
    go_ret2
    exact ⟨_, ret_known HF.out, fun h => absurd h (by rw [HF.out]; exact Bool.false_ne_true), Below.refl _ _⟩
  have e20 : decide (20 < (m : Int)) = false := decide_eq_false (by omega)
  go_enter Tryz.func5, Tryz.ntmps5
  go_wp2_with fail
  go_loopg [2, 4] m (fun k v2 v4 wr => ∃ (i : Nat) (ov : Value) (os : List KnC), ov = v2 ∧ v4 = .int .i64 i ∧ i ≤ m ∧ k = m - i ∧ wr.ownsRow w.heap.size 61 20 ov os.length (knRows os) ∧ os.map KnC.known = (ks.take i).map KnownD.strip ∧ (∀ o ∈ os, KnCOk w o) ∧ os.length ≤ i ∧ (List.range i).all (goodB ks) = true ∧ Below w.heap.size w wr)
  case atStart => exact ⟨0, _, [], rfl, rfl, Nat.zero_le _, rfl, World.ownsRow_nil _ _ _ _, by simp, by simp, Nat.le_refl _, rfl, Below.refl _ _⟩
  case round =>
    obtain ⟨i, ov, os, rfl, rfl, hi, hk, hown, hkn0, hok, hos, hall, hB⟩ := hrel
    have Hk := Lib.hid hk
    have Hown := Lib.hid hown
    have Hkn := Lib.hid hkn0
    have Hok := Lib.hid hok
    have Hos := Lib.hid hos
    have Hall := Lib.hid hall
    clear hk hown hkn0 hok hos hall
    by_cases hlt : i < m
    · obtain ⟨bp, op, rfl, hbp, hcp⟩ := Hcell.out.resolve_left (by omega)
      obtain ⟨q, hq⟩ : ∃ q, ks.getD i KnownD.none = q := ⟨_, rfl⟩
      have hkn := HO.out i hlt
      have hmem : ks.getD i KnownD.none ∈ ks := mem_getD _ (by rw [Hm.out]; exact hlt)
      rw [hq] at hkn hmem
      have HR0 : wr.rangeAt bp (op + i * 20) (row20 (R i)) := rangeAt_row20 fun j hj => (hB.cell (p := ⟨bp, op + i * 20 + j, none⟩) hbp).trans (hcp i j hlt hj)
      obtain ⟨s, e, u, r, hd, wl, tl, kp⟩ := q
      obtain ⟨fw, nw, qw, ft, nt, qt, f4, n4, q4, f5, n5, q5, f6, n6, q6, f7, n7, q7, f8, n8, q8, f9, n9, q9, f10, n10, q10, f11, n11, q11, fa, fn, fc, eR, hV, hwl, htl⟩ := hkn.cells
      dsimp only at eR hV hwl htl
      rw [eR] at HR0
      have HR := Lib.hid HR0
      have HV := Lib.hid hV
      have Hq := Lib.hid hq
      have Hmem := Lib.hid hmem
      have hsz := hB.size
      have Hwl := Lib.hid hwl
      have Htl := Lib.hid htl
      have Hlens := Lib.hid hkn.lens
      clear HR0 eR hV hkn hcp hq hmem hwl htl
      obtain ⟨wt, hwt⟩ : ∃ wt : World, wt = wr.alloc (.cells #[.int .i64 s, .int .i64 e, .string u, .string r, .bool hd, .slice fw nw qw, .slice ft nt qt, .string kp.name, .int .i64 kp.ep, .string kp.up, .string kp.rv, .slice f4 n4 q4, .slice f5 n5 q5, .slice f6 n6 q6, .slice f7 n7 q7, .slice f8 n8 q8, .slice f9 n9 q9, .slice f10 n10 q10, .slice f11 n11 q11, .slice fa fn fc] 56) := ⟨_, rfl⟩
      have hBr : Below wr.heap.size wr wt := by rw [hwt]; exact (Below.refl _ _).alloc (Nat.le_refl _) _
      have hBt : Below w.heap.size w wt := by rw [hwt]; exact hB.alloc hB.size _
      have hzt : wt.heap.size = wr.heap.size + 1 := by rw [hwt]; simp
      have hRn : wt.rangeAt wr.heap.size 0 [.int .i64 s, .int .i64 e, .string u, .string r, .bool hd, .slice fw nw qw, .slice ft nt qt, .string kp.name, .int .i64 kp.ep, .string kp.up, .string kp.rv, .slice f4 n4 q4, .slice f5 n5 q5, .slice f6 n6 q6, .slice f7 n7 q7, .slice f8 n8 q8, .slice f9 n9 q9, .slice f10 n10 q10, .slice f11 n11 q11, .slice fa fn fc] := by rw [hwt]; exact rangeAt_new _ _ _
      have HRn := Lib.hid hRn
      have hlt2 : wr.heap.size < wt.heap.size := by omega
      have Hwt := Lib.hid hwt
      have Hzt := Lib.hid hzt
      have hsz2 : w.heap.size ≤ wt.heap.size := hBt.size
      clear hzt hwt hRn hBr
      have HBt := Lib.hid hBt
      have Hownt : Hid (wt.ownsRow w.heap.size 61 20 ov os.length (knRows os)) := by
        show World.ownsRow _ _ _ _ _ _ _
        rw [Hwt.out]
        exact Hown.out.alloc _
      have HBAD : Hid (goodB ks i = false → knownsB ks = false) := by
        intro h
        unfold knownsB
        rw [Hm.out, all_range_no hlt h, Bool.and_false]
      have CS := Lib.hid (says_calls kp (.slice f4 n4 q4) (.slice f5 n5 q5) (.slice f6 n6 q6) (.slice f7 n7 q7) (.slice f8 n8 q8) (.slice f9 n9 q9) (.slice f10 n10 q10) (.slice f11 n11 q11) fa fn fc wt (HV.out.below hBt (Nat.le_refl _)))
      go_wp2_with (first
        | (refine wpList_load_mid (by rfl) 56 _ (by rfl) bp (op + i * 20) (by rfl) _ _ HR.out Tryz.underlying56 (by rfl) (by kernel_rfl) ?_)
        | (refine wpList_store_mid (by rfl) 56 _ _ (by rfl) wr.heap.size 0 #[.int .i64 s, .int .i64 e, .string u, .string r, .bool hd, .slice fw nw qw, .slice ft nt qt, .string kp.name, .int .i64 kp.ep, .string kp.up, .string kp.rv, .slice f4 n4 q4, .slice f5 n5 q5, .slice f6 n6 q6, .slice f7 n7 q7, .slice f8 n8 q8, .slice f9 n9 q9, .slice f10 n10 q10, .slice f11 n11 q11, .slice fa fn fc] (by rfl) (by rfl) (there_new _ _ _ _ (by rfl)) (by kernel_rfl) (by simp [Value.oneCell']) ?_; rw [setCells_new _ _ _ _ (by rfl)]; rw [show wr.alloc (.cells _ _) = wt from Hwt.out.symm])
        | (refine wpList_load_mid (by rfl) 30 _ (by rfl) wr.heap.size 7 (by rfl) _ _ (rangeAt_drop7 HRn.out) Tryz.underlying30 (by rfl) (by kernel_rfl) ?_))
      refine CS.out.mono ?_
      rintro e1 w1 ⟨rfl, hb1⟩
      clear CS hBt hB
      have HB1 : Hid (Below w.heap.size w w1) := HBt.out.trans (hb1.mono hsz2)
      have HR1 : Hid (w1.rangeAt wr.heap.size 0 [.int .i64 s, .int .i64 e, .string u, .string r, .bool hd, .slice fw nw qw, .slice ft nt qt, .string kp.name, .int .i64 kp.ep, .string kp.up, .string kp.rv, .slice f4 n4 q4, .slice f5 n5 q5, .slice f6 n6 q6, .slice f7 n7 q7, .slice f8 n8 q8, .slice f9 n9 q9, .slice f10 n10 q10, .slice f11 n11 q11, .slice fa fn fc]) := rangeAt_below HRn.out hb1 hlt2
      have Hown1 := Lib.hid (owns_below Hownt.out hb1)
      have hlt3 : wr.heap.size < w1.heap.size := Nat.lt_of_lt_of_le hlt2 hb1.size
      clear hb1 Hownt
      cases hs1 : saysB kp
      case' false =>
        have HF : Hid (knownsB ks = false) := by
          refine HBAD.out ?_
          unfold goodB
          rw [Hq.out]
          simp [okB, hs1]
        go_wp2_with fail
        go_ret2
        exact ⟨_, ret_known HF.out, fun h => absurd h (by rw [HF.out]; exact Bool.false_ne_true), HB1.out⟩
      have Hs1 := Lib.hid hs1
      clear hs1
      have g0 : w1.cell? ⟨wr.heap.size, 0, none⟩ = some _ := HR1.out 0 _ rfl
      have g1 : w1.cell? ⟨wr.heap.size, 1, none⟩ = some _ := HR1.out 1 _ rfl
      have g2 : w1.cell? ⟨wr.heap.size, 2, none⟩ = some _ := HR1.out 2 _ rfl
      have g3 : w1.cell? ⟨wr.heap.size, 3, none⟩ = some _ := HR1.out 3 _ rfl
      have g4 : w1.cell? ⟨wr.heap.size, 4, none⟩ = some _ := HR1.out 4 _ rfl
      have g5 : w1.cell? ⟨wr.heap.size, 5, none⟩ = some _ := HR1.out 5 _ rfl
      have g6 : w1.cell? ⟨wr.heap.size, 6, none⟩ = some _ := HR1.out 6 _ rfl
      go_wp2_with fail
      refine (short_calls e u r _ Hlens.out.1 Hlens.out.2).mono ?_
      rintro e2 w2 ⟨rfl, hb2⟩
      rw [show (decide (u.size ≤ 100) && decide (r.size ≤ 100)) = shortB u r from rfl]
      have HB2 : Hid (Below w.heap.size w w2) := HB1.out.trans (hb2.mono HB1.out.size)
      have HR2 : Hid (w2.rangeAt wr.heap.size 0 [.int .i64 s, .int .i64 e, .string u, .string r, .bool hd, .slice fw nw qw, .slice ft nt qt, .string kp.name, .int .i64 kp.ep, .string kp.up, .string kp.rv, .slice f4 n4 q4, .slice f5 n5 q5, .slice f6 n6 q6, .slice f7 n7 q7, .slice f8 n8 q8, .slice f9 n9 q9, .slice f10 n10 q10, .slice f11 n11 q11, .slice fa fn fc]) := rangeAt_below HR1.out hb2 hlt3
      have Hown2 := Lib.hid (owns_below Hown1.out hb2)
      have hlt4 : wr.heap.size < w2.heap.size := Nat.lt_of_lt_of_le hlt3 hb2.size
      clear hb2 g0 g1 g2 g3 g4 g5 g6
      cases hs2 : shortB u r
      case' false =>
        have HF : Hid (knownsB ks = false) := by
          refine HBAD.out ?_
          unfold goodB
          rw [Hq.out]
          simp [okB, hs2]
        go_wp2_with fail
        go_ret2
        exact ⟨_, ret_known HF.out, fun h => absurd h (by rw [HF.out]; exact Bool.false_ne_true), HB2.out⟩
      have Hs2 := Lib.hid hs2
      clear hs2
      have g5 : w2.cell? ⟨wr.heap.size, 5, none⟩ = some _ := HR2.out 5 _ rfl
      go_wp2_with fail
      refine (texts_calls _ wl _ (Hwl.out.below HB2.out (Nat.le_refl _))).mono ?_
      rintro e3 w3 ⟨rfl, hb3⟩
      have HB3 : Hid (Below w.heap.size w w3) := HB2.out.trans (hb3.mono HB2.out.size)
      have HR3 : Hid (w3.rangeAt wr.heap.size 0 [.int .i64 s, .int .i64 e, .string u, .string r, .bool hd, .slice fw nw qw, .slice ft nt qt, .string kp.name, .int .i64 kp.ep, .string kp.up, .string kp.rv, .slice f4 n4 q4, .slice f5 n5 q5, .slice f6 n6 q6, .slice f7 n7 q7, .slice f8 n8 q8, .slice f9 n9 q9, .slice f10 n10 q10, .slice f11 n11 q11, .slice fa fn fc]) := rangeAt_below HR2.out hb3 hlt4
      have Hown3 := Lib.hid (owns_below Hown2.out hb3)
      have hlt5 : wr.heap.size < w3.heap.size := Nat.lt_of_lt_of_le hlt4 hb3.size
      clear hb3 g5
      cases hs3 : textsB wl
      case' false =>
        have HF : Hid (knownsB ks = false) := by
          refine HBAD.out ?_
          unfold goodB
          rw [Hq.out]
          simp [okB, hs3]
        go_wp2_with fail
        go_ret2
        exact ⟨_, ret_known HF.out, fun h => absurd h (by rw [HF.out]; exact Bool.false_ne_true), HB3.out⟩
      have Hs3 := Lib.hid hs3
      clear hs3
      have g6 : w3.cell? ⟨wr.heap.size, 6, none⟩ = some _ := HR3.out 6 _ rfl
      go_wp2_with fail
      refine (texts_calls _ tl _ (Htl.out.below HB3.out (Nat.le_refl _))).mono ?_
      rintro e4 w4 ⟨rfl, hb4⟩
      have HB4 : Hid (Below w.heap.size w w4) := HB3.out.trans (hb4.mono HB3.out.size)
      have HR4 : Hid (w4.rangeAt wr.heap.size 0 [.int .i64 s, .int .i64 e, .string u, .string r, .bool hd, .slice fw nw qw, .slice ft nt qt, .string kp.name, .int .i64 kp.ep, .string kp.up, .string kp.rv, .slice f4 n4 q4, .slice f5 n5 q5, .slice f6 n6 q6, .slice f7 n7 q7, .slice f8 n8 q8, .slice f9 n9 q9, .slice f10 n10 q10, .slice f11 n11 q11, .slice fa fn fc]) := rangeAt_below HR3.out hb4 hlt5
      have Hown4 := Lib.hid (owns_below Hown3.out hb4)
      have hlt6 : wr.heap.size < w4.heap.size := Nat.lt_of_lt_of_le hlt5 hb4.size
      clear hb4 g6
      have g0 : w4.cell? ⟨wr.heap.size, 0, none⟩ = some _ := HR4.out 0 _ rfl
      cases hs4 : textsB tl
      case' false =>
        have HF : Hid (knownsB ks = false) := by
          refine HBAD.out ?_
          unfold goodB
          rw [Hq.out]
          simp [okB, hs4]
        go_wp2_with fail
        go_ret2
        exact ⟨_, ret_known HF.out, fun h => absurd h (by rw [HF.out]; exact Bool.false_ne_true), HB4.out⟩
      have Hs4 := Lib.hid hs4
      clear hs4
      by_cases h0 : s < 0
      case' pos =>
        have e0 : decide (s < 0) = true := decide_eq_true h0
        have HF : Hid (knownsB ks = false) := by
          refine HBAD.out ?_
          unfold goodB
          rw [Hq.out]
          have : decide (0 ≤ s) = false := decide_eq_false (by omega)
          simp only [okB, this, Bool.and_false, Bool.false_and]
        clear h0
        go_wp2_with fail
        go_ret2
        exact ⟨_, ret_known HF.out, fun h => absurd h (by rw [HF.out]; exact Bool.false_ne_true), HB4.out⟩
      have e0 : decide (s < 0) = false := decide_eq_false h0
      by_cases h7 : 7 < s
      case' pos =>
        have e7 : decide (7 < s) = true := decide_eq_true h7
        have HF : Hid (knownsB ks = false) := by
          refine HBAD.out ?_
          unfold goodB
          rw [Hq.out]
          have : decide (s ≤ 7) = false := decide_eq_false (by omega)
          simp only [okB, this, Bool.and_false, Bool.false_and]
        clear h0 h7
        go_wp2_with fail
        go_ret2
        exact ⟨_, ret_known HF.out, fun h => absurd h (by rw [HF.out]; exact Bool.false_ne_true), HB4.out⟩
      have e7 : decide (7 < s) = false := decide_eq_false h7
      have HOKB : Hid (okB ⟨s, e, u, r, hd, wl, tl, kp⟩ = true) := by
        show _ = _
        unfold okB
        rw [Hs1.out, Hs2.out, Hs3.out, Hs4.out, decide_eq_true (show 0 ≤ s by omega), decide_eq_true (show s ≤ 7 by omega)]
        rfl
      clear h0 h7
      obtain ⟨wm, rfl⟩ : ∃ wm : World, wm = w4 := ⟨_, rfl⟩
      have HTW : Hid (twiceB ks i = (ks.take i).any (fun k => nameB k kp.name)) := by
        show _ = _
        unfold twiceB
        rw [Hq.out]
      obtain ⟨wn, hwn⟩ : ∃ wn : World, wn = wr := ⟨_, rfl⟩
      rw [← hwn] at HR4 hlt6
      have Hwn := Lib.hid hwn
      clear hwn
      go_wp2_with fail
      rw [← Hwn.out]
      go_loopg [2, 6] i (fun k v2 v6 wr => ∃ j : Nat, ov = v2 ∧ v6 = .int .i64 j ∧ j ≤ i ∧ k = i - j ∧ (ks.take j).any (fun k => nameB k kp.name) = false ∧ Below wm.heap.size wm wr)
      case atStart => exact ⟨0, rfl, rfl, Nat.zero_le _, rfl, rfl, Below.refl _ _⟩
      case round =>
        obtain ⟨j, rfl, rfl, hj, hk2, htw, hB⟩ := hrel
        have Hk2 := Lib.hid hk2
        have Htw := Lib.hid htw
        have hBw := HB4.out.trans (hB.mono HB4.out.size)
        have HRr : Hid (wr.rangeAt wn.heap.size 0 [.int .i64 s, .int .i64 e, .string u, .string r, .bool hd, .slice fw nw qw, .slice ft nt qt, .string kp.name, .int .i64 kp.ep, .string kp.up, .string kp.rv, .slice f4 n4 q4, .slice f5 n5 q5, .slice f6 n6 q6, .slice f7 n7 q7, .slice f8 n8 q8, .slice f9 n9 q9, .slice f10 n10 q10, .slice f11 n11 q11, .slice fa fn fc]) := rangeAt_below HR4.out hB hlt6
        clear hk2 htw
        by_cases hjl : j < i
        · obtain ⟨bp', op', hap, hbp', hcp'⟩ := Hcell.out.resolve_left (by omega)
          obtain ⟨rfl, rfl⟩ : bp' = bp ∧ op' = op := by simpa using hap.symm
          obtain ⟨kj, hkj⟩ : ∃ kj, ks.getD j KnownD.none = kj := ⟨_, rfl⟩
          have hnj := (HO.out j (by omega)).pack.name
          rw [hkj] at hnj
          have c7 : wr.cell? ⟨bp', op' + j * 20 + 7, none⟩ = some (.string kj.pack.name) := (hBw.cell (p := ⟨bp', op' + j * 20 + 7, none⟩) hbp').trans ((hcp' j 7 (by omega) (by decide)).trans (congrArg some hnj))
          have g7 : wr.cell? ⟨wn.heap.size, 7, none⟩ = some (.string kp.name) := HRr.out 7 _ rfl
          have hjm : j < m := by omega
          have HTJ : Hid ((ks.take (j + 1)).any (fun k => nameB k kp.name) = (kj.pack.name.toList == kp.name.toList)) := by
            show _ = _
            rw [take_snoc KnownD.none (by rw [Hm.out]; exact hjm), hkj, List.any_append, Htw.out]
            simp [nameB]
          have HMJ : Hid (kj ∈ ks.take i) := by
            show kj ∈ _
            rw [← hkj]
            have e : (ks.take i).getD j KnownD.none = ks.getD j KnownD.none := by simp [List.getD, hjl]
            rw [← e]
            exact mem_getD _ (by rw [List.length_take, Hm.out]; omega)
          clear hcp' hnj hkj hap
          cases hnm : (kj.pack.name.toList == kp.name.toList)
          · have HT2 : Hid ((ks.take (j + 1)).any (fun k => nameB k kp.name) = false) := HTJ.out.trans hnm
            go_wp2_with fail
            go_quiet (fail)
            go_wp2_with fail
            go_roundg (i - (j + 1))
            case rel => exact ⟨j + 1, rfl, by go_num, by omega, rfl, HT2.out, below_drewN hB _⟩
            case measure => have := Hk2.out; omega
          · have HF : Hid (knownsB ks = false) := by
              refine HBAD.out ?_
              unfold goodB
              have : twiceB ks i = true := by
                rw [HTW.out, List.any_eq_true]
                exact ⟨kj, HMJ.out, hnm⟩
              rw [this]
              simp
            go_wp2_with fail
            go_quiet (fail)
            go_wp2_with fail
            go_ret2
            exact ⟨_, ret_known HF.out, fun h => absurd h (by rw [HF.out]; exact Bool.false_ne_true), below_drewN hBw _⟩
        · obtain rfl : i = j := by omega
          have HGood : Hid ((List.range (i + 1)).all (goodB ks) = true) := by
            refine all_range_step Hall.out ?_
            unfold goodB
            rw [Hq.out, HOKB.out, HTW.out, Htw.out]
            rfl
          have HKN : Hid ((os ++ [(⟨(⟨s, e, u, r, hd, wl, tl, kp⟩ : KnownD).strip, [.int .i64 s, .int .i64 e, .string u, .string r, .bool hd, .slice none 0 0, .slice none 0 0, .string kp.name, .int .i64 kp.ep, .string kp.up, .string kp.rv, .slice f4 n4 q4, .slice f5 n5 q5, .slice f6 n6 q6, .slice f7 n7 q7, .slice f8 n8 q8, .slice f9 n9 q9, .slice f10 n10 q10, .slice f11 n11 q11, .slice fa fn fc]⟩ : KnC)]).map KnC.known = (ks.take (i + 1)).map KnownD.strip) := by
            show _ = _
            rw [take_snoc_map (by rw [Hm.out]; exact hlt) Hq.out, List.map_append, Hkn.out]
            rfl
          have HOK : Hid (∀ o ∈ os ++ [(⟨(⟨s, e, u, r, hd, wl, tl, kp⟩ : KnownD).strip, [.int .i64 s, .int .i64 e, .string u, .string r, .bool hd, .slice none 0 0, .slice none 0 0, .string kp.name, .int .i64 kp.ep, .string kp.up, .string kp.rv, .slice f4 n4 q4, .slice f5 n5 q5, .slice f6 n6 q6, .slice f7 n7 q7, .slice f8 n8 q8, .slice f9 n9 q9, .slice f10 n10 q10, .slice f11 n11 q11, .slice fa fn fc]⟩ : KnC)], KnCOk w o) := by
            intro o ho
            rcases List.mem_append.1 ho with h | h
            · exact Hok.out o h
            · rw [List.mem_singleton.1 h]
              exact kn_ok HV.out Hlens.out
          have hos2 : os.length ≤ i := Hos.out
          have Hownr := Lib.hid (owns_below Hown4.out hB)
          have hszr : w.heap.size ≤ wr.heap.size := hBw.size
          have g0 : wr.cell? ⟨wn.heap.size, 0, none⟩ = some _ := HRr.out 0 _ rfl
          have g1 : wr.cell? ⟨wn.heap.size, 1, none⟩ = some _ := HRr.out 1 _ rfl
          have g2 : wr.cell? ⟨wn.heap.size, 2, none⟩ = some _ := HRr.out 2 _ rfl
          have g3 : wr.cell? ⟨wn.heap.size, 3, none⟩ = some _ := HRr.out 3 _ rfl
          have g4 : wr.cell? ⟨wn.heap.size, 4, none⟩ = some _ := HRr.out 4 _ rfl
          go_wp2_with (first
            | (refine wpList_load_mid (by rfl) 30 _ (by rfl) wn.heap.size 7 (by rfl) _ _ (rangeAt_drop7 HRr.out) Tryz.underlying30 (by rfl) (by kernel_rfl) ?_)
            | (refine wpList_store_mid (by rfl) 61 _ _ (by rfl) wr.heap.size 0 #[.int .i64 s, .int .i64 e, .string u, .string r, .bool hd, .slice none 0 0, .slice none 0 0, .string kp.name, .int .i64 kp.ep, .string kp.up, .string kp.rv, .slice f4 n4 q4, .slice f5 n5 q5, .slice f6 n6 q6, .slice f7 n7 q7, .slice f8 n8 q8, .slice f9 n9 q9, .slice f10 n10 q10, .slice f11 n11 q11, .slice fa fn fc] (by rfl) (by rfl) (there_new _ _ _ _ (by rfl)) (by kernel_rfl) (by simp [Value.oneCell']) ?_; rw [setCells_new _ _ _ _ (by rfl)])
            | (at_builtin; refine wpList_append_own _ rfl _ _ 32 rfl w.heap.size 61 i0 _ 20 376 Tryz.underlying32 Hi0.out.1 Hi0.out.2.1 Hi0.out.2.2.1 Hi0.out.2.2.2 rfl (by decide) ov os.length (knRows os) rfl (Hownr.out.alloc _) ⟨wr.heap.size, 0, none⟩ 1 1 [.int .i64 s, .int .i64 e, .string u, .string r, .bool hd, .slice none 0 0, .slice none 0 0, .string kp.name, .int .i64 kp.ep, .string kp.up, .string kp.rv, .slice f4 n4 q4, .slice f5 n5 q5, .slice f6 n6 q6, .slice f7 n7 q7, .slice f8 n8 q8, .slice f9 n9 q9, .slice f10 n10 q10, .slice f11 n11 q11, .slice fa fn fc] rfl rfl (World.news_of_block (cs := #[.int .i64 s, .int .i64 e, .string u, .string r, .bool hd, .slice none 0 0, .slice none 0 0, .string kp.name, .int .i64 kp.ep, .string kp.up, .string kp.rv, .slice f4 n4 q4, .slice f5 n5 q5, .slice f6 n6 q6, .slice f7 n7 q7, .slice f8 n8 q8, .slice f9 n9 q9, .slice f10 n10 q10, .slice f11 n11 q11, .slice fa fn fc]) (t := 61) (fr := (0, 0)) (heap_alloc_new wr _)) (by simp [Value.oneCell']) (by unfold maxLen; omega) (by omega) (by simp; omega) ?_))
          intro v' w' hown1 hgrow _
          have hB1 : Below w.heap.size w w' := (hBw.alloc hBw.size _).grown hgrow (by simp; have := hBw.size; omega) (fun k e => (Hownr.out.lt _ e).1)
          have HownN : Hid (w'.ownsRow w.heap.size 61 20 v' (os ++ [(⟨(⟨s, e, u, r, hd, wl, tl, kp⟩ : KnownD).strip, [.int .i64 s, .int .i64 e, .string u, .string r, .bool hd, .slice none 0 0, .slice none 0 0, .string kp.name, .int .i64 kp.ep, .string kp.up, .string kp.rv, .slice f4 n4 q4, .slice f5 n5 q5, .slice f6 n6 q6, .slice f7 n7 q7, .slice f8 n8 q8, .slice f9 n9 q9, .slice f10 n10 q10, .slice f11 n11 q11, .slice fa fn fc]⟩ : KnC)]).length (knRows (os ++ [(⟨(⟨s, e, u, r, hd, wl, tl, kp⟩ : KnownD).strip, [.int .i64 s, .int .i64 e, .string u, .string r, .bool hd, .slice none 0 0, .slice none 0 0, .string kp.name, .int .i64 kp.ep, .string kp.up, .string kp.rv, .slice f4 n4 q4, .slice f5 n5 q5, .slice f6 n6 q6, .slice f7 n7 q7, .slice f8 n8 q8, .slice f9 n9 q9, .slice f10 n10 q10, .slice f11 n11 q11, .slice fa fn fc]⟩ : KnC)]))) := by
            show World.ownsRow _ _ _ _ _ _ _
            rw [knRows_snoc, List.length_append]
            exact hown1
          clear hown1 hgrow g0 g1 g2 g3 g4
          go_wp2_with fail
          go_roundg (m - (i + 1))
          case rel => exact ⟨i + 1, _, _, rfl, by go_num, by omega, rfl, HownN.out, HKN.out, HOK.out, by simp; omega, HGood.out, hB1⟩
          case measure => have := Hk.out; omega
    · obtain rfl : m = i := by omega
      have HT : Hid (knownsB ks = true) := by
        show _ = _
        unfold knownsB
        rw [Hm.out, decide_eq_true h20, Hall.out]
        rfl
      have HK : Hid (Knowns wr ov (ks.map KnownD.strip)) := by
        have := kn_owned Hown.out (fun o ho => (Hok.out o ho).below hB (Nat.le_refl _))
        rw [Hkn.out, List.take_of_length_le (by rw [Hm.out]; exact Nat.le_refl _)] at this
        exact this
      go_wp2_with fail
      go_ret2
      exact ⟨_, ret_known HT.out, fun _ => HK.out, hB⟩
end Go.Proofs.YtnfnebfioibndaaGreatDoor
