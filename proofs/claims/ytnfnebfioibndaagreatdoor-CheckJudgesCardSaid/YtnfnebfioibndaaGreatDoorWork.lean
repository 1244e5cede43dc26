/- check.offers and stevedoreref.working: who works. -/
import Derived.Test.YtnfnebfioibndaaGreatDoorStruct
import Derived.Laws.AppendOwn
import Derived.Laws.OwnMore
import Derived.Deep.AppendLies
namespace Go.Proofs.YtnfnebfioibndaaGreatDoor
open Go.RowKit
set_option maxRecDepth 100000
set_option maxHeartbeats 4000000

theorem info_offer : (Tryz.prog.info? 73).map (fun i => (i.zero, i.size, i.bytes)) = some (some (.agg #[.string ⟨#[]⟩, .int .i64 0, .string ⟨#[]⟩, .string ⟨#[]⟩, .slice none 0 0]), 5, 80) := by kernel_rfl

/-- What of an offer it is about. -/
def OffD.bare (o : OffD) : ByteArray × Int × ByteArray × ByteArray × List TermD := (o.name, o.ep, o.up, o.rv, o.provides)
def PackD.bare (o : PackD) : ByteArray × Int × ByteArray × ByteArray × List TermD := (o.name, o.ep, o.up, o.rv, o.provides)
def KnownD.bare (k : KnownD) : ByteArray × Int × ByteArray × ByteArray × List TermD := k.pack.bare
def bareB (t : TermD) (o : ByteArray × Int × ByteArray × ByteArray × List TermD) : Bool := meetsB o.1 o.2.1 o.2.2.1 o.2.2.2.1 o.2.2.2.2 t
theorem oneO_bare (os : List OffD) : oneO os = fun x => x.any fun t => (os.map OffD.bare).any (bareB t) := by
  funext x
  unfold oneO
  congr 1
  funext t
  rw [List.any_map]
  rfl
theorem oneP_bare (ps : List PackD) : oneP ps = fun x => x.any fun t => (ps.map PackD.bare).any (bareB t) := by
  funext x
  unfold oneP
  congr 1
  funext t
  rw [List.any_map]
  rfl

def offRow (o : OffD) : List Value := [.string o.name, .int .i64 o.ep, .string o.up, .string o.rv, o.pv]
def rowsOf (os : List OffD) : List Value := os.flatMap offRow
theorem rowsOf_snoc (os : List OffD) (o : OffD) : rowsOf (os ++ [o]) = rowsOf os ++ offRow o := by simp [rowsOf]
theorem rowsOf_len (os : List OffD) : (rowsOf os).length = os.length * 5 := by
  induction os with
  | nil => rfl
  | cons o os ih =>
    have : rowsOf (o :: os) = offRow o ++ rowsOf os := rfl
    rw [this, List.length_append, ih]
    simp [offRow]
    omega
theorem offRow_at (o : OffD) (j : Nat) (hj : j < 5) : (offRow o)[j]? = some (o.row j) := by
  match j, hj with
  | 0, _ => rfl
  | 1, _ => rfl
  | 2, _ => rfl
  | 3, _ => rfl
  | 4, _ => rfl
theorem rowsOf_at (os : List OffD) (i j : Nat) (hi : i < os.length) (hj : j < 5) : (rowsOf os)[i * 5 + j]? = some ((os.getD i default).row j) := by
  induction os generalizing i with
  | nil => simp at hi
  | cons o os ih =>
    have e : rowsOf (o :: os) = offRow o ++ rowsOf os := rfl
    rw [e]
    cases i with
    | zero =>
      rw [List.getElem?_append_left (by simp [offRow]; omega), show 0 * 5 + j = j by omega, offRow_at o j hj]
      rfl
    | succ i =>
      rw [List.getElem?_append_right (by simp [offRow]; omega)]
      have : (i + 1) * 5 + j - (offRow o).length = i * 5 + j := by simp [offRow]; omega
      rw [this, ih i (by simpa using hi)]
      simp [List.getD]
theorem offs_owned {w : World} {base : Nat} {e : TypeId} {v : Value} {os : List OffD} (h : w.ownsRow base e 5 v os.length (rowsOf os)) : Offs w v os := by
  refine ⟨?_, trivial⟩
  rcases id h.2 with ⟨rfl, h0⟩ | ⟨g, cap, cur, rfl, _, hg, h1, h2, _⟩
  · rw [h0]
    exact Sl.nil _ _ _
  · refine ⟨_, cap, rfl, h1, h2, Or.inr ⟨g, 0, rfl, ?_, fun i j hi hj => ?_⟩⟩
    · rcases Nat.lt_or_ge g w.heap.size with hlt | hge
      · exact hlt
      · rw [Array.getElem?_eq_none hge] at hg; cases hg
    · have := h.cellAt (i * 5 + j) (by omega)
      rw [rowsOf_at os i j hi hj] at this
      rw [Nat.zero_add]
      exact this

theorem take_snoc {α : Type} {l : List α} {i : Nat} (d : α) (h : i < l.length) : l.take (i + 1) = l.take i ++ [l.getD i d] := by
  rw [List.take_add_one, List.getElem?_eq_getElem h]
  simp [List.getD, List.getElem?_eq_getElem h]

/-- The offers of those that work: an own row, and what they are. -/
def WorkR (w : World) (ks : List KnownD) (e : Ending) (w' : World) : Prop :=
  ∃ (ov : Value) (os : List OffD), e = .returned ov ∧ w'.ownsRow w.heap.size 73 5 ov os.length (rowsOf os) ∧ os.map OffD.bare = (ks.filter (fun k => worksV k.state)).map KnownD.bare ∧ (∀ o ∈ os, Terms w o.pv o.provides) ∧ os.length ≤ ks.length ∧ Below w.heap.size w w'

theorem offersK_calls (kv : Value) (ks : List KnownD) (w : World) (hK : Knowns w kv ks) (hlen : ks.length ≤ 20) :
    Calls Tryz.prog 25 #[kv, .func (.func 26) #[] #[]] w (WorkR w ks) := by
  obtain ⟨R, ⟨a, cap, rfl, hcap, hmax, hcell⟩, hO⟩ := hK
  unfold maxLen at hmax
  obtain ⟨i0, hi0, hz0, hz1, hz2⟩ := info_parts info_offer
  have Hcell := Lib.hid hcell
  have HO := Lib.hid hO
  obtain ⟨m, hm⟩ : ∃ m, ks.length = m := ⟨_, rfl⟩
  rw [hm] at hcap Hcell HO hlen ⊢
  have Hm := Lib.hid hm
  have Hi0 := Lib.hid (And.intro hi0 (And.intro hz0 (And.intro hz1 hz2)))
  clear hcell hO hm hi0 hz0 hz1 hz2
  go_enter Tryz.func25, Tryz.ntmps25
  go_wp2_with fail
  go_loopg [5, 10] m (fun k v5 v10 wr => ∃ (i : Nat) (ov : Value) (os : List OffD), ov = v5 ∧ v10 = .int .i64 i ∧ i ≤ m ∧ k = m - i ∧ wr.ownsRow w.heap.size 73 5 ov os.length (rowsOf os) ∧ os.map OffD.bare = ((ks.take i).filter (fun k => worksV k.state)).map KnownD.bare ∧ (∀ o ∈ os, Terms w o.pv o.provides) ∧ os.length ≤ i ∧ Below w.heap.size w wr)
  case atStart => exact ⟨0, _, [], rfl, rfl, Nat.zero_le _, rfl, World.ownsRow_nil _ _ _ _, rfl, by simp, Nat.le_refl _, Below.refl _ _⟩
  case round =>
    obtain ⟨i, ov, os, rfl, rfl, hi, hk, hown, hbare, hterm, hos, hB⟩ := hrel
    have Hk := Lib.hid hk
    have Hown := Lib.hid hown
    have Hbare := Lib.hid hbare
    have Hterm := Lib.hid hterm
    have Hos := Lib.hid hos
    clear hk hown hbare hterm hos
    by_cases hlt : i < m
    · obtain ⟨bp, op, rfl, hbp, hcp⟩ := Hcell.out.resolve_left (by omega)
      obtain ⟨q, hq⟩ : ∃ q, ks.getD i KnownD.none = q := ⟨_, rfl⟩
      have hkn := HO.out i hlt
      rw [hq] at hkn
      obtain ⟨s, e, u, r, hd, ws, ts, p⟩ := q
      have hpk := hkn.pack
      obtain ⟨dv, av, gv, bv, rv, pv, sv, lv, fa, fn, fc, e4, e5, e6, e7, e8, e9, e10, e11, e12, hV⟩ := hpk.cells
      obtain ⟨f4, n4, q4, rfl⟩ := hV.depends.slice
      obtain ⟨f5, n5, q5, rfl⟩ := hV.ahead.slice
      obtain ⟨f6, n6, q6, rfl⟩ := hV.against.1.slice
      obtain ⟨f7, n7, q7, rfl⟩ := hV.breaks.1.slice
      obtain ⟨f8, n8, q8, rfl⟩ := hV.replaces.1.slice
      obtain ⟨f9, n9, q9, rfl⟩ := hV.provides.1.slice
      obtain ⟨f10, n10, q10, rfl⟩ := hV.settings.1.slice
      obtain ⟨f11, n11, q11, rfl⟩ := hV.listens.1.slice
      obtain ⟨fw, nw, qw, ew⟩ := hkn.waits.1.slice
      obtain ⟨ft, nt, qt, et⟩ := hkn.tasks.1.slice
      have HV := Lib.hid hV
      have hat : ∀ k, k < 20 → wr.cell? ⟨bp, op + i * 20 + k, none⟩ = some (R i k) := fun k hk => (hB.cell (p := ⟨bp, op + i * 20 + k, none⟩) hbp).trans (hcp i k hlt hk)
      have s0 := hat 0 (by decide)
      have s1 := hat 1 (by decide)
      have s2 := hat 2 (by decide)
      have s3 := hat 3 (by decide)
      have s4 := hat 4 (by decide)
      have s5 := hat 5 (by decide)
      have s6 := hat 6 (by decide)
      have p0 := hat 7 (by decide)
      have p1 := hat 8 (by decide)
      have p2 := hat 9 (by decide)
      have p3 := hat 10 (by decide)
      have p4 := (hat 11 (by decide)).trans (congrArg some e4)
      have p5 := (hat 12 (by decide)).trans (congrArg some e5)
      have p6 := (hat 13 (by decide)).trans (congrArg some e6)
      have p7 := (hat 14 (by decide)).trans (congrArg some e7)
      have p8 := (hat 15 (by decide)).trans (congrArg some e8)
      have p9 := (hat 16 (by decide)).trans (congrArg some e9)
      have p10 := (hat 17 (by decide)).trans (congrArg some e10)
      have p11 := (hat 18 (by decide)).trans (congrArg some e11)
      have p12 := (hat 19 (by decide)).trans (congrArg some e12)
      rw [hkn.state, Nat.add_zero] at s0
      rw [hkn.ep] at s1
      rw [hkn.up] at s2
      rw [hkn.rv] at s3
      rw [hkn.held] at s4
      rw [ew] at s5
      rw [et] at s6
      rw [show R i 7 = _ from hpk.name] at p0
      rw [show R i 8 = _ from hpk.ep] at p1
      rw [show R i 9 = _ from hpk.up] at p2
      rw [show R i 10 = _ from hpk.rv] at p3
      have Hq := Lib.hid hq
      have hsz := hB.size
      obtain ⟨wt, hwt⟩ : ∃ wt : World, wt = wr.alloc (.cells #[.int .i64 s, .int .i64 e, .string u, .string r, .bool hd, .slice fw nw qw, .slice ft nt qt, .string p.name, .int .i64 p.ep, .string p.up, .string p.rv, .slice f4 n4 q4, .slice f5 n5 q5, .slice f6 n6 q6, .slice f7 n7 q7, .slice f8 n8 q8, .slice f9 n9 q9, .slice f10 n10 q10, .slice f11 n11 q11, .slice fa fn fc] 61) := ⟨_, rfl⟩
      have hBt : Below w.heap.size w wt := by rw [hwt]; exact hB.alloc hB.size _
      have hzt : wt.heap.size = wr.heap.size + 1 := by rw [hwt]; simp
      have g0 : wt.cell? ⟨wr.heap.size, 0, none⟩ = some (.int .i64 s) := by rw [hwt, World.cell?_alloc_new]; rfl
      have g7 : wt.cell? ⟨wr.heap.size, 7, none⟩ = some (.string p.name) := by rw [hwt, World.cell?_alloc_new]; rfl
      have g8 : wt.cell? ⟨wr.heap.size, 8, none⟩ = some (.int .i64 p.ep) := by rw [hwt, World.cell?_alloc_new]; rfl
      have g9 : wt.cell? ⟨wr.heap.size, 9, none⟩ = some (.string p.up) := by rw [hwt, World.cell?_alloc_new]; rfl
      have g10 : wt.cell? ⟨wr.heap.size, 10, none⟩ = some (.string p.rv) := by rw [hwt, World.cell?_alloc_new]; rfl
      have g16 : wt.cell? ⟨wr.heap.size, 16, none⟩ = some (.slice f9 n9 q9) := by rw [hwt, World.cell?_alloc_new]; rfl
      have hownt : wt.ownsRow w.heap.size 73 5 ov os.length (rowsOf os) := by rw [hwt]; exact Hown.out.alloc _
      have Hownt := Lib.hid hownt
      have Hwt := Lib.hid hwt
      have Hzt := Lib.hid hzt
      clear hzt
      have HR : Hid (wr.rangeAt bp (op + i * 20) [.int .i64 s, .int .i64 e, .string u, .string r, .bool hd, .slice fw nw qw, .slice ft nt qt, .string p.name, .int .i64 p.ep, .string p.up, .string p.rv, .slice f4 n4 q4, .slice f5 n5 q5, .slice f6 n6 q6, .slice f7 n7 q7, .slice f8 n8 q8, .slice f9 n9 q9, .slice f10 n10 q10, .slice f11 n11 q11, .slice fa fn fc]) := rangeAt_cons s0 (rangeAt_cons s1 (rangeAt_cons s2 (rangeAt_cons s3 (rangeAt_cons s4 (rangeAt_cons s5 (rangeAt_cons s6 (rangeAt_cons p0 (rangeAt_cons p1 (rangeAt_cons p2 (rangeAt_cons p3 (rangeAt_cons p4 (rangeAt_cons p5 (rangeAt_cons p6 (rangeAt_cons p7 (rangeAt_cons p8 (rangeAt_cons p9 (rangeAt_cons p10 (rangeAt_cons p11 (rangeAt_cons p12 (rangeAt_nil _ _ _))))))))))))))))))))
      clear s0 s1 s2 s3 s4 s5 s6 p0 p1 p2 p3 p4 p5 p6 p7 p8 p9 p10 p11 p12
      clear hat hcp e4 e5 e6 e7 e8 e9 e10 e11 e12 ew et hV hpk hkn hq hwt hownt
      go_wp2_with (first
        | (refine wpList_load_mid (by rfl) 61 _ (by rfl) bp (op + i * 20) (by rfl) _ _ HR.out Tryz.underlying61 (by rfl) (by kernel_rfl) ?_)
        | (refine wpList_store_mid (by rfl) 61 _ _ (by rfl) wr.heap.size 0 #[.int .i64 s, .int .i64 e, .string u, .string r, .bool hd, .slice fw nw qw, .slice ft nt qt, .string p.name, .int .i64 p.ep, .string p.up, .string p.rv, .slice f4 n4 q4, .slice f5 n5 q5, .slice f6 n6 q6, .slice f7 n7 q7, .slice f8 n8 q8, .slice f9 n9 q9, .slice f10 n10 q10, .slice f11 n11 q11, .slice fa fn fc] (by rfl) (by rfl) (there_new _ _ _ _ (by rfl)) (by kernel_rfl) (by simp [Value.oneCell']) ?_; rw [setCells_new _ _ _ _ (by rfl)]))
      rw [show wr.alloc (.cells _ _) = wt from Hwt.out.symm]
      refine (works_calls s wt).mono ?_
      rintro e1 w1 ⟨rfl, rfl⟩
      cases hwk : worksV s
      · have HN : Hid (os.map OffD.bare = ((ks.take (i + 1)).filter (fun k => worksV k.state)).map KnownD.bare) := by
          show _ = _
          rw [Hbare.out, take_snoc KnownD.none (by rw [Hm.out]; exact hlt), Hq.out, List.filter_append]
          simp [hwk]
        clear hwk
        go_wp2_with fail
        go_roundg (m - (i + 1))
        case rel => exact ⟨i + 1, _, os, rfl, by go_num, by omega, rfl, Hownt.out, HN.out, Hterm.out, by have := Hos.out; omega, hBt⟩
        case measure => have := Hk.out; omega
      · have HN : Hid ((os ++ [(⟨p.name, p.ep, p.up, p.rv, .slice f9 n9 q9, p.provides⟩ : OffD)]).map OffD.bare = ((ks.take (i + 1)).filter (fun k => worksV k.state)).map KnownD.bare) := by
          show _ = _
          rw [List.map_append, Hbare.out, take_snoc KnownD.none (by rw [Hm.out]; exact hlt), Hq.out, List.filter_append, List.map_append]
          simp [hwk, OffD.bare, KnownD.bare, PackD.bare]
        have HT : Hid (∀ o ∈ os ++ [(⟨p.name, p.ep, p.up, p.rv, .slice f9 n9 q9, p.provides⟩ : OffD)], Terms w o.pv o.provides) := by
          intro o ho
          rcases List.mem_append.1 ho with h | h
          · exact Hterm.out o h
          · rw [List.mem_singleton.1 h]
            exact HV.out.provides
        have hos2 : os.length ≤ i := Hos.out
        have hsz2 : w.heap.size ≤ wt.heap.size := hBt.size
        clear hwk
        go_wp2_with (at_builtin; refine wpList_append_own _ rfl _ _ 70 rfl w.heap.size 73 i0 _ 5 80 Tryz.underlying70 Hi0.out.1 Hi0.out.2.1 Hi0.out.2.2.1 Hi0.out.2.2.2 rfl (by decide) ov os.length (rowsOf os) rfl (Hownt.out.alloc _) ⟨wt.heap.size, 0, none⟩ 1 1 [.string p.name, .int .i64 p.ep, .string p.up, .string p.rv, .slice f9 n9 q9] rfl rfl (World.news_of_block (cs := #[.string p.name, .int .i64 p.ep, .string p.up, .string p.rv, .slice f9 n9 q9]) (t := 73) (fr := (0, 0)) (heap_alloc_new wt _)) (by simp [Value.oneCell']) (by unfold maxLen; omega) (by omega) (by simp; omega) ?_)
        intro v' w' hown1 hgrow _
        have hB1 : Below w.heap.size w w' := (hBt.alloc hBt.size _).grown hgrow (by simp; have := hBt.size; omega) (fun k e => (Hownt.out.lt _ e).1)
        have Hown1 : Hid (w'.ownsRow w.heap.size 73 5 v' (os ++ [(⟨p.name, p.ep, p.up, p.rv, .slice f9 n9 q9, p.provides⟩ : OffD)]).length (rowsOf (os ++ [(⟨p.name, p.ep, p.up, p.rv, .slice f9 n9 q9, p.provides⟩ : OffD)]))) := by
          show World.ownsRow _ _ _ _ _ _ _
          rw [rowsOf_snoc, List.length_append]
          exact hown1
        clear hown1 hgrow g0 g7 g8 g9 g10 g16
        go_wp2_with fail
        go_roundg (m - (i + 1))
        case rel => exact ⟨i + 1, _, _, rfl, by go_num, by omega, rfl, Hown1.out, HN.out, HT.out, by simp; exact hos2, hB1⟩
        case measure => have := Hk.out; omega
    · obtain rfl : i = m := by omega
      go_wp2_with fail
      go_ret
      refine ⟨ov, os, rfl, Hown.out, ?_, Hterm.out, by rw [Hm.out]; exact Hos.out, hB⟩
      have := Hbare.out
      rwa [List.take_of_length_le (by rw [Hm.out]; exact Nat.le_refl _)] at this
end Go.Proofs.YtnfnebfioibndaaGreatDoor
