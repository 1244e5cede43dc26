/- (*order.walker).visit: what it leaves. -/
import Derived.Test.YtnfnebfioibndaaGreatDoorM15
import Derived.Test.YtnfnebfioibndaaGreatDoorM03
import Derived.Test.YtnfnebfioibndaaGreatDoorChecked
import Derived.LoopTactic
import Derived.Deep.LoopGhost
import Derived.Deep.CutBlock
import Derived.Deep.DeepCutAuto
import Derived.BigRegion
import Derived.Maps.AppendAt
import Derived.Sort.OwnSortedInts
import Derived.Handy
import Derived.Deep.QuietTactic
import Derived.BigQuiet
import Derived.Deep.AppendLies
import Derived.Deep.MidRow
namespace Go.Proofs.YtnfnebfioibndaaGreatDoor
open Go.RowKit
set_option maxRecDepth 100000
set_option maxHeartbeats 4000000

def unvis (n : Nat) (s : St) : Nat := ((List.range n).filter (fun u => s.at_ u == 0)).length
structure Num (n : Nat) (s : St) : Prop where
  a : unvis n s + s.cnt ≤ n
  b : s.opn.length + s.sets.length ≤ s.cnt
def EdgeOf (n : Nat) (adj : Nat → List Nat) (a b : Nat) : Prop := a < n ∧ b ∈ adj a

theorem unvis_upd {n : Nat} {s t : St} (h : ∀ u, s.at_ u ≠ 0 → t.at_ u ≠ 0) : unvis n t ≤ unvis n s := by
  refine filter_le fun u _ hu => ?_
  simp only [beq_iff_eq] at hu ⊢
  exact Classical.byContradiction fun hn => h u hn hu
theorem unvis_lt {n : Nat} {s t : St} (h : ∀ u, s.at_ u ≠ 0 → t.at_ u ≠ 0) {v : Nat} (hv : v < n) (h0 : s.at_ v = 0) (h1 : t.at_ v ≠ 0) : unvis n t < unvis n s := by
  refine filter_lt (y := v) (fun u _ hu => ?_) (List.mem_range.2 hv) (by simp [h0]) (by simp [h1])
  simp only [beq_iff_eq] at hu ⊢
  exact Classical.byContradiction fun hn => h u hn hu

def VisitR (base B A L n : Nat) (adj : Nat → List Nat) (outv : Value) (rows : Nat → Value) (w : World) (G : List Nat) (s : St) (v : Nat) (e : Ending) (w' : World) : Prop :=
  ∃ (t : St) (ov qv : Value) (qs : List Value) (seg : List Nat), e = .returned (.tuple #[]) ∧ Wk base B A L n adj outv rows w' t ov qv qs ∧ Visited n (EdgeOf n adj) G s v seg t ∧ Num n t ∧ Below base w w'

theorem drewN_below {B : Nat} {a w : World} (h : Below B a w) (n : Nat) : Below B a (w.drewN n) := h.trans ⟨rfl, rfl, rfl, Nat.le_refl _, fun _ _ => rfl⟩
theorem mem_getD' {α : Type} {l : List α} {i : Nat} (d : α) (hi : i < l.length) : l.getD i d ∈ l := by
  simp only [List.getD, List.getElem?_eq_getElem hi, Option.getD_some]
  exact List.getElem_mem hi
theorem take_snoc' {α : Type} {l : List α} {i : Nat} (d : α) (h : i < l.length) : l.take (i + 1) = l.take i ++ [l.getD i d] := by
  rw [List.take_add_one, List.getElem?_eq_getElem h]
  simp [List.getD, List.getElem?_eq_getElem h]
theorem info_int2 : (Tryz.prog.info? 3).map (fun i => (i.zero, i.size, i.bytes)) = some (some (.int .i64 0), 1, 8) := by kernel_rfl
theorem info_ints : (Tryz.prog.info? 31).map (fun i => (i.zero, i.size, i.bytes)) = some (some (.slice none 0 0), 1, 24) := by kernel_rfl

theorem visit_calls (base B A L n : Nat) (adj : Nat → List Nat) (outv : Value) (rows : Nat → Value) (hn : n ≤ 40) (hadj : ∀ a, a < n → ∀ u ∈ adj a, u < n) :
    ∀ (m : Nat) (G : List Nat) (s : St) (v : Nat) (ov qv : Value) (qs : List Value) (w : World), unvis n s ≤ m → Wk base B A L n adj outv rows w s ov qv qs → Scc n (EdgeOf n adj) G s → Num n s → v < n → s.at_ v = 0 → (∀ g ∈ G, Rch (EdgeOf n adj) g v) →
      Calls Tryz.prog 95 #[.pointer (some ⟨B, 0, none⟩), .int .i64 ((v : Nat) : Int)] w (VisitR base B A L n adj outv rows w G s v) := by
  intro m
  induction m with
  | zero =>
    intro G s v ov qv qs w hm _ _ _ hv h0 _
    have := unvis_lt (n := n) (s := s) (t := ⟨upd s.at_ v 1, s.low, s.opn, 1, s.sets⟩) (fun u hu => by show upd s.at_ v 1 u ≠ 0; rw [upd_ne _ _ (fun e => hu (by rw [e]; exact h0))]; exact hu) hv h0 (by show upd s.at_ v 1 v ≠ 0; rw [upd_same]; omega)
    omega
  | succ m IH =>
    intro G s v ov qv qs w hm hW hS hN hv h0 hG
    have hIH := Lib.hid IH
    obtain ⟨c0, c1, c2, c3, c4, c5⟩ := hW.cell
    obtain ⟨f4, -, -⟩ := hW.free 4
    have hcnt : s.cnt < n := by have := hN.a; have : 0 < unvis n s := by (have := unvis_lt (n := n) (s := s) (t := ⟨upd s.at_ v 1, s.low, s.opn, 1, s.sets⟩) (fun u hu => by show upd s.at_ v 1 u ≠ 0; rw [upd_ne _ _ (fun e => hu (by rw [e]; exact h0))]; exact hu) hv h0 (by show upd s.at_ v 1 v ≠ 0; rw [upd_same]; omega)); omega
                                omega
    obtain ⟨lB, lA, lL⟩ := hW.lt
    obtain ⟨k, hk⟩ : ∃ k : Nat, k = s.cnt + 1 := ⟨_, rfl⟩
    have eN : ((s.cnt : Nat) : Int) + 1 = ((k : Nat) : Int) := by omega
    have Hk := Lib.hid hk
    have EN := Lib.hid eN
    obtain ⟨w1, hw1⟩ : ∃ w1 : World, w1 = w.setCell ⟨B, 4, none⟩ (.int .i64 ((k : Nat) : Int)) := ⟨_, rfl⟩
    have hW1 := hW.setCnt k
    rw [← hw1] at hW1
    have HW1 := Lib.hid hW1
    have HS := Lib.hid hS
    have HN := Lib.hid hN
    have HG := Lib.hid hG
    have Hadj := Lib.hid hadj
    have Hw1 := Lib.hid hw1
    have ge := Lib.hid hW.ge
    clear IH hadj hW1 hw1 hW hS hN hG c5 hk eN
    go_enter Tryz.func95, Tryz.ntmps95
    go_upto_region 1 with fail
    rw [EN.out]
    rw [← Hw1.out]
    clear c0 c1 c2 c3 c4 f4
    have hcl := HW1.out.cell
    have d1 : w1.cell? ⟨B, 1, none⟩ = some (.slice (some ⟨A, 0, none⟩) n n) := hcl.2.1
    have d2 : w1.cell? ⟨B, 2, none⟩ = some (.slice (some ⟨L, 0, none⟩) n n) := hcl.2.2.1
    have d4 : w1.cell? ⟨B, 4, none⟩ = some (.int .i64 ((k : Nat) : Int)) := hcl.2.2.2.2.1
    have ca : w1.cell? ⟨A, v, none⟩ = some (.int .i64 ((s.at_ v : Nat) : Int)) := HW1.out.at_ hv
    have cl : w1.cell? ⟨L, v, none⟩ = some (.int .i64 ((s.low v : Nat) : Int)) := HW1.out.low hv
    obtain ⟨-, fa, fl⟩ := HW1.out.free v
    obtain ⟨n1, n2, n3⟩ := HW1.out.ne
    obtain ⟨lB1, lA1, lL1⟩ := HW1.out.lt
    clear hcl
    go_cut [1] (fun v1 wx => v1 = .int .i64 ((v : Nat) : Int) ∧ Wk base B A L n adj outv rows wx ⟨upd s.at_ v k, upd s.low v k, s.opn, k, s.sets⟩ ov qv qs ∧ Below base w wx)
    case first =>
      go_region
      go_wp2_with fail
      go_meet
      refine ⟨rfl, ((HW1.out.setAt v k).setLow v k).of_heap rfl, ?_⟩
      have b0 : Below base w w1 := by rw [Hw1.out]; exact (Below.refl _ _).setCell ge.out.1 _
      exact ((b0.setCell ge.out.2.1 _).setCell ge.out.2.2 _).drew
    case rest =>
      clear d1 d2 d4 ca cl fa fl lB1 lA1 lL1
      obtain ⟨rfl, hWc, hBc⟩ := hcut
      have HWc := Lib.hid hWc
      have hMid := MidV.start HS.out hv h0 HG.out
      rw [← Hk.out] at hMid
      have HMid := Lib.hid hMid
      have hcl := hWc.cell
      have d3 : wc.cell? ⟨B, 3, none⟩ = some ov := hcl.2.2.2.1
      have zB : wc.frozen? ⟨B, 3, none⟩ = false := (hWc.free 3).1
      have lB2 := hWc.lt.1
      have hop : s.opn.length ≤ 40 := by have := HN.out.a; have := HN.out.b; omega
      have hbase : base ≤ wc.heap.size := by have := ge.out.1; omega
      obtain ⟨i0, hi0, hz0', hz1, hz2⟩ := info_parts info_int2
      have Hi0 := Lib.hid (And.intro hi0 (And.intro hz0' (And.intro hz1 hz2)))
      have HBc := Lib.hid hBc
      clear hMid hcl hWc hi0 hz0' hz1 hz2 hBc
      go_wp2_with (at_builtin; refine wpList_append_own_at _ rfl _ _ 31 rfl base 3 i0 _ 1 8 Tryz.underlying31 Hi0.out.1 Hi0.out.2.1 Hi0.out.2.2.1 Hi0.out.2.2.2 rfl (by decide) ov s.opn.length (natRow s.opn) rfl ((HWc.out.alloc _).opn) ⟨wc.heap.size, 0, none⟩ 1 1 [.int .i64 ((v : Nat) : Int)] rfl rfl (World.news_of_block (cs := #[.int .i64 ((v : Nat) : Int)]) (t := 3) (fr := (0, 0)) (heap_alloc_new wc _)) (by simp [Value.oneCell']) (by unfold maxLen; omega) (by omega) (by simp; omega) ?_)
      intro ov1 w2 hown2 hg2 _ hat2
      obtain ⟨g1, q1, rfl⟩ : ∃ g c, ov1 = .slice (some ⟨g, 0, none⟩) (s.opn.length + 1) c := by
        rcases hown2.2 with ⟨_, h'⟩ | ⟨g, cap, cur, e, _⟩
        · omega
        · exact ⟨g, cap, e⟩
      have hWa := HWc.out.alloc (.cells #[.int .i64 ((v : Nat) : Int)] 3)
      have hW3 := hWa.pushOpen (u := v) hg2 hown2 (by simpa using hat2)
      have z2 : w2.frozen? ⟨B, 3, none⟩ = false := by
        have hne : ov.ownBlock ≠ some B := fun e => (hWa.apO B e).1 rfl
        have e := hg2.block B hWa.lt.1 (Ne.symm hne)
        rw [World.frozen?_of_block (a := ⟨B, 3, none⟩) e]
        exact (hWa.free 3).1
      have y2 : (w2.cell? ⟨B, 3, none⟩) = some ov := by
        have hne : ov.ownBlock ≠ some B := fun e => (hWa.apO B e).1 rfl
        have e := hg2.block B hWa.lt.1 (Ne.symm hne)
        rw [World.cell?_of_block (a := ⟨B, 3, none⟩) e]
        exact hWa.cell.2.2.2.1
      have hb2 : Below base w w2 := (HBc.out.alloc hbase _).grown hg2 (by simp; omega) (fun k e => (hWa.opn.lt k e).1)
      have hb3 : Below base w (w2.setCell ⟨B, 3, none⟩ (.slice (some ⟨g1, 0, none⟩) (s.opn.length + 1) q1)) := hb2.setCell ge.out.1 _
      have hl2 : B < w2.heap.size := by have := hW3.lt.1; simpa [World.setCell] using this
      have HW3 := Lib.hid hW3
      have HB3 := Lib.hid hb3
      clear hown2 hg2 hat2 hWa hW3 hb2 hb3 d3 zB lB2
      obtain ⟨w3, hw3⟩ : ∃ w3 : World, w3 = w2.setCell ⟨B, 3, none⟩ (.slice (some ⟨g1, 0, none⟩) (s.opn.length + 1) q1) := ⟨_, rfl⟩
      rw [← hw3] at HW3 HB3
      have Hw3 := Lib.hid hw3
      clear hw3
      go_upto_region 3 with fail
      rw [← Hw3.out]
      have hcl := HW3.out.cell
      have d0 : w3.cell? ⟨B, 0, none⟩ = some outv := hcl.1
      obtain ⟨ao, co, eo, hco1, hco2, hco3⟩ := HW3.out.out
      obtain ⟨bo, oo, rfl, hbo, hcell⟩ := hco3.resolve_left (by omega)
      subst eo
      have dr : w3.cell? ⟨bo, oo + v, none⟩ = some (rows v) := by have := hcell v 0 hv (by decide); simpa using this
      obtain ⟨ar, cr, er, hr1, hr2, hr3⟩ := HW3.out.row v hv
      obtain ⟨q, hq⟩ : ∃ q, (adj v).length = q := ⟨_, rfl⟩
      rw [hq] at er hr1
      rw [er] at dr
      have Her := Lib.hid er
      have Hq := Lib.hid hq
      unfold maxLen at hr2 hco2
      clear hcl hcell hco3 hr3 y2 z2 hl2 hq er
      go_wp2_with fail
      clear d0 dr
      have HN0 : Hid (Num n ⟨upd s.at_ v k, upd s.low v k, s.opn ++ [v], k, s.sets⟩ ∧ unvis n ⟨upd s.at_ v k, upd s.low v k, s.opn ++ [v], k, s.sets⟩ ≤ m) := by
        have hl := unvis_lt (n := n) (s := s) (t := ⟨upd s.at_ v k, upd s.low v k, s.opn ++ [v], k, s.sets⟩) (fun u hu => by show upd s.at_ v k u ≠ 0; rw [upd_ne _ _ (fun e => hu (by rw [e]; exact h0))]; exact hu) hv h0 (by show upd s.at_ v k v ≠ 0; rw [upd_same, Hk.out]; omega)
        have ha := HN.out.a
        have hb := HN.out.b
        have hk := Hk.out
        exact ⟨⟨by show unvis n _ + k ≤ n; omega, by show (s.opn ++ [v]).length + s.sets.length ≤ k; simp; omega⟩, by omega⟩
      go_loopg [53] q (fun kk v53 wr => ∃ (i : Nat) (t : St) (ov qv : Value) (qs : List Value) (seg : List Nat), v53 = .int .i64 i ∧ i ≤ q ∧ kk = q - i ∧ Wk base B A L n adj (.slice (some ⟨bo, oo, none⟩) n co) rows wr t ov qv qs ∧ MidV n (EdgeOf n adj) G s v ((adj v).take i) seg t ∧ Num n t ∧ unvis n t ≤ m ∧ Below base w wr)
      case atStart => exact ⟨0, _, _, qv, qs, [], rfl, Nat.zero_le _, rfl, HW3.out, HMid.out, HN0.out.1, HN0.out.2, HB3.out⟩
      case round =>
        obtain ⟨i, t, ov, qv, qs, seg, rfl, hi, hk', hW, hMd, hNm, hun, hB⟩ := hrel
        have HKk := Lib.hid hk'
        have HW := Lib.hid hW
        have HM := Lib.hid hMd
        have HNm := Lib.hid hNm
        have Hun := Lib.hid hun
        have HB := Lib.hid hB
        clear hk' hW hMd hNm hun hB
        by_cases hlt : i < q
        · obtain ⟨u, hu⟩ : ∃ u, (adj v).getD i 0 = u := ⟨_, rfl⟩
          have hmem : u ∈ adj v := by rw [← hu]; exact mem_getD' _ (by rw [Hq.out]; exact hlt)
          have hun : u < n := Hadj.out v hv u hmem
          have hrow := HW.out.row v hv
          rw [Her.out] at hrow
          obtain ⟨ar', cr', er', -, -, hr3⟩ := hrow
          rw [Hq.out] at er' hr3
          obtain ⟨br, orr, hae, hbr, hcr⟩ := hr3.resolve_left (by omega)
          have e0 : ar = some ⟨br, orr, none⟩ := by injection er' with e1 _ _; rw [e1]; exact hae
          have crow : wr.cell? ⟨br, orr + i, none⟩ = some (.int .i64 ((u : Nat) : Int)) := by
            have h1 : wr.cell? ⟨br, orr + i * 1 + 0, none⟩ = some (.int .i64 (((adj v).getD i 0 : Nat) : Int)) := hcr i 0 hlt (by decide)
            rw [hu] at h1
            simpa using h1
          subst e0
          have HE : Hid (EdgeOf n adj v u) := ⟨hv, hmem⟩
          have HTk : Hid ((adj v).take (i + 1) = (adj v).take i ++ [u]) := by
            show _ = _
            rw [take_snoc' 0 (by rw [Hq.out]; exact hlt), hu]
          have hcl := HW.out.cell
          have d1 : wr.cell? ⟨B, 1, none⟩ = some (.slice (some ⟨A, 0, none⟩) n n) := hcl.2.1
          clear hcr hr3 er' hae hmem hu hcl hbr
          by_cases hz : t.at_ u = 0
          · have cu : wr.cell? ⟨A, u, none⟩ = some (.int .i64 0) := by have := HW.out.at_ hun; rw [hz] at this; exact this
            have Hz := Lib.hid hz
            clear hz
            go_wp2_with fail
            refine (hIH.out (v :: G) t u ov qv qs wr Hun.out HW.out HM.out.inv HNm.out hun Hz.out ?_).mono ?_
            · intro g hg
              rcases List.mem_cons.1 hg with rfl | hg
              · exact .one HE.out
              · exact (HG.out g hg).trans (.one HE.out)
            rintro e1 w4 ⟨t2, ov2, qv2, qs2, sg, rfl, hW2, hV, hN2, hb4⟩
            have HW2 := Lib.hid hW2
            have HV := Lib.hid hV
            have HN2 := Lib.hid hN2
            have HB4 : Hid (Below base w w4) := HB.out.trans hb4
            have hcl := hW2.cell
            have d2 : w4.cell? ⟨B, 2, none⟩ = some (.slice (some ⟨L, 0, none⟩) n n) := hcl.2.2.1
            have lv : w4.cell? ⟨L, v, none⟩ = some (.int .i64 ((t2.low v : Nat) : Int)) := hW2.low hv
            have lu : w4.cell? ⟨L, u, none⟩ = some (.int .i64 ((t2.low u : Nat) : Int)) := hW2.low hun
            have zL := (hW2.free v).2.2
            obtain ⟨l1, l2, l3⟩ := hW2.lt
            clear hW2 hV hN2 hb4 hcl crow d1 cu
            go_wp2_with fail
            go_region
            rw [show min ((t2.low v : Nat) : Int) ((t2.low u : Nat) : Int) = ((min (t2.low v) (t2.low u) : Nat) : Int) by omega]
            have HF : Hid (Wk base B A L n adj (.slice (some ⟨bo, oo, none⟩) n co) rows (w4.setCell ⟨L, v, none⟩ (.int .i64 ((min (t2.low v) (t2.low u) : Nat) : Int))).drew ⟨t2.at_, upd t2.low v (min (t2.low v) (t2.low u)), t2.opn, t2.cnt, t2.sets⟩ ov2 qv2 qs2) := (HW2.out.setLow v _).of_heap rfl
            have HFb : Hid (Below base w (w4.setCell ⟨L, v, none⟩ (.int .i64 ((min (t2.low v) (t2.low u) : Nat) : Int))).drew) := (HB4.out.setCell ge.out.2.2 _).drew
            have HFm := Lib.hid (HM.out.child Hz.out HE.out HV.out)
            rw [← HTk.out] at HFm
            have HFu : Hid (unvis n ⟨t2.at_, upd t2.low v (min (t2.low v) (t2.low u)), t2.opn, t2.cnt, t2.sets⟩ ≤ m) := Nat.le_trans (unvis_upd (s := t) (fun x hx => by show t2.at_ x ≠ 0; rw [HV.out.at_ x hx]; exact hx)) Hun.out
            have HFn : Hid (Num n ⟨t2.at_, upd t2.low v (min (t2.low v) (t2.low u)), t2.opn, t2.cnt, t2.sets⟩) := ⟨HN2.out.a, HN2.out.b⟩
            go_wp2_with fail
            go_roundg (q - (i + 1))
            case rel => exact ⟨i + 1, _, _, _, _, _, by go_num, by omega, rfl, HF.out, HFm.out, HFn.out, HFu.out, HFb.out⟩
            case measure => have := HKk.out; omega
          · have cu : wr.cell? ⟨A, u, none⟩ = some (.int .i64 ((t.at_ u : Nat) : Int)) := HW.out.at_ hun
            have ez : (((t.at_ u : Nat) : Int) == 0) = false := by rw [beq_eq_false_iff_ne]; omega
            have Hz := Lib.hid hz
            have hlen : 0 < t.opn.length := by
              rw [HM.out.opn]
              simp
              omega
            obtain ⟨g, cg, rfl⟩ : ∃ g c, ov = .slice (some ⟨g, 0, none⟩) t.opn.length c := by
              rcases HW.out.opn.2 with ⟨_, h'⟩ | ⟨g, cap, cur, e, _⟩
              · omega
              · exact ⟨g, cap, e⟩
            have hol : t.opn.length ≤ 40 := by have := HNm.out.a; have := HNm.out.b; omega
            have d3 : wr.cell? ⟨B, 3, none⟩ = some (.slice (some ⟨g, 0, none⟩) t.opn.length cg) := HW.out.cell.2.2.2.1
            have CT := Lib.hid (Tryz.slices_Contains_int g 0 t.opn.length cg (t.opn.map fun x => ((x : Nat) : Int)) ((u : Nat) : Int) wr (by simp) (by omega) (fun j hj => by
              have hj' : j < t.opn.length := by simpa using hj
              rw [Nat.zero_add, HW.out.opn.cellAt j (by omega)]
              simp [natRow, List.getD, List.getElem?_eq_getElem hj']))
            have ec : ((t.opn.map fun x => ((x : Nat) : Int)).take t.opn.length).contains ((u : Nat) : Int) = decide (u ∈ t.opn) := by
              rw [List.take_of_length_le (by simp), Bool.eq_iff_iff]
              simp only [List.contains_iff_mem, List.mem_map, decide_eq_true_eq]
              constructor
              · rintro ⟨x, hx, e⟩
                have : x = u := by omega
                rw [← this]
                exact hx
              · intro hx
                exact ⟨u, hx, rfl⟩
            rw [ec] at CT
            clear hz ec
            by_cases ho : u ∈ t.opn
            · rw [decide_eq_true ho] at CT
              have hcl := HW.out.cell
              have d2 : wr.cell? ⟨B, 2, none⟩ = some (.slice (some ⟨L, 0, none⟩) n n) := hcl.2.2.1
              have lv : wr.cell? ⟨L, v, none⟩ = some (.int .i64 ((t.low v : Nat) : Int)) := HW.out.low hv
              have zL := (HW.out.free v).2.2
              obtain ⟨l1, l2, l3⟩ := HW.out.lt
              obtain ⟨n1, n2, n3⟩ := HW.out.ne
              have Ho := Lib.hid ho
              clear ho hcl
              go_wp2_with fail
              refine CT.out.mono ?_
              rintro e1 w4 ⟨rfl, rfl⟩
              clear crow d3
              go_wp2_with fail
              go_region
              rw [show min ((t.low v : Nat) : Int) ((t.at_ u : Nat) : Int) = ((min (t.low v) (t.at_ u) : Nat) : Int) by omega]
              have HF : Hid (Wk base B A L n adj (.slice (some ⟨bo, oo, none⟩) n co) rows (w4.setCell ⟨L, v, none⟩ (.int .i64 ((min (t.low v) (t.at_ u) : Nat) : Int))).drew ⟨t.at_, upd t.low v (min (t.low v) (t.at_ u)), t.opn, t.cnt, t.sets⟩ (.slice (some ⟨g, 0, none⟩) t.opn.length cg) qv qs) := (HW.out.setLow v _).of_heap rfl
              have HFb : Hid (Below base w (w4.setCell ⟨L, v, none⟩ (.int .i64 ((min (t.low v) (t.at_ u) : Nat) : Int))).drew) := (HB.out.setCell ge.out.2.2 _).drew
              have HFm := Lib.hid (HM.out.back Ho.out HE.out)
              rw [← HTk.out] at HFm
              have HFn : Hid (Num n ⟨t.at_, upd t.low v (min (t.low v) (t.at_ u)), t.opn, t.cnt, t.sets⟩) := ⟨HNm.out.a, HNm.out.b⟩
              go_wp2_with fail
              go_roundg (q - (i + 1))
              case rel => exact ⟨i + 1, _, _, _, _, _, by go_num, by omega, rfl, HF.out, HFm.out, HFn.out, Hun.out, HFb.out⟩
              case measure => have := HKk.out; omega
            · rw [decide_eq_false ho] at CT
              have HFm := Lib.hid (HM.out.skip Hz.out ho)
              rw [← HTk.out] at HFm
              clear ho
              go_wp2_with fail
              refine CT.out.mono ?_
              rintro e1 w4 ⟨rfl, rfl⟩
              go_wp2_with fail
              go_roundg (q - (i + 1))
              case rel => exact ⟨i + 1, _, _, _, _, _, by go_num, by omega, rfl, HW.out, HFm.out, HNm.out, Hun.out, HB.out⟩
              case measure => have := HKk.out; omega
        · obtain rfl : q = i := by omega
          have HAll : Hid (∀ u, EdgeOf n adj v u → u ∈ (adj v).take q) := by
            intro u hu
            rw [List.take_of_length_le (by rw [Hq.out]; exact Nat.le_refl _)]
            exact hu.2
          have hcl := HW.out.cell
          have d1 : wr.cell? ⟨B, 1, none⟩ = some (.slice (some ⟨A, 0, none⟩) n n) := hcl.2.1
          have d2 : wr.cell? ⟨B, 2, none⟩ = some (.slice (some ⟨L, 0, none⟩) n n) := hcl.2.2.1
          have lv : wr.cell? ⟨L, v, none⟩ = some (.int .i64 ((t.low v : Nat) : Int)) := HW.out.low hv
          have av : wr.cell? ⟨A, v, none⟩ = some (.int .i64 ((t.at_ v : Nat) : Int)) := HW.out.at_ hv
          clear hcl
          by_cases hlow : t.low v < t.at_ v
          · have el : decide (((t.low v : Nat) : Int) < ((t.at_ v : Nat) : Int)) = true := decide_eq_true (by omega)
            have el' : decide (t.low v < t.at_ v) = true := decide_eq_true hlow
            have HFv := Lib.hid (HM.out.leave HAll.out hlow)
            go_wp2_with fail
            go_quiet (fail)
            go_wp2_with fail
            go_returns
            exact ⟨t, ov, qv, qs, v :: seg, rfl, HW.out.of_heap rfl, HFv.out, HNm.out, drewN_below HB.out _⟩
          · have el : decide (((t.low v : Nat) : Int) < ((t.at_ v : Nat) : Int)) = false := decide_eq_false (by omega)
            have el' : decide (t.low v < t.at_ v) = false := decide_eq_false hlow
            have hlen : s.opn.length < t.opn.length := by
              rw [HM.out.opn]
              simp
            obtain ⟨g, cg, rfl⟩ : ∃ g c, ov = .slice (some ⟨g, 0, none⟩) t.opn.length c := by
              rcases HW.out.opn.2 with ⟨_, h'⟩ | ⟨g, cap, cur, e, _⟩
              · omega
              · exact ⟨g, cap, e⟩
            obtain ⟨hcg1, hcg2⟩ : t.opn.length ≤ cg ∧ cg ≤ 9223372036854775807 := by
              rcases HW.out.opn.2 with ⟨h', _⟩ | ⟨g', cap, cur, e, _, _, h1, h2, _⟩
              · cases h'
              · injection e with _ _ e3
                subst e3
                exact ⟨h1, by unfold maxLen at h2; omega⟩
            have hol : t.opn.length ≤ 40 := by have := HNm.out.a; have := HNm.out.b; omega
            have hgl := own_lt HW.out.opn (k := g) rfl
            have d3 : wr.cell? ⟨B, 3, none⟩ = some (.slice (some ⟨g, 0, none⟩) t.opn.length cg) := HW.out.cell.2.2.2.1
            have hrow : ∀ j, j < t.opn.length → wr.cell? ⟨g, j, none⟩ = some (.int .i64 (((t.opn.getD j 0 : Nat)) : Int)) := fun j hj => by
              rw [HW.out.opn.cellAt j (by omega)]
              simp [natRow, List.getD, List.getElem?_eq_getElem hj]
            go_wp2_with fail
            go_quiet (fail)
            have HWq : Hid (Wk base B A L n adj (.slice (some ⟨bo, oo, none⟩) n co) rows (wr.drewN nq) t (.slice (some ⟨g, 0, none⟩) t.opn.length cg) qv qs) := HW.out.of_heap rfl
            have HBq : Hid (Below base w (wr.drewN nq)) := drewN_below HB.out _
            have d3q : (wr.drewN nq).cell? ⟨B, 3, none⟩ = some (.slice (some ⟨g, 0, none⟩) t.opn.length cg) := d3
            have hrowq : ∀ j, j < t.opn.length → (wr.drewN nq).cell? ⟨g, j, none⟩ = some (.int .i64 (((t.opn.getD j 0 : Nat)) : Int)) := hrow
            have hglq : g < (wr.drewN nq).heap.size := hgl
            obtain ⟨wq, hwq⟩ : ∃ wq : World, wq = wr.drewN nq := ⟨_, rfl⟩
            rw [← hwq] at HWq HBq d3q hrowq hglq ⊢
            have Hrow := Lib.hid hrowq
            clear hwq d3 hrow hgl d1 d2 lv av HW HB hrowq
            obtain ⟨K, hK⟩ : ∃ K, s.opn.length = K := ⟨_, rfl⟩
            have hvK : t.opn.getD K 0 = v := by rw [HM.out.opn, ← hK]; simp [List.getD]
            have hbK : ∀ j, j < K → t.opn.getD j 0 ≠ v := by
              intro j hj e
              have h1 : j < s.opn.length := by omega
              have e1 : t.opn.getD j 0 = s.opn.getD j 0 := by rw [HM.out.opn]; simp [List.getD, List.getElem?_append_left h1]
              have h2 := HM.out.before (u := v) (by rw [← e, e1]; exact mem_getD' _ h1)
              omega
            have CI : Hid (Calls Tryz.prog 63 #[.slice (some ⟨g, 0, none⟩) t.opn.length cg, .int .i64 ((v : Nat) : Int)] wq fun e w' => e = .returned (.int .i64 ((K : Nat) : Int)) ∧ w' = wq) := by
              have hz : ∀ j, j < t.opn.length → (t.opn.map fun x => ((x : Nat) : Int)).getD j 0 = ((t.opn.getD j 0 : Nat) : Int) := fun j hj => by simp [List.getD, List.getElem?_eq_getElem hj]
              have := Tryz.slices_Index_int g 0 t.opn.length cg (t.opn.map fun x => ((x : Nat) : Int)) ((v : Nat) : Int) wq (by simp) (by omega) (fun j hj => by
                have hj' : j < t.opn.length := by simpa using hj
                rw [Nat.zero_add, Hrow.out j hj', hz j hj'])
              rw [Lib.idxOf_hit _ t.opn.length K _ (by omega) (by simp) (by rw [hz K (by omega), hvK]) (fun j hj => by rw [hz j (by omega)]; intro e; exact hbK j hj (by omega))] at this
              exact this
            have hKl : K < t.opn.length := by omega
            have hdrop : Hid (t.opn.drop K = v :: seg) := by show _ = _; rw [HM.out.opn, ← hK]; simp
            have HK := Lib.hid hK
            clear hvK hbK hK hlen
            go_wp2_with fail
            refine CI.out.mono ?_
            rintro e1 w5 ⟨rfl, rfl⟩
            clear CI
            go_wp2_with fail
            obtain ⟨N, hN⟩ : ∃ N, t.opn.length - K = N := ⟨_, rfl⟩
            obtain ⟨vs, hvs⟩ : ∃ vs : List Nat, vs = v :: seg := ⟨_, rfl⟩
            rw [← hvs] at hdrop
            obtain ⟨zs, hzs⟩ : ∃ zs : List Int, zs = vs.map (fun x => ((x : Nat) : Int)) := ⟨_, rfl⟩
            have hzl : zs.length = N := by
              have := congrArg List.length hdrop.out
              rw [hzs]
              simp at this ⊢
              omega
            have hN1 : 0 < N := by omega
            have hN40 : N ≤ 40 := by omega
            have Hvs := Lib.hid hvs
            have CC := Tryz.slices_Clone_int g K N (cg - K) zs w5 (by omega) (by omega) (fun j hj => by
              rw [Hrow.out (K + j) (by omega)]
              have h1 : t.opn.getD (K + j) 0 = vs.getD j 0 := by
                rw [← hdrop.out]
                simp [List.getD]
              have h2 : j < vs.length := by rw [hzs] at hj; simpa using hj
              rw [h1, hzs]
              simp [List.getD, List.getElem?_eq_getElem h2])
            rw [hN]
            have Hzs := Lib.hid hzs
            have Hzl := Lib.hid hzl
            have HNK := Lib.hid hN
            rw [List.take_of_length_le (by omega)] at CC
            have HCC := Lib.hid CC
            clear CC hzs hzl hN hvs
            refine HCC.out.mono ?_
            rintro e1 w6 ⟨sv, rfl, hownS, -, hb6⟩
            obtain ⟨gs, cs, cur, rfl, hgs, hcur, hc1, hc2, hc3, hc4⟩ : ∃ gs cs cur, sv = .slice (some ⟨gs, 0, none⟩) N cs ∧ w5.heap.size ≤ gs ∧ w6.heap[gs]? = some (.cells cur 3 (0, 0)) ∧ N ≤ cs ∧ cs ≤ maxLen ∧ cur.size = cs * 1 ∧ cur.toList.take (N * 1) = zs.map (Value.int .i64) := by
              rcases hownS.2 with ⟨_, h'⟩ | ⟨gs, cs, cur, e, h1, h2, h3, h4, h5, h6⟩
              · omega
              · exact ⟨gs, cs, cur, e, h1, h2, h3, h4, h5, h6⟩
            have hgl6 := lt_of_block hcur
            have CS := Tryz.slices_Sort_int gs 0 cs zs w6 (holds_of_blockI hcur (by rw [Hzl.out]; rw [Nat.mul_one] at hc4; exact hc4)) hgl6 (by rw [Hzl.out]; omega)
            rw [Hzl.out] at CS
            have HCS := Lib.hid CS
            have Hcur := Lib.hid (And.intro hcur (And.intro hc1 (And.intro hc2 hc3)))
            have Hb6 := Lib.hid hb6
            clear CS hcur hc1 hc2 hc3 hc4 hownS hb6 HCC
            go_wp2_with fail
            refine HCS.out.mono ?_
            rintro e1 w7 ⟨rfl, p7, os7, hw7⟩
            have hg7 : w6.grownBy w7 (some gs) := by rw [hw7]; exact grownBy_sortedI _
            have hk7 : ∀ k, k < w5.heap.size → w7.heap[k]? = w5.heap[k]? := fun k hk => (hg7.block k (by have := Hb6.out.size; omega) (by intro e; injection e with e; omega)).trans (Hb6.out.block k hk)
            have hs7 : w5.heap.size ≤ w7.heap.size := Nat.le_trans Hb6.out.size hg7.size
            have hb7 : Below base w w7 := ((HBq.out).trans (Hb6.out.mono (by have := HWq.out.lt.1; have := ge.out.1; omega))).grown hg7 (by have := HWq.out.lt.1; have := ge.out.1; have := Hb6.out.size; omega) (by intro k e; injection e with e; have := HWq.out.lt.1; have := ge.out.1; omega)
            have HW7 := Lib.hid (HWq.out.keep hs7 hk7)
            have HB7 := Lib.hid hb7
            have hos7 : w7.ownsRow w5.heap.size 3 1 (.slice (some ⟨gs, 0, none⟩) N cs) N ((zs.mergeSort fun x y => decide (x ≤ y)).map (Value.int .i64)) := by
              have := ownsRow_sortedI (w := w6) (base := w5.heap.size) (n := p7) (os := os7) (ss := zs) (ts := zs.mergeSort fun x y => decide (x ≤ y)) (by simp) hgs Hcur.out.1 (by rw [Hzl.out]; exact Hcur.out.2.1) Hcur.out.2.2.1 Hcur.out.2.2.2
              rw [Hzl.out, ← hw7] at this
              exact this
            have HOS := Lib.hid hos7
            have hgs7 : gs < w7.heap.size := Nat.lt_of_lt_of_le hgl6 hg7.size
            clear hw7 hg7 hk7 hb7 hos7 HCS Hcur d3q
            obtain ⟨S, hSd⟩ : ∃ S : List Nat, S = vs.mergeSort (fun x y => decide (x ≤ y)) := ⟨_, rfl⟩
            have hSm : S.map (fun x => ((x : Nat) : Int)) = zs.mergeSort (fun x y => decide (x ≤ y)) := by
              rw [hSd, Hzs.out]
              exact List.map_mergeSort (fun a _ b _ => by simp)
            have hSl : S.length = N := by
              have := congrArg List.length hSm
              simp at this
              rw [this, Hzl.out]
            have hSmem : ∀ x, x ∈ S ↔ x ∈ v :: seg := by
              intro x
              rw [hSd, ← Hvs.out]
              exact (List.mergeSort_perm _ _).mem_iff
            have hSs : S.Pairwise (· < ·) := by
              have h1 : S.Pairwise (fun a b => a ≤ b) := by
                have := List.pairwise_mergeSort (le := fun x y : Nat => decide (x ≤ y)) (fun a b c h1 h2 => by simp at h1 h2 ⊢; omega) (fun a b => by simp; omega) vs
                rw [← hSd] at this
                exact this.imp (fun h => by simpa using h)
              have h2 : S.Nodup := by
                rw [hSd]
                refine (List.mergeSort_perm _ _).nodup_iff.2 ?_
                rw [Hvs.out]
                have hasc := HM.out.inv.asc
                rw [HM.out.opn, List.pairwise_append] at hasc
                exact hasc.2.1.imp (fun h e => by rw [e] at h; omega)
              exact (List.Pairwise.and h1 h2).imp (fun ⟨a, b⟩ => by omega)
            have hRowS : Row w7 (.slice (some ⟨gs, 0, none⟩) N cs) S := by
              rcases HOS.out.2 with ⟨h', _⟩ | ⟨g', cap, cur', e, _, _, k1, k2, _, _⟩
              · cases h'
              injection e with e1 e2 e3
              subst e3
              refine ⟨_, cs, by rw [hSl], by rw [hSl]; exact k1, k2, Or.inr ⟨gs, 0, rfl, hgs7, fun i j hi hj => ?_⟩⟩
              obtain rfl : j = 0 := by omega
              have := HOS.out.cellAt i (by rw [Nat.mul_one, ← hSl]; exact hi)
              rw [Nat.zero_add, Nat.mul_one, Nat.add_zero, this, ← hSm]
              simp [List.getD, List.getElem?_eq_getElem hi]
            have HRowS := Lib.hid hRowS
            have HSs := Lib.hid hSs
            have HSmem := Lib.hid hSmem
            clear hSd hSm hSl hSmem hSs hRowS
            obtain ⟨j0, hj0, hy0', hy1, hy2⟩ := info_parts info_ints
            have Hj0 := Lib.hid (And.intro hj0 (And.intro hy0' (And.intro hy1 hy2)))
            have hcl := HW7.out.cell
            have d5 : w7.cell? ⟨B, 5, none⟩ = some qv := hcl.2.2.2.2.2
            have hql : qs.length ≤ 40 := by have := HNm.out.a; have := HNm.out.b; have := HW7.out.lens; omega
            have hbase7 : base ≤ w7.heap.size := by have := HW7.out.lt.1; have := ge.out.1; omega
            clear hj0 hy0' hy1 hy2 hcl
            go_wp2_with (at_builtin; refine wpList_append_own_at _ rfl _ _ 132 rfl base 31 j0 _ 1 24 Tryz.underlying132 Hj0.out.1 Hj0.out.2.1 Hj0.out.2.2.1 Hj0.out.2.2.2 rfl (by decide) qv qs.length qs rfl ((HW7.out.alloc _).sets) ⟨w7.heap.size, 0, none⟩ 1 1 [.slice (some ⟨gs, 0, none⟩) N cs] rfl rfl (World.news_of_block (cs := #[.slice (some ⟨gs, 0, none⟩) N cs]) (t := 31) (fr := (0, 0)) (heap_alloc_new w7 _)) (by simp [Value.oneCell']) (by unfold maxLen; omega) (by omega) (by simp; omega) ?_)
            intro qv8 w8 hown8 hg8 _ hat8
            obtain ⟨g8, c8, rfl⟩ : ∃ g8 c8, qv8 = .slice (some ⟨g8, 0, none⟩) (qs.length + 1) c8 := by
              rcases hown8.2 with ⟨_, h'⟩ | ⟨g8, c8, cur, e, _⟩
              · omega
              · exact ⟨g8, c8, e⟩
            have hWa := HW7.out.alloc (.cells #[.slice (some ⟨gs, 0, none⟩) N cs] 31)
            have hlq := HWq.out.lt
            have hgsA : ∀ k, (Value.slice (some ⟨gs, 0, none⟩) N cs).ownBlock = some k → k < (w7.alloc (.cells #[.slice (some ⟨gs, 0, none⟩) N cs] 31)).heap.size ∧ k ≠ B ∧ k ≠ A ∧ k ≠ L ∧ (Value.slice (some ⟨g, 0, none⟩) t.opn.length cg).ownBlock ≠ some k ∧ qv.ownBlock ≠ some k := by
              intro k e
              have ek : gs = k := by injection e
              subst ek
              refine ⟨by simp; omega, by omega, by omega, by omega, fun e' => ?_, fun e' => ?_⟩
              · have := own_lt HWq.out.opn e'; omega
              · have := own_lt HWq.out.sets e'; omega
            have hRa : Row (w7.alloc (.cells #[.slice (some ⟨gs, 0, none⟩) N cs] 31)) (.slice (some ⟨gs, 0, none⟩) N cs) S := by
              refine HRowS.out.kept (by simp) ?_
              intro k e
              have ek : gs = k := by simpa [Value.ownBlock] using e
              rw [← ek]
              exact Below.heap_alloc w7 _ gs hgs7
            have hW9 := hWa.pushSet (S := S) hg8 hown8 (by simpa using hat8) hRa hgsA
            have hqB : qv.ownBlock ≠ some B := fun e => (hWa.apQ B e).1 rfl
            have z5 : w8.frozen? ⟨B, 5, none⟩ = false := by
              rw [World.frozen?_of_block (a := ⟨B, 5, none⟩) (hg8.block B hWa.lt.1 (Ne.symm hqB))]
              exact (hWa.free 5).1
            have y5 : w8.cell? ⟨B, 5, none⟩ = some qv := by
              rw [World.cell?_of_block (a := ⟨B, 5, none⟩) (hg8.block B hWa.lt.1 (Ne.symm hqB))]
              exact hWa.cell.2.2.2.2.2
            have hb8 : Below base w w8 := (HB7.out.alloc hbase7 _).grown hg8 (by simp; omega) (fun k e => (hWa.sets.lt k e).1)
            have hl8 : B < w8.heap.size := by have := hW9.lt.1; simpa [World.setCell] using this
            obtain ⟨w9, hw9⟩ : ∃ w9 : World, w9 = w8.setCell ⟨B, 5, none⟩ (.slice (some ⟨g8, 0, none⟩) (qs.length + 1) c8) := ⟨_, rfl⟩
            have hb9 : Below base w w9 := by rw [hw9]; exact hb8.setCell ge.out.1 _
            rw [← hw9] at hW9
            have HW9 := Lib.hid hW9
            have HB9 := Lib.hid hb9
            have Hw9 := Lib.hid hw9
            clear hown8 hg8 hat8 hWa hgsA hRa hW9 hb8 hb9 hw9 hqB d5 hlq
            go_upto_region 17 with fail
            rw [← Hw9.out]
            have d3 : w9.cell? ⟨B, 3, none⟩ = some (.slice (some ⟨g, 0, none⟩) t.opn.length cg) := HW9.out.cell.2.2.2.1
            have z3 := (HW9.out.free 3).1
            have hl9 := HW9.out.lt.1
            have HW10 := Lib.hid (HW9.out.cutOpen rfl (k := K) (by show K ≤ t.opn.length; omega))
            have HFv := Lib.hid (HM.out.ring HAll.out (Nat.le_of_not_lt hlow) HSs.out HSmem.out)
            have hopn : t.opn.take K = s.opn := by rw [HM.out.opn, ← HK.out]; simp
            clear y5 z5 hl8
            go_wp2_with fail
            go_returns
            refine ⟨⟨t.at_, t.low, s.opn, t.cnt, t.sets ++ [S]⟩, .slice (some ⟨g, 0, none⟩) K cg, .slice (some ⟨g8, 0, none⟩) (qs.length + 1) c8, qs ++ [.slice (some ⟨gs, 0, none⟩) N cs], [], rfl, ?_, HFv.out, ⟨HNm.out.a, ?_⟩, HB9.out.setCell ge.out.1 _⟩
            · have := HW10.out
              rw [hopn] at this
              exact this
            · have := HNm.out.b
              have := HK.out
              show s.opn.length + (t.sets ++ [S]).length ≤ t.cnt
              simp
              omega
end Go.Proofs.YtnfnebfioibndaaGreatDoor
