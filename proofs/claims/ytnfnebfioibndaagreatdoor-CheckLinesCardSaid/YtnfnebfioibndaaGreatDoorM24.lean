/- order.settle puts rings in order. -/
import Derived.Test.YtnfnebfioibndaaGreatDoorM23
import Derived.Deep.RegionHeld3
import Derived.Outline
namespace Go.Proofs.YtnfnebfioibndaaGreatDoor
open Go.RowKit
set_option maxRecDepth 100000
set_option maxHeartbeats 4000000

theorem Row.form {w : World} {v : Value} {S : List Nat} (h : Row w v S) (hne : S ≠ []) : ∃ b o m cap, v = .slice (some ⟨b, o, none⟩) m cap ∧ m = S.length ∧ 0 < m ∧ m ≤ cap ∧ cap ≤ 9223372036854775807 ∧ b < w.heap.size ∧ ∀ i, i < m → w.cell? ⟨b, o + i, none⟩ = some (.int .i64 ((S.getD i 0 : Nat) : Int)) := by
  obtain ⟨a, cap, rfl, h1, h2, h3⟩ := h
  have hl := List.length_pos_iff.2 hne
  obtain ⟨b, o, rfl, hb, hc⟩ := h3.resolve_left (by omega)
  unfold maxLen at h2
  refine ⟨b, o, _, cap, rfl, rfl, hl, h1, by omega, hb, fun i hi => ?_⟩
  have := hc i 0 hi (by decide)
  simpa using this

/-- What lies while rings are numbered. -/
structure SetW (w wr : World) (O Bo n : Nat) (f : Nat → Nat) : Prop where
  nums : Nums wr O n f
  box : wr.cell? ⟨Bo, 0, none⟩ = some (.slice (some ⟨O, 0, none⟩) n n)
  below : Below w.heap.size w wr
  ge : w.heap.size ≤ O ∧ w.heap.size ≤ Bo
  ne : Bo ≠ O
theorem SetW.set {w wr : World} {O Bo n : Nat} {f : Nat → Nat} (h : SetW w wr O Bo n f) (v i : Nat) : SetW w (wr.setCell ⟨O, v, none⟩ (.int .i64 ((i : Nat) : Int))) O Bo n (upd f v i) :=
  ⟨h.nums.set v i, (World.cell?_setCell_far _ _ _ _ (by intro e; exact h.ne e.symm)).trans h.box, h.below.setCell h.ge.1 _, h.ge, h.ne⟩

/-- What lies while rings are told. -/
structure SetD (w wr : World) (O Bo D Bd n s base : Nat) (of_ : Nat → Nat) (done : Nat → Bool) : Prop where
  set : SetW w wr O Bo n of_
  marks : Marks wr D s done
  box : wr.cell? ⟨Bd, 0, none⟩ = some (.slice (some ⟨D, 0, none⟩) s s)
  ge : w.heap.size ≤ D ∧ w.heap.size ≤ Bd
  lt : O < base ∧ Bo < base ∧ D < base ∧ Bd < base
  le : base ≤ wr.heap.size
  ne : O ≠ D ∧ Bo ≠ D ∧ Bd ≠ D
theorem SetD.keep {w wr w' : World} {O Bo D Bd n s base : Nat} {of_ : Nat → Nat} {done : Nat → Bool} (h : SetD w wr O Bo D Bd n s base of_ done) (hb : Below w.heap.size w w') (hs : wr.heap.size ≤ w'.heap.size) (hk : ∀ k, k < base → w'.heap[k]? = wr.heap[k]?) : SetD w w' O Bo D Bd n s base of_ done :=
  ⟨⟨h.set.nums.keep (hk O h.lt.1), (World.cell?_of_block (a := ⟨Bo, 0, none⟩) (hk Bo h.lt.2.1)).trans h.set.box, hb, h.set.ge, h.set.ne⟩, h.marks.keep (hk D h.lt.2.2.1), (World.cell?_of_block (a := ⟨Bd, 0, none⟩) (hk Bd h.lt.2.2.2)).trans h.box, h.ge, h.lt, Nat.le_trans h.le hs, h.ne⟩
theorem SetD.below {w wr w' : World} {O Bo D Bd n s base : Nat} {of_ : Nat → Nat} {done : Nat → Bool} (h : SetD w wr O Bo D Bd n s base of_ done) (hb : Below wr.heap.size wr w') : SetD w w' O Bo D Bd n s base of_ done :=
  h.keep (h.set.below.trans (hb.mono h.set.below.size)) hb.size (fun k hk => hb.block k (Nat.lt_of_lt_of_le hk h.le))
theorem SetD.mark {w wr : World} {O Bo D Bd n s base : Nat} {of_ : Nat → Nat} {done : Nat → Bool} (h : SetD w wr O Bo D Bd n s base of_ done) (b : Nat) : SetD w (wr.setCell ⟨D, b, none⟩ (.bool true)) O Bo D Bd n s base of_ (updB done b) :=
  ⟨⟨h.set.nums.keep (heap_setCell_ne wr D b _ h.ne.1), (World.cell?_setCell_far _ _ _ _ (Ne.symm h.ne.2.1)).trans h.set.box, h.set.below.setCell h.ge.1 _, h.set.ge, h.set.ne⟩, h.marks.set b true, (World.cell?_setCell_far _ _ _ _ (Ne.symm h.ne.2.2)).trans h.box, h.ge, h.lt, by simpa [World.setCell] using h.le, h.ne⟩
theorem enters_wait : ∀ args w, (callFunc 113 args).run Tryz.prog w = .ok (.enter 113 args) w := enters_of Tryz.func113 (by kernel_rfl) rfl

def SettleR (w : World) (l : List EdgeD) (n : Nat) (e : Ending) (w' : World) : Prop := ∃ (outv : Value) (outs : List (List Nat)), e = .returned outv ∧ Rows2 w' outv outs ∧ InOrder (EdL l) n outs ∧ AllTold n outs ∧ outs.length ≤ 40 ∧ Below w.heap.size w w'

theorem settle_calls (lv sv : Value) (l : List EdgeD) (n : Nat) (sets : List (List Nat)) (w : World) (hE : Edges w lv l) (hS : Rows2 w sv sets) (hok : SetsOk (EdL l) n sets) (hG : GoodE n l) (hn : n ≤ 40) (hsl : sets.length ≤ 40) :
    Calls Tryz.prog 96 #[.int .i64 ((n : Nat) : Int), lv, sv] w (SettleR w l n) := by
  obtain ⟨V, ⟨a0, cs, rfl, hcs, hms, hcell⟩, hRow⟩ := hS
  unfold maxLen at hms
  obtain ⟨s, hs⟩ : ∃ s, sets.length = s := ⟨_, rfl⟩
  rw [hs] at hcs hsl hcell ⊢
  have Hcell := Lib.hid hcell
  have HRow := Lib.hid hRow
  have Hok := Lib.hid hok
  have HG := Lib.hid hG
  have HE := Lib.hid hE
  have Hs := Lib.hid hs
  clear hcell hRow hok hG hE hs
  have hmk := mk_ints n (by omega)
  have hmkb := mk_bools s (by omega)
  go_enter Tryz.func96, Tryz.ntmps96
  go_wp2_with fail
  obtain ⟨w0, hw0⟩ : ∃ w0 : World, w0 = (w.alloc (.cells (natCells (fun _ => 0) n).toArray 3)).alloc (.cells #[.slice (some ⟨w.heap.size, 0, none⟩) n n] 31) := ⟨_, rfl⟩
  have hSW : SetW w w0 w.heap.size (w.heap.size + 1) n (fun _ => 0) := by
    refine ⟨?_, ?_, ?_, ⟨Nat.le_refl _, by omega⟩, by omega⟩
    · rw [hw0]
      unfold Nums
      rw [Below.heap_alloc _ _ _ (by simp)]
      exact heap_alloc_new w _
    · rw [hw0]; simp [go_sem]
    · rw [hw0]; exact ((Below.refl _ _).alloc (Nat.le_refl _) _).alloc (by simp) _
  rw [← hw0]
  obtain ⟨O, hO⟩ : ∃ O, w.heap.size = O := ⟨_, rfl⟩
  obtain ⟨Bo, hBo⟩ : ∃ Bo, w.heap.size + 1 = Bo := ⟨_, rfl⟩
  have hBO : Bo = O + 1 := by omega
  rw [hBo]
  rw [hBo, hO] at hSW
  have HSW := Lib.hid hSW
  have HO := Lib.hid hO
  have HBo := Lib.hid hBo
  have HBO := Lib.hid hBO
  clear hw0 hSW hO hBo hBO
  go_loopg [22] s (fun k v22 wr => ∃ (i : Nat) (f : Nat → Nat), v22 = .int .i64 i ∧ i ≤ s ∧ k = s - i ∧ SetW w wr O Bo n f ∧ ∀ j, j < i → ∀ v ∈ ringAt sets j, f v = j)
  case atStart => exact ⟨0, _, rfl, Nat.zero_le _, rfl, HSW.out, fun j hj => absurd hj (Nat.not_lt_zero _)⟩
  case round =>
    obtain ⟨i, f, rfl, hi, hk, hW, hF⟩ := hrel
    have Hk := Lib.hid hk
    have HW := Lib.hid hW
    have HF := Lib.hid hF
    clear hk hW hF
    by_cases hlt : i < s
    · obtain ⟨b, o, rfl, hb, hc⟩ := Hcell.out.resolve_left (by omega)
      have hmem : ringAt sets i ∈ sets := ringAt_mem (by rw [Hs.out]; exact hlt)
      obtain ⟨rb, ro, m, cap, hV, hm, hm0, hmc, hcm, hrb, hrc⟩ := Row.form (HRow.out i (by rw [Hs.out]; exact hlt)) (Hok.out.rings _ hmem).ne
      have c0 : wr.cell? ⟨b, o + i, none⟩ = some (V i) := (HW.out.below.cell (p := ⟨b, o + i, none⟩) hb).trans (by have := hc i 0 hlt (by decide); simpa using this)
      rw [hV] at c0
      have Hc := Lib.hid hc
      have HV := Lib.hid hV
      have Hm := Lib.hid hm
      have Hrc := Lib.hid hrc
      have Hmem := Lib.hid hmem
      clear hc hV hm hrc hmem
      go_wp2_with fail
      clear c0
      obtain ⟨wo, rfl⟩ : ∃ wo : World, wo = wr := ⟨_, rfl⟩
      go_loopg [29] m (fun k v29 wi => ∃ (j : Nat) (g : Nat → Nat), v29 = .int .i64 j ∧ j ≤ m ∧ k = m - j ∧ SetW w wi O Bo n g ∧ (∀ x, x < i → ∀ v ∈ ringAt sets x, g v = x) ∧ ∀ v ∈ (ringAt sets i).take j, g v = i)
      case atStart => exact ⟨0, _, rfl, Nat.zero_le _, rfl, HW.out, HF.out, fun v hv => by simp at hv⟩
      case round =>
        obtain ⟨j, g, rfl, hj, hk, hW2, hF2, hG2⟩ := hrel
        have Hk2 := Lib.hid hk
        have HW2 := Lib.hid hW2
        have HF2 := Lib.hid hF2
        have HG2 := Lib.hid hG2
        clear hk hW2 hF2 hG2
        by_cases hltj : j < m
        · obtain ⟨x, hx⟩ : ∃ x, (ringAt sets i).getD j 0 = x := ⟨_, rfl⟩
          have hxm : x ∈ ringAt sets i := by rw [← hx]; exact mem_getD' _ (by rw [← Hm.out]; exact hltj)
          have hxn : x < n := Hok.out.lt _ Hmem.out x hxm
          have cx : wr.cell? ⟨rb, ro + j, none⟩ = some (.int .i64 ((x : Nat) : Int)) := by
            have := (HW2.out.below.cell (p := ⟨rb, ro + j, none⟩) hrb).trans (Hrc.out j hltj)
            rw [hx] at this
            exact this
          have cO := HW2.out.nums.cell hxn
          have zO := HW2.out.nums.free x
          have lO := HW2.out.nums.lt
          have bo := HW2.out.box
          have HN : Hid ((∀ y, y < i → ∀ v ∈ ringAt sets y, upd g x i v = y) ∧ ∀ v ∈ (ringAt sets i).take (j + 1), upd g x i v = i) := by
            refine ⟨fun y hy v hv => ?_, fun v hv => ?_⟩
            · have hne : v ≠ x := by
                rintro rfl
                have := apart_uniq Hok.out.apart (by have := Hs.out; omega) (by have := Hs.out; omega) hv hxm
                omega
              rw [upd_ne _ _ hne]
              exact HF2.out y hy v hv
            · by_cases e : v = x
              · rw [e, upd_same]
              · rw [upd_ne _ _ e]
                rw [take_snoc' 0 (by rw [← Hm.out]; exact hltj), hx] at hv
                rcases List.mem_append.1 hv with hv | hv
                · exact HG2.out v hv
                · exact absurd (List.mem_singleton.1 hv) e
          have HWn := Lib.hid (HW2.out.set x i)
          clear hx hxm
          go_wp2_with fail
          go_roundg (m - (j + 1))
          case rel => exact ⟨j + 1, _, by go_num, by omega, rfl, HWn.out, HN.out.1, HN.out.2⟩
          case measure => have := Hk2.out; omega
        · obtain rfl : m = j := by omega
          have HN : Hid (∀ y, y < i + 1 → ∀ v ∈ ringAt sets y, g v = y) := by
            intro y hy v hv
            rcases Nat.lt_or_ge y i with h' | h'
            · exact HF2.out y h' v hv
            · obtain rfl : y = i := by omega
              exact HG2.out v (by rw [List.take_of_length_le (by rw [← Hm.out]; exact Nat.le_refl _)]; exact hv)
          go_wp2_with fail
          go_roundg (s - (i + 1))
          case rel => exact ⟨i + 1, _, by go_num, by omega, rfl, HW2.out, HN.out⟩
          case measure => have := Hk.out; omega
    · obtain rfl : s = i := by omega
      have HOf : Hid (OfSets sets f) := fun j hj v hv => HF.out j (by rw [← Hs.out]; exact hj) v hv
      clear hmk
      go_wp2_with fail
      obtain ⟨D, hD⟩ : ∃ D, wr.heap.size = D := ⟨_, rfl⟩
      obtain ⟨Bd, hBd⟩ : ∃ Bd, wr.heap.size + 1 = Bd := ⟨_, rfl⟩
      obtain ⟨base, hbase⟩ : ∃ base, wr.heap.size + 2 = base := ⟨_, rfl⟩
      obtain ⟨w2, hw2⟩ : ∃ w2 : World, w2 = (wr.alloc (.cells ((List.range s).map fun _ => Value.bool false).toArray 4)).alloc (.cells #[.slice (some ⟨wr.heap.size, 0, none⟩) s s] 171) := ⟨_, rfl⟩
      have hb2 : Below wr.heap.size wr w2 := by rw [hw2]; exact ((Below.refl _ _).alloc (Nat.le_refl _) _).alloc (by simp) _
      have hSD : SetD w w2 O Bo D Bd n s base f (fun _ => false) := by
        have l1 := HW.out.nums.lt
        have l2 := World.block_lt_of_cell? wr _ HW.out.box
        have l2' : Bo < wr.heap.size := l2
        have l3 := HW.out.below.size
        refine ⟨⟨HW.out.nums.keep (hb2.block _ l1), (World.cell?_of_block (a := ⟨Bo, 0, none⟩) (hb2.block _ l2)).trans HW.out.box, HW.out.below.trans (hb2.mono l3), HW.out.ge, HW.out.ne⟩, ?_, ?_, ⟨by omega, by omega⟩, ⟨by omega, by omega, by omega, by omega⟩, ?_, ⟨by omega, by omega, by omega⟩⟩
        · unfold Marks
          rw [hw2, ← hD, Below.heap_alloc _ _ _ (by simp)]
          exact heap_alloc_new wr _
        · rw [hw2, ← hBd, ← hD]; simp [go_sem]
        · rw [hw2, ← hbase]; simp
      rw [hBd]
      rw [show (wr.alloc (.cells ((List.range s).map fun _ => Value.bool false).toArray 4)).alloc (.cells #[.slice (some ⟨wr.heap.size, 0, none⟩) s s] 171) = w2 from hw2.symm]
      have HSD := Lib.hid hSD
      have HLE : Hid (w.heap.size ≤ base ∧ wr.heap.size ≤ base) := ⟨by have := HW.out.below.size; omega, by omega⟩
      obtain ⟨j0, hj0, hy0', hy1, hy2⟩ := info_parts info_ints
      have Hj0 := Lib.hid (And.intro hj0 (And.intro hy0' (And.intro hy1 hy2)))
      clear hw2 hb2 hSD hD hBd hbase hmkb hj0 hy0' hy1 hy2 HW HF
      go_loopg [12] s (fun k v12 wr => ∃ (outv : Value) (vs : List Value) (outs : List (List Nat)) (done : Nat → Bool), outv = v12 ∧ k = s - outs.length ∧ SetD w wr O Bo D Bd n s base f done ∧ Outs base outv vs outs wr ∧ Settle (EdL l) n sets outs done ∧ ∀ u ∈ vs, ∀ k, u.ownBlock = some k → k < w.heap.size)
      case atStart => exact ⟨_, [], [], _, rfl, rfl, HSD.out, Outs.start _ _, Settle.start _ _ _, fun _ h => by cases h⟩
      case round =>
        obtain ⟨outv, vs, outs, done, rfl, hk, hSD, hOuts, hSet, hvs⟩ := hrel
        obtain ⟨q, hq⟩ : ∃ q, outs.length = q := ⟨_, rfl⟩
        obtain ⟨ao, co, rfl, hqc, hqm⟩ : ∃ a c, outv = .slice a q c ∧ q ≤ c ∧ c ≤ 9223372036854775807 := by
          obtain ⟨a, c, e, h1, h2, _⟩ := sl_owned hOuts.own .nilFunc
          rw [hOuts.lens, hq] at e h1
          unfold maxLen at h2
          exact ⟨a, c, e, h1, by omega⟩
        rw [hq] at hk
        have hqs : q ≤ s := by have := hSet.len; have := Hs.out; omega
        have Hk := Lib.hid hk
        have HD := Lib.hid hSD
        have HOuts := Lib.hid hOuts
        have HSet := Lib.hid hSet
        have Hq := Lib.hid hq
        have Hvs := Lib.hid hvs
        clear hk hSD hOuts hSet hq hvs
        by_cases hlt : q < s
        · go_wp2_with fail
          obtain ⟨wo, rfl⟩ : ∃ wo : World, wo = wr := ⟨_, rfl⟩
          go_loopg [14, 49] s (fun k v14 v49 wr => ∃ (i : Nat) (best : Int), v14 = .int .i64 best ∧ v49 = .int .i64 i ∧ i ≤ s ∧ k = s - i ∧ BestR sets (candB l f done) i best ∧ Below wo.heap.size wo wr)
          case atStart => exact ⟨0, -1, rfl, rfl, Nat.zero_le _, rfl, BestR.start _ _, Below.refl _ _⟩
          case round =>
            obtain ⟨i, best, rfl, rfl, hi, hk, hBest, hB⟩ := hrel
            have Hk2 := Lib.hid hk
            have HBest := Lib.hid hBest
            have HB := Lib.hid hB
            clear hk hBest hB
            by_cases hlti : i < s
            · obtain ⟨b, o, rfl, hb, hc⟩ := Hcell.out.resolve_left (by omega)
              have hwl := HD.out.set.below.size
              have hmem : ringAt sets i ∈ sets := ringAt_mem (by rw [Hs.out]; exact hlti)
              obtain ⟨rb, ro, m, cap, hV, hm, hm0, hmc, hcm, hrb, hrc⟩ := Row.form (HRow.out i (by rw [Hs.out]; exact hlti)) (Hok.out.rings _ hmem).ne
              have hup : ∀ {a : Addr} {v : Value}, a.block < w.heap.size → w.cell? a = some v → ∀ w', Below wo.heap.size wo w' → w'.cell? a = some v := fun h1 h2 w' hb => (hb.cell (Nat.lt_of_lt_of_le h1 hwl)).trans ((HD.out.set.below.cell h1).trans h2)
              have c0 : wr.cell? ⟨b, o + i, none⟩ = some (V i) := hup hb (by have := hc i 0 hlti (by decide); simpa using this) _ HB.out
              rw [hV] at c0
              have CC : Hid (Calls Tryz.prog 76 #[lv, .func (.func 113) #[] #[.pointer (some ⟨Bo, 0, none⟩), .pointer (some ⟨wr.heap.size, 0, none⟩), .pointer (some ⟨Bd, 0, none⟩)]] (wr.alloc (.cells #[.int .i64 ((i : Nat) : Int)] 3)) fun e w' => e = .returned (.bool (waitsB l f done i)) ∧ Below (wr.alloc (.cells #[.int .i64 ((i : Nat) : Int)] 3)).heap.size (wr.alloc (.cells #[.int .i64 ((i : Nat) : Int)] 3)) w') := by
                have hba : Below wr.heap.size wr (wr.alloc (.cells #[.int .i64 ((i : Nat) : Int)] 3)) := (Below.refl _ _).alloc (Nat.le_refl _) _
                have hDa := (HD.out.below HB.out).below hba
                have hEa : Edges (wr.alloc (.cells #[.int .i64 ((i : Nat) : Int)] 3)) lv l := HE.out.below hDa.set.below (Nat.le_refl _)
                refine containsEdge_calls lv l _ _ (waitE f done i) _ hEa enters_wait ?_
                intro t ht w' hbw
                have hDw := hDa.below hbw
                have hg := HG.out t ht
                obtain ⟨x, y⟩ := t
                obtain ⟨x, rfl⟩ : ∃ x' : Nat, x = ((x' : Nat) : Int) := ⟨x.toNat, by simp only at hg; omega⟩
                obtain ⟨y, rfl⟩ : ∃ y' : Nat, y = ((y' : Nat) : Int) := ⟨y.toNat, by simp only at hg; omega⟩
                simp only at hg
                have hr := ring_of Hok.out HOf.out (a := x) (by omega)
                exact wait_calls x y i f done n s Bo O wr.heap.size Bd D w' hDw.set.box ((hbw.cell (p := ⟨wr.heap.size, 0, none⟩) (by simp)).trans (by simp [go_sem])) hDw.box hDw.set.nums hDw.marks (by omega) (by omega) (by have := Hs.out; omega) (by omega) (by omega)
              have Hc := Lib.hid hc
              have Hm := Lib.hid hm
              have Hrc := Lib.hid hrc
              have HV := Lib.hid hV
              have Hup : Hid (∀ (a : Addr) (v : Value), a.block < w.heap.size → w.cell? a = some v → ∀ w', Below wo.heap.size wo w' → w'.cell? a = some v) := fun _ _ h1 h2 => hup h1 h2
              clear hc hm hrc hV hup hmem
              go_wp2_with fail
              refine CC.out.mono ?_
              rintro e w4 ⟨rfl, hb4⟩
              have hb4' : Below wo.heap.size wo w4 := (HB.out.alloc HB.out.size _).trans (hb4.mono (by have := HB.out.size; simp; omega))
              have HB4 := Lib.hid hb4'
              have hD4 := HD.out.below hb4'
              have dbox := hD4.box
              have cD := hD4.marks.cell hlti
              have cI : w4.cell? ⟨wr.heap.size, 0, none⟩ = some (.int .i64 ((i : Nat) : Int)) := (hb4.cell (p := ⟨wr.heap.size, 0, none⟩) (by simp)).trans (by simp [go_sem])
              have lI := hb4.size
              have lD := hD4.marks.lt
              have lBd := World.block_lt_of_cell? w4 _ dbox
              have cs0 : w4.cell? ⟨rb, ro, none⟩ = some (.int .i64 ((hd (ringAt sets i) : Nat) : Int)) := Hup.out _ _ hrb (Hrc.out 0 hm0) _ hb4'
              obtain ⟨di, hdi⟩ : ∃ di, done i = di := ⟨_, rfl⟩
              obtain ⟨wi, hwi⟩ : ∃ wi, waitsB l f done i = wi := ⟨_, rfl⟩
              obtain ⟨hi1, hhi⟩ : ∃ x, hd (ringAt sets i) = x := ⟨_, rfl⟩
              rw [hdi] at cD
              rw [hwi]
              rw [hhi] at cs0
              have Hdi := Lib.hid hdi
              have Hwi := Lib.hid hwi
              have Hhi := Lib.hid hhi
              clear c0 CC hb4 hb4' hD4 hdi hwi hhi
              cases di
              case' true =>
                have HN : Hid (BestR sets (candB l f done) (i + 1) best) := HBest.out.keep (Or.inl (by unfold candB; rw [Hdi.out]; rfl))
                clear HBest
                go_wp2_with fail
                go_quiet (fail)
                have HB5 : Hid (Below wo.heap.size wo (w4.drewN nq)) := drewN_below HB4.out _
                go_wp2_with fail
                go_roundg (s - (i + 1))
                case rel => exact ⟨i + 1, _, rfl, by go_num, by omega, rfl, HN.out, HB5.out⟩
                case measure => have := Hk2.out; omega

              cases wi
              case' true =>
                have HN : Hid (BestR sets (candB l f done) (i + 1) best) := HBest.out.keep (Or.inl (by unfold candB; rw [Hdi.out, Hwi.out]; rfl))
                clear HBest
                go_wp2_with fail
                go_quiet (fail)
                have HB5 : Hid (Below wo.heap.size wo (w4.drewN nq)) := drewN_below HB4.out _
                go_wp2_with fail
                go_roundg (s - (i + 1))
                case rel => exact ⟨i + 1, _, rfl, by go_num, by omega, rfl, HN.out, HB5.out⟩
                case measure => have := Hk2.out; omega

              have HC : Hid (candB l f done i = true) := by show _ = _; unfold candB; rw [Hdi.out, Hwi.out]; rfl
              by_cases hneg : best < 0
              · have HN : Hid (BestR sets (candB l f done) (i + 1) ((i : Nat) : Int)) := HBest.out.take HC.out (Or.inl hneg)
                have e1 : decide (best < 0) = true := decide_eq_true hneg
                clear HBest hneg
                go_wp2_with fail
                go_quiet (fail)
                have HB5 : Hid (Below wo.heap.size wo (w4.drewN nq)) := drewN_below HB4.out _
                go_wp2_with fail
                go_roundg (s - (i + 1))
                case rel => exact ⟨i + 1, _, rfl, by go_num, by omega, rfl, HN.out, HB5.out⟩
                case measure => have := Hk2.out; omega

              · have hbd := HBest.out.bound
                obtain ⟨bb, rfl⟩ : ∃ bb : Nat, best = ((bb : Nat) : Int) := ⟨best.toNat, by omega⟩
                have hbs : bb < s := by omega
                have e1 : decide (((bb : Nat) : Int) < 0) = false := decide_eq_false hneg
                obtain ⟨rb2, ro2, m2, cap2, hV2, hm2, hm02, hmc2, hcm2, hrb2, hrc2⟩ := Row.form (HRow.out bb (by rw [Hs.out]; exact hbs)) (Hok.out.rings _ (ringAt_mem (by rw [Hs.out]; exact hbs))).ne
                have cb : w4.cell? ⟨b, o + bb, none⟩ = some (V bb) := Hup.out _ _ hb (by have := Hc.out bb 0 hbs (by decide); simpa using this) _ HB4.out
                rw [hV2] at cb
                have cs2 : w4.cell? ⟨rb2, ro2, none⟩ = some (.int .i64 ((hd (ringAt sets bb) : Nat) : Int)) := Hup.out _ _ hrb2 (hrc2 0 hm02) _ HB4.out
                obtain ⟨hb1, hhb⟩ : ∃ x, hd (ringAt sets bb) = x := ⟨_, rfl⟩
                rw [hhb] at cs2
                have Hhb := Lib.hid hhb
                clear hV2 hm2 hrc2 hhb hbd hneg
                by_cases hl : hi1 < hb1
                · have HN : Hid (BestR sets (candB l f done) (i + 1) ((i : Nat) : Int)) := HBest.out.take HC.out (Or.inr (by rw [Int.toNat_natCast, Hhi.out, Hhb.out]; exact hl))
                  have e2 : decide (((hi1 : Nat) : Int) < ((hb1 : Nat) : Int)) = true := decide_eq_true (by omega)
                  have e3 : decide (hi1 < hb1) = true := decide_eq_true hl
                  clear HBest hl
                  go_wp2_with fail
                  go_quiet (fail)
                  have HB5 : Hid (Below wo.heap.size wo (w4.drewN nq)) := drewN_below HB4.out _
                  go_wp2_with fail
                  go_roundg (s - (i + 1))
                  case rel => exact ⟨i + 1, _, rfl, by go_num, by omega, rfl, HN.out, HB5.out⟩
                  case measure => have := Hk2.out; omega

                · have HN : Hid (BestR sets (candB l f done) (i + 1) ((bb : Nat) : Int)) := HBest.out.keep (Or.inr ⟨by omega, by rw [Int.toNat_natCast, Hhi.out, Hhb.out]; omega⟩)
                  have e2 : decide (((hi1 : Nat) : Int) < ((hb1 : Nat) : Int)) = false := decide_eq_false (by omega)
                  have e3 : decide (hi1 < hb1) = false := decide_eq_false hl
                  clear HBest hl
                  go_wp2_with fail
                  go_quiet (fail)
                  have HB5 : Hid (Below wo.heap.size wo (w4.drewN nq)) := drewN_below HB4.out _
                  go_wp2_with fail
                  go_roundg (s - (i + 1))
                  case rel => exact ⟨i + 1, _, rfl, by go_num, by omega, rfl, HN.out, HB5.out⟩
                  case measure => have := Hk2.out; omega

            · obtain rfl : s = i := by omega
              obtain ⟨bb, rfl, hbl, hSet2⟩ := best_end HG.out HSet.out Hok.out HOf.out (by rw [Hq.out, Hs.out]; exact hlt) (by rw [Hs.out]; exact HBest.out)
              rw [Hs.out] at hbl
              have HSet2 := Lib.hid hSet2
              have hDr := HD.out.below HB.out
              have hSb := Settle.len hSet2
              have hls : vs.length ≤ 40 := by have := HOuts.out.lens; have := Hq.out; omega
              obtain ⟨b, o, rfl, hb, hc⟩ := Hcell.out.resolve_left (by omega)
              obtain ⟨rb2, ro2, m2, cap2, hV2, hm2, hm02, hmc2, hcm2, hrb2, hrc2⟩ := Row.form (HRow.out bb (by rw [Hs.out]; exact hbl)) (Hok.out.rings _ (ringAt_mem (by rw [Hs.out]; exact hbl))).ne
              have dbox := hDr.box
              have cD := hDr.marks.cell hbl
              have zD := hDr.marks.free bb
              have lD := hDr.marks.lt
              have lBd := World.block_lt_of_cell? wr _ dbox
              have HDr := Lib.hid hDr
              clear hSet2 hDr HBest
              go_upto_region 23 with fail
              obtain ⟨w5, hw5⟩ : ∃ w5 : World, w5 = wr.setCell ⟨D, bb, none⟩ (.bool true) := ⟨_, rfl⟩
              rw [← hw5]
              have hD5 : SetD w w5 O Bo D Bd n s base f (updB done bb) := by rw [hw5]; exact HDr.out.mark bb
              have cb : w5.cell? ⟨b, o + bb, none⟩ = some (V bb) := (hD5.set.below.cell (p := ⟨b, o + bb, none⟩) hb).trans (by have := hc bb 0 hbl (by decide); simpa using this)
              rw [hV2] at cb
              have hO5 : Outs base (.slice ao q co) vs outs w5 := by
                have hOr := HOuts.out.keep HB.out.size (fun k hk => HB.out.block k hk)
                rw [hw5]
                refine hOr.kept (by simp [World.setCell]) (fun k e => heap_setCell_ne wr D bb _ ?_)
                have hlt := HDr.out.lt
                have hge := HDr.out.ge
                rcases e with e | ⟨u, hu, e⟩
                · have := (hOr.own.lt k e).1; omega
                · have := Hvs.out u hu k e; omega
              have hRow5 : Row w5 (.slice (some ⟨rb2, ro2, none⟩) m2 cap2) (ringAt sets bb) := by
                rw [← hV2]
                exact (HRow.out bb (by rw [Hs.out]; exact hbl)).below hD5.set.below (Nat.le_refl _)
              have hle5 := hD5.le
              have lw := hD5.set.below.size
              have HD5 := Lib.hid hD5
              have HO5 := Lib.hid hO5
              have HRow5 := Lib.hid hRow5
              have hvq : vs.length = q := HOuts.out.lens.trans Hq.out
              have Hvq := Lib.hid hvq
              clear hw5 hD5 hO5 hRow5 hc hV2 hm2 hrc2 dbox cD zD lD lBd HDr hvq
              go_wp2_with (at_builtin; refine wpList_append_own_at _ rfl _ _ 132 rfl base 31 j0 _ 1 24 Tryz.underlying132 Hj0.out.1 Hj0.out.2.1 Hj0.out.2.2.1 Hj0.out.2.2.2 rfl (by decide) (.slice ao q co) vs.length vs rfl (HO5.out.own.alloc _) ⟨w5.heap.size, 0, none⟩ 1 1 [.slice (some ⟨rb2, ro2, none⟩) m2 cap2] rfl rfl (World.news_of_block (cs := #[.slice (some ⟨rb2, ro2, none⟩) m2 cap2]) (t := 31) (fr := (0, 0)) (heap_alloc_new w5 _)) (by simp [Value.oneCell']) (by unfold maxLen; omega) (by omega) (by simp; omega) ?_)
              intro ov6 w6 hown6 hg6 _ hat6
              have hOa : Outs base (.slice ao q co) vs outs (w5.alloc (.cells #[.slice (some ⟨rb2, ro2, none⟩) m2 cap2] 31)) := HO5.out.keep (by simp) (fun k hk => Below.heap_alloc w5 _ k hk)
              have hba : Below w.heap.size w (w5.alloc (.cells #[.slice (some ⟨rb2, ro2, none⟩) m2 cap2] 31)) := HD5.out.set.below.alloc lw _
              have hgb : ∀ k, (Value.slice ao q co).ownBlock = some k → base ≤ k := fun k e => (HO5.out.own.lt k e).1
              have hb6 : Below w.heap.size w w6 := hba.grown hg6 (by simp; omega) (fun k e => by have := hgb k e; have := HLE.out.1; omega)
              have hD6 : SetD w w6 O Bo D Bd n s base f (updB done bb) := HD5.out.keep hb6 (Nat.le_trans (by simp) hg6.size) (fun k hk => (hg6.block k (by simp; omega) (fun e => by have := hgb k e.symm; omega)).trans (Below.heap_alloc w5 _ k (by omega)))
              have hO6 := hOa.push hg6 hown6 (by simpa using hat6) (S := ringAt sets bb) (HRow5.out.kept (by simp) (fun k e => by
                have ek : rb2 = k := by simpa [Value.ownBlock] using e
                exact Below.heap_alloc w5 _ k (by omega))) (fun k e => by
                have ek : rb2 = k := by simpa [Value.ownBlock] using e
                refine ⟨fun e' => ?_, by simp; omega⟩
                have := hgb k e'
                have := HLE.out.1
                omega)
              have hvs6 : ∀ u ∈ vs ++ [.slice (some ⟨rb2, ro2, none⟩) m2 cap2], ∀ k, u.ownBlock = some k → k < w.heap.size := by
                intro u hu k e
                rcases List.mem_append.1 hu with hu | hu
                · exact Hvs.out u hu k e
                · rw [List.mem_singleton.1 hu] at e
                  have ek : rb2 = k := by simpa [Value.ownBlock] using e
                  omega
              have HD6 := Lib.hid hD6
              have HO6 := Lib.hid hO6
              have Hvs6 := Lib.hid hvs6
              have HK6 : Hid (s - (q + 1) = s - (outs ++ [ringAt sets bb]).length) := by show _ = _; rw [List.length_append, Hq.out]; rfl
              clear hown6 hg6 hat6 hOa hba hb6 hD6 hO6 hvs6 cb
              go_wp2_with fail
              go_roundg (s - (q + 1))
              case rel => exact ⟨_, _, _, _, rfl, HK6.out, HD6.out, HO6.out, HSet2.out, Hvs6.out⟩
              case measure => have := Hk.out; omega
        · obtain rfl : s = q := by omega
          have HEnd := Lib.hid (settle_end HSet.out Hok.out (by rw [Hq.out, Hs.out]; exact Nat.le_refl _))
          have HRows := Lib.hid HOuts.out.rows
          go_wp2_with fail
          go_ret
          exact ⟨_, outs, rfl, HRows.out, HEnd.out.1, HEnd.out.2, by rw [Hq.out]; exact hsl, HD.out.set.below⟩
end Go.Proofs.YtnfnebfioibndaaGreatDoor
