/- slices.DeleteFunc at offers: the walk itself. -/
import Derived.Test.YtnfnebfioibndaaGreatDoorDelF
namespace Go.Proofs.YtnfnebfioibndaaGreatDoor
open Go.RowKit
set_option maxRecDepth 100000
set_option maxHeartbeats 4000000

def DelR (g : Nat) (w : World) (os : List OffD) (p : OffD → Bool) (e : Ending) (w' : World) : Prop := ∃ v', e = .returned v' ∧ Offs w' v' (os.filter (fun o => !p o)) ∧ Below g w w'

theorem below_setCells {B g : Nat} (hg : B ≤ g) : ∀ (L : List Value) (o : Nat) {a : World} (w : World), Below B a w → Below B a (w.setCells g o L)
  | [], _, _, _, h => h
  | v :: L, o, _, w, h => below_setCells hg L (o + 1) (w.setCell ⟨g, o, none⟩ v) (h.setCell hg v)
theorem size_setCells (g : Nat) : ∀ (L : List Value) (o : Nat) (w : World), (w.setCells g o L).heap.size = w.heap.size
  | [], _, _ => rfl
  | v :: L, o, w => (size_setCells g L (o + 1) (w.setCell ⟨g, o, none⟩ v)).trans (by simp [World.setCell])

theorem deleteOff_calls (g n cap base : Nat) (os : List OffD) (fg : FuncId) (caps : Array Value) (p : OffD → Bool) (w : World) (hn : os.length = n) (hn20 : n ≤ 20)
    (hown : w.ownsRow base 73 5 (.slice (some ⟨g, 0, none⟩) n cap) n (rowsOf os)) (hbase : base ≤ g) (hg : g < w.heap.size) (hcap : n ≤ cap ∧ cap ≤ 2 ^ 63 - 1)
    (hpv : ∀ o ∈ os, ∃ a k c, o.pv = .slice a k c)
    (eg : ∀ args w, (callFunc fg args).run Tryz.prog w = .ok (.enter fg args) w)
    (hf : ∀ o ∈ os, ∀ w', Below g w w' → w.heap.size ≤ w'.heap.size → Calls Tryz.prog fg (#[.agg #[.string o.name, .int .i64 o.ep, .string o.up, .string o.rv, o.pv]] ++ caps) w' fun e w'' => e = .returned (.bool (p o)) ∧ Below w'.heap.size w' w'') :
    Calls Tryz.prog 24 #[.slice (some ⟨g, 0, none⟩) n cap, .func (.func fg) #[] caps] w (DelR g w os p) := by
  have HI := Lib.hid (firstOff_calls (.slice (some ⟨g, 0, none⟩) n cap) n (fun i => os.getD i default) fg caps (fun i => p (os.getD i default)) w (by have := (offs_owned (os := os) (by rw [hn]; exact hown)).1; rwa [hn] at this) eg (fun i hi w' hb => hf _ (mem_getD _ (by omega)) w' (hb.mono (by omega)) hb.size))
  have Hown := Lib.hid hown
  have Hpv := Lib.hid hpv
  have Hf := Lib.hid hf
  have Hn := Lib.hid hn
  obtain ⟨hc1, hc2⟩ := hcap
  clear hown hpv hf hn
  go_enter Tryz.func24, Tryz.ntmps24
  go_wp2_with fail
  refine HI.out.mono ?_
  rintro e w1 ⟨k, rfl, hk, hb⟩
  clear HI
  rcases hk with ⟨rfl, hall⟩ | ⟨i0, rfl, hi0, hp0, hq0⟩
  · have Hall := Lib.hid hall
    clear hall
    go_wp2_with fail
    go_ret
    refine ⟨_, rfl, ?_, hb.mono (by omega)⟩
    have : os.filter (fun o => !p o) = os := by
      have := filter_len_take (os := os) (p := p) (k := n) (by rw [Hn.out]; exact Nat.le_refl _) Hall.out
      rwa [List.take_of_length_le (by rw [Hn.out]; exact Nat.le_refl _)] at this
    rw [this]
    exact (offs_owned (by rw [Hn.out]; exact Hown.out)).below hb (Nat.le_refl _)
  · have HM := Lib.hid (Mid.start (w := w) (g := g) Hn.out (owns_below Hown.out hb) hi0 hp0 hq0 (hb.mono (by omega)) hb.size)
    have hsz1 := hb.size
    clear hp0 hq0 hb
    go_wp2_with fail
    go_loopg [5, 6] n (fun k v5 v6 wr => ∃ (i j : Nat) (xs : List Value), v5 = .int .i64 i ∧ v6 = .int .i64 j ∧ j ≤ n ∧ n - j ≤ k ∧ Mid w base g n cap os p i j wr xs)
    case atStart => exact ⟨i0, i0 + 1, _, rfl, by go_num, by omega, by omega, HM.out⟩
    case round =>
      clear HM
      obtain ⟨i, j, xs, rfl, rfl, hj, hk, hM⟩ := hrel
      have Hk := Lib.hid hk
      have HM := Lib.hid hM
      have hij := hM.ij
      have hgr : g < wr.heap.size := Nat.lt_of_lt_of_le hg hM.size
      clear hk
      by_cases hjl : j < n
      · obtain ⟨o, ho⟩ : ∃ o, os.getD j default = o := ⟨_, rfl⟩
        have hmem : o ∈ os := by rw [← ho]; exact mem_getD _ (by rw [Hn.out]; exact hjl)
        obtain ⟨pa, pn, pc, hpv⟩ := Hpv.out o hmem
        have hat : ∀ c, c < 5 → wr.cell? ⟨g, j * 5 + c, none⟩ = some (o.row c) := fun c hc => by
          rw [hM.own.cellAt (j * 5 + c) (by omega), hM.rest j c (Nat.le_refl _) hjl hc, ho]
        have c0 : wr.cell? ⟨g, j * 5, none⟩ = some (.string o.name) := hat 0 (by decide)
        have c1 : wr.cell? ⟨g, j * 5 + 1, none⟩ = some (.int .i64 o.ep) := hat 1 (by decide)
        have c2 : wr.cell? ⟨g, j * 5 + 2, none⟩ = some (.string o.up) := hat 2 (by decide)
        have c3 : wr.cell? ⟨g, j * 5 + 3, none⟩ = some (.string o.rv) := hat 3 (by decide)
        have c4 : wr.cell? ⟨g, j * 5 + 4, none⟩ = some (.slice pa pn pc) := by rw [← hpv]; exact hat 4 (by decide)
        have Ho := Lib.hid ho
        have HC : Hid (∀ w', Below wr.heap.size wr w' → Calls Tryz.prog fg (#[.agg #[.string o.name, .int .i64 o.ep, .string o.up, .string o.rv, .slice pa pn pc]] ++ caps) w' fun e w'' => e = .returned (.bool (p o)) ∧ Below w'.heap.size w' w'') := by
          intro w' hb'
          have := Hf.out o hmem w' (HM.out.below.trans (hb'.mono (by omega))) (Nat.le_trans HM.out.size hb'.size)
          rwa [hpv] at this
        have Hpo := Lib.hid hpv
        clear hM hat hmem hpv ho
        obtain ⟨wt, hwt⟩ : ∃ wt : World, wt = wr.alloc (.cells #[.string o.name, .int .i64 o.ep, .string o.up, .string o.rv, .slice pa pn pc] 73) := ⟨_, rfl⟩
        have hBt : Below wr.heap.size wr wt := by rw [hwt]; exact (Below.refl _ _).alloc (Nat.le_refl _) _
        have b0 : wt.cell? ⟨wr.heap.size, 0, none⟩ = some (.string o.name) := by rw [hwt, World.cell?_alloc_new]; rfl
        have b1 : wt.cell? ⟨wr.heap.size, 1, none⟩ = some (.int .i64 o.ep) := by rw [hwt, World.cell?_alloc_new]; rfl
        have b2 : wt.cell? ⟨wr.heap.size, 2, none⟩ = some (.string o.up) := by rw [hwt, World.cell?_alloc_new]; rfl
        have b3 : wt.cell? ⟨wr.heap.size, 3, none⟩ = some (.string o.rv) := by rw [hwt, World.cell?_alloc_new]; rfl
        have b4 : wt.cell? ⟨wr.heap.size, 4, none⟩ = some (.slice pa pn pc) := by rw [hwt, World.cell?_alloc_new]; rfl
        have hzt : wr.heap.size < wt.heap.size := by rw [hwt]; simp
        have Hwt := Lib.hid hwt
        clear hwt
        go_wp2_with fail
        rw [show wr.alloc (.cells _ _) = wt from Hwt.out.symm]
        refine (HC.out wt hBt).mono ?_
        rintro e1 w2 ⟨rfl, hb2⟩
        have hB2 := hBt.trans (hb2.mono hBt.size)
        clear c0 c1 c2 c3 c4 HC
        cases hpo : p o
        · have HK := Lib.hid (Mid.keep Hn.out HM.out hjl (by rw [Ho.out]; exact hpo) hB2 (by omega) hbase o Ho.out)
          have e0 := (hb2.cell (p := ⟨wr.heap.size, 0, none⟩) hzt).trans b0
          have e1 := (hb2.cell (p := ⟨wr.heap.size, 1, none⟩) hzt).trans b1
          have e2 := (hb2.cell (p := ⟨wr.heap.size, 2, none⟩) hzt).trans b2
          have e3 := (hb2.cell (p := ⟨wr.heap.size, 3, none⟩) hzt).trans b3
          have e4 := (hb2.cell (p := ⟨wr.heap.size, 4, none⟩) hzt).trans b4
          have ow := owns_below HM.out.own hB2
          have hx : xs.length = n * 5 := HM.out.own.1
          have f0 : w2.cell? ⟨g, i * 5, none⟩ = some (xs[i * 5]'(by omega)) := by rw [ow.cellAt (i * 5) (by omega)]; exact List.getElem?_eq_getElem _
          have f1 : w2.cell? ⟨g, i * 5 + 1, none⟩ = some (xs[i * 5 + 1]'(by omega)) := by rw [ow.cellAt (i * 5 + 1) (by omega)]; exact List.getElem?_eq_getElem _
          have f2 : w2.cell? ⟨g, i * 5 + 2, none⟩ = some (xs[i * 5 + 2]'(by omega)) := by rw [ow.cellAt (i * 5 + 2) (by omega)]; exact List.getElem?_eq_getElem _
          have f3 : w2.cell? ⟨g, i * 5 + 3, none⟩ = some (xs[i * 5 + 3]'(by omega)) := by rw [ow.cellAt (i * 5 + 3) (by omega)]; exact List.getElem?_eq_getElem _
          have f4 : w2.cell? ⟨g, i * 5 + 4, none⟩ = some (xs[i * 5 + 4]'(by omega)) := by rw [ow.cellAt (i * 5 + 4) (by omega)]; exact List.getElem?_eq_getElem _
          have z0 := ow.frozenAt (i * 5)
          have z1 := ow.frozenAt (i * 5 + 1)
          have z2 := ow.frozenAt (i * 5 + 2)
          have z3 := ow.frozenAt (i * 5 + 3)
          have z4 := ow.frozenAt (i * 5 + 4)
          have hgw : g < w2.heap.size := by have := hB2.size; omega
          clear b0 b1 b2 b3 b4 ow hpo hb2
          go_wp2_with fail
          go_roundg (n - (j + 1))
          case rel => exact ⟨i + 1, j + 1, _, by go_num, by go_num, by omega, Nat.le_refl _, by have := HK.out; rw [show o.row 4 = .slice pa pn pc from Hpo.out] at this; exact this⟩
          case measure => have := Hk.out; omega
        · have HK := Lib.hid (Mid.skip Hn.out HM.out hjl (by rw [Ho.out]; exact hpo) hB2 (by omega))
          clear b0 b1 b2 b3 b4 hpo hb2
          go_wp2_with fail
          go_roundg (n - (j + 1))
          case rel => exact ⟨i, j + 1, xs, rfl, by go_num, by omega, Nat.le_refl _, HK.out⟩
          case measure => have := Hk.out; omega
      · obtain rfl : j = n := by omega
        have zc : ∀ w, (zeroValue 73).run Tryz.prog w = .ok (.agg #[.string ⟨#[]⟩, .int .i64 0, .string ⟨#[]⟩, .string ⟨#[]⟩, .slice none 0 0]) w := fun w => by kernel_rfl
        have hxl : xs.length = j * 5 := hM.own.1
        have hcl : ∀ ty, (Builtin.clear_ #[70] ty #[.slice (some ⟨g, i * 5, none⟩) (j - i) (cap - i)]).run Tryz.prog wr = .ok (.tuple #[]) (wr.setCells g (i * 5) (Builtin.zeroCells #[.string ⟨#[]⟩, .int .i64 0, .string ⟨#[]⟩, .string ⟨#[]⟩, .slice none 0 0] (j - i)).toList) := fun ty =>
          run_clear_cells wr _ _ ty _ #[.string ⟨#[]⟩, .int .i64 0, .string ⟨#[]⟩, .string ⟨#[]⟩, .slice none 0 0] Tryz.underlying70 zc rfl (by simp [Value.oneCell']) g (i * 5) (j - i) (cap - i) (by omega)
            (fun t ht => by
              have ht' : t < (j - i) * 5 := ht
              rw [hM.own.cellAt (i * 5 + t) (by omega), List.getElem?_eq_getElem (by omega)]; rfl)
            (fun t _ => hM.own.frozenAt _)
        clear zc hM hxl
        go_wp2_with fail
        go_ret
        refine ⟨.slice (some ⟨g, 0, none⟩) i cap, rfl, ?_, below_setCells (Nat.le_refl _) _ _ _ HM.out.below⟩
        have htk : os.take j = os := List.take_of_length_le (by rw [Hn.out]; exact Nat.le_refl _)
        have hlen := HM.out.len
        have hkept := HM.out.kept
        rw [htk] at hlen hkept
        refine ⟨⟨some ⟨g, 0, none⟩, cap, by rw [← hlen], by omega, by unfold maxLen; omega, Or.inr ⟨g, 0, rfl, by rw [size_setCells]; exact hgr, fun r c hr hc => ?_⟩⟩, trivial⟩
        rw [World.cell?_setCells_out g _ _ _ _ (by intro _ _; left; show 0 + r * 5 + c < _; omega), Nat.zero_add, HM.out.own.cellAt (r * 5 + c) (by omega)]
        exact hkept r c (by omega) hc
end Go.Proofs.YtnfnebfioibndaaGreatDoor
