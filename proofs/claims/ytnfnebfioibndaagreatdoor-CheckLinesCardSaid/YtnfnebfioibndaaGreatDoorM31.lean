/- stevedoreref.Rings: all in rings, in order, by what can be come to. -/
import Derived.Test.YtnfnebfioibndaaGreatDoorM25
import Derived.Test.YtnfnebfioibndaaGreatDoorM29
import Derived.Test.YtnfnebfioibndaaGreatDoorM30
import Derived.StillTailTactics
import Derived.Outline
namespace Go.Proofs.YtnfnebfioibndaaGreatDoor
open Go.RowKit
set_option maxRecDepth 100000
set_option maxHeartbeats 4000000

theorem right_cases (n : Int) (l : List EdgeD) : rightR n l = (0, -1) ∨ rightR n l = (4, -1) ∨ ∃ i : Nat, rightR n l = (2, ((i : Nat) : Int)) := by
  have key : ∀ (l : List EdgeD) (i : Nat), firstBad n l ((i : Nat) : Int) = (0, -1) ∨ ∃ j : Nat, firstBad n l ((i : Nat) : Int) = (2, ((j : Nat) : Int)) := by
    intro l
    induction l with
    | nil => intro i; exact Or.inl rfl
    | cons e l ih =>
      intro i
      rw [firstBad]
      cases badE n e
      · exact ih (i + 1)
      · exact Or.inr ⟨i, rfl⟩
  unfold rightR
  split
  · exact Or.inr (Or.inl rfl)
  · rcases key l 0 with h | h
    · exact Or.inl h
    · exact Or.inr (Or.inr h)
theorem neq_fine : ∀ w, (binOp .neq 42 (.agg #[.int .i64 0, .int .i64 (-1)]) (.agg #[.int .i64 0, .int .i64 (-1)])).run Tryz.prog w = .ok (.bool false) w := fun w => by kernel_rfl
theorem neq_four : ∀ w, (binOp .neq 42 (.agg #[.int .i64 4, .int .i64 (-1)]) (.agg #[.int .i64 0, .int .i64 (-1)])).run Tryz.prog w = .ok (.bool true) w := fun w => by kernel_rfl
theorem neq_two (i : Nat) : ∀ w, (binOp .neq 42 (.agg #[.int .i64 2, .int .i64 ((i : Nat) : Int)]) (.agg #[.int .i64 0, .int .i64 (-1)])).run Tryz.prog w = .ok (.bool true) w := fun w => by kernel_rfl

/-- A store into an old block leaves rings that were told as they are. -/
theorem rows2_cells {w : World} {base b : Nat} {outv : Value} {vs : List Value} {xss : List (List Nat)} {x y : Value} (_ : Rows2 w outv xss) (hO : Outs base outv vs xss w) (hv : ∀ u ∈ vs, ∀ k, u.ownBlock = some k → base ≤ k) (hb : b < base) (_ : base ≤ base) :
    Rows2 ((w.setCell ⟨b, 0, none⟩ x).setCell ⟨b, 1, none⟩ y).drew outv xss := by
  refine Outs.rows (base := base) (vs := vs) (hO.kept (by show _ ≤ ((w.setCell _ _).setCell _ _).heap.size; simp [World.setCell]) (fun k e => ?_))
  have hk : k ≠ b := by
    rcases e with e | ⟨u, hu, e⟩
    · have := (hO.own.lt k e).1; omega
    · have := hv u hu k e; omega
  show ((w.setCell ⟨b, 0, none⟩ x).setCell ⟨b, 1, none⟩ y).heap[k]? = _
  rw [heap_setCell_ne _ b 1 _ hk, heap_setCell_ne _ b 0 _ hk]

def RefRingsE (w : World) (n : Int) (l : List EdgeD) (e : Ending) (w' : World) : Prop :=
  ∃ (rv : Value) (outs : List (List Nat)), e = .returned (.tuple #[rv, .agg #[.int .i64 (rightR n l).1, .int .i64 (rightR n l).2]]) ∧ Rows2 w' rv outs ∧ (rightR n l ≠ (0, -1) → outs = []) ∧ (rightR n l = (0, -1) → ∀ m : Nat, n = m → InOrder (EdL l) m outs ∧ AllTold m outs) ∧ outs.length ≤ 40 ∧ Below w.heap.size w w'

theorem refRings_bad (v : Value) (l : List EdgeD) (n : Int) (w : World) (hE : Edges w v l) (hN : FineR w) (p q : Int) (hr : rightR n l = (p, q)) (hbad : (p, q) ≠ (0, -1)) (hneq : ∀ w, (binOp .neq 42 (.agg #[.int .i64 p, .int .i64 q]) (.agg #[.int .i64 0, .int .i64 (-1)])).run Tryz.prog w = .ok (.bool true) w) :
    Calls Tryz.prog 80 #[.int .i64 n, v] w (RefRingsE w n l) := by
  obtain ⟨w0, hw0⟩ : ∃ w0 : World, w0 = w.alloc (.cells #[.int .i64 0, .int .i64 0] 42) := ⟨_, rfl⟩
  have hB0 : Below w.heap.size w w0 := by rw [hw0]; go_grown
  have hz0 : w0.heap.size = w.heap.size + 1 := by rw [hw0]; simp
  have hRC : ResC w0 w.heap.size := by rw [hw0]; exact ResC.new _
  have hC := refEdges_calls v l n w0 (hE.below hB0 (Nat.le_refl _)) (hN.below hB0 (Nat.le_refl _))
  rw [hr] at hC
  have CE := Lib.hid hC
  have HN := Lib.hid (hN.below hB0 (Nat.le_refl _))
  have HRC := Lib.hid hRC
  have HB0 := Lib.hid hB0
  have Hz := Lib.hid hz0
  have Hw := Lib.hid hw0
  have Hr := Lib.hid hr
  clear hC hE hN hB0 hz0 hRC hw0 hr
  go_enter Tryz.func80, Tryz.ntmps80
  go_wp2_with fail
  rw [← Hw.out]
  go_wp2_with fail
  refine CE.out.mono ?_
  rintro e1 w1 ⟨rfl, hc1⟩
  have hfn := HN.out.below (hc1.alloc hc1.size (.cells #[.int .i64 p, .int .i64 q] 42)) (Nat.le_refl _)
  have f0 := hfn.c0
  have f1 := hfn.c1
  have fl := hfn.lt
  have hrc := (HRC.out.below hc1 HRC.out.lt).below ((Below.refl _ _).alloc (Nat.le_refl _) (.cells #[.int .i64 p, .int .i64 q] 42)) (HRC.out.below hc1 HRC.out.lt).lt
  have c0 := hrc.c0
  have c1 := hrc.c1
  have z0 := hrc.z0
  have z1 := hrc.z1
  have hrl := hrc.lt
  have d0 := hrc.d0 (.int .i64 p)
  have d1 := hrc.d1 (.int .i64 p) (.int .i64 q)
  clear hfn hrc
  go_wp2_with fail
  go_region
  go_wp2_with fail
  try simp only [Exit.inBlock, Exit.then]
  refine bodyPost_ret (v := .tuple #[.slice none 0 0, .agg #[.int .i64 p, .int .i64 q]]) (by simp [results, Tryz.results80, go_sem, d0, d1]; try rfl) rfl ?_
  refine ⟨.slice none 0 0, [], by rw [Hr.out], ⟨fun _ => .nilFunc, Sl.nil _ _ _, fun i hi => absurd hi (Nat.not_lt_zero _)⟩, fun _ => rfl, fun h => absurd (Hr.out.symm.trans h) hbad, by decide, ?_⟩
  exact HB0.out.trans (((((hc1.alloc hc1.size _).mono HB0.out.size).setCell (Nat.le_refl _) _).setCell (Nat.le_refl _) _).drew)

theorem refRings_good (v : Value) (l : List EdgeD) (n : Nat) (w : World) (hE : Edges w v l) (hN : FineR w) (hr : rightR ((n : Nat) : Int) l = (0, -1)) (hlen : l.length ≤ 100000) :
    Calls Tryz.prog 80 #[.int .i64 ((n : Nat) : Int), v] w (RefRingsE w n l) := by
  obtain ⟨n', hn', hn40, hG⟩ := right_fine hr
  obtain rfl : n = n' := by omega
  have HG := Lib.hid hG
  have m1 := mk_boolc n (by omega)
  have m2 := mk_boolrows n (by omega)
  have hneq := neq_fine
  clear hn' hG
  obtain ⟨m, hm⟩ : ∃ m, l.length = m := ⟨_, rfl⟩
  have Hm := Lib.hid hm
  have hE' := hE
  obtain ⟨al, cl, rfl, hcl, hml, hcell⟩ := hE
  unfold maxLen at hml
  have Hcell := Lib.hid hcell
  rw [hm] at hcl hlen hE' Hcell ⊢
  have hE := hE'
  clear hm hcell hE'
  obtain ⟨w0, hw0⟩ : ∃ w0 : World, w0 = w.alloc (.cells #[.int .i64 0, .int .i64 0] 42) := ⟨_, rfl⟩
  have hB0 : Below w.heap.size w w0 := by rw [hw0]; go_grown
  have hz0 : w0.heap.size = w.heap.size + 1 := by rw [hw0]; simp
  have hRC : ResC w0 w.heap.size := by rw [hw0]; exact ResC.new _
  have hC := refEdges_calls _ l n w0 (hE.below hB0 (Nat.le_refl _)) (hN.below hB0 (Nat.le_refl _))
  rw [hr] at hC
  have CE := Lib.hid hC
  have HN := Lib.hid (hN.below hB0 (Nat.le_refl _))
  have HRC := Lib.hid hRC
  have HB0 := Lib.hid hB0
  have Hz := Lib.hid hz0
  have Hw := Lib.hid hw0
  have Hr := Lib.hid hr
  clear hC hE hN hB0 hz0 hRC hw0 hr
  go_enter Tryz.func80, Tryz.ntmps80
  go_wp2_with fail
  rw [← Hw.out]
  go_wp2_with fail
  refine CE.out.mono ?_
  rintro e1 w1 ⟨rfl, hc1⟩
  have hfn := HN.out.below (hc1.alloc hc1.size (.cells #[.int .i64 0, .int .i64 (-1)] 42)) (Nat.le_refl _)
  have f0 := hfn.c0
  have f1 := hfn.c1
  have fl := hfn.lt
  clear hfn
  go_wp2_with fail
  obtain ⟨base, hbase⟩ : ∃ base, w1.heap.size + 1 = base := ⟨_, rfl⟩
  obtain ⟨w2, hw2⟩ : ∃ w2 : World, w2 = w1.alloc (.cells #[.int .i64 0, .int .i64 (-1)] 42) := ⟨_, rfl⟩
  obtain ⟨w3, hw3⟩ : ∃ w3 : World, w3 = w2.alloc (.cells ((List.range n).map fun _ => Value.slice none 0 0).toArray 171) := ⟨_, rfl⟩
  have hs2 : w2.heap.size = base := by rw [hw2]; simp; omega
  have hb12 : Below w1.heap.size w1 w2 := by rw [hw2]; exact (Below.refl _ _).alloc (Nat.le_refl _) _
  have hb23 : Below base w2 w3 := by rw [hw3]; exact (Below.refl _ _).alloc (by omega) _
  have hG0 : Grid w2 base base n 0 (fun _ => 0) (tabE []) w3 := Grid.start hb23 (Nat.le_refl _) (by rw [hw3, ← hs2]; exact heap_alloc_new w2 _) _ _
  have hs3 : base ≤ w3.heap.size := hs2 ▸ hb23.size
  rw [hbase, ← hw2, ← hw3]
  have HG0 := Lib.hid hG0
  have Hs2 := Lib.hid hs2
  have Hs3 := Lib.hid hs3
  have HB2 : Hid (Below w.heap.size w w2) := HB0.out.trans ((hc1.trans (hb12.mono hc1.size)).mono HB0.out.size)
  have Hc2 : Hid (m = 0 ∨ ∃ b o, al = some ⟨b, o, none⟩ ∧ b < base ∧ ∀ i j, i < m → j < 2 → w2.cell? ⟨b, o + i * 2 + j, none⟩ = some (edgeCell (l.getD i (0, 0)) j)) := by
    refine Hcell.out.imp id fun ⟨b, o, e, hb, hc⟩ => ⟨b, o, e, ?_, fun i j hi hj => (HB2.out.cell (p := ⟨b, o + i * 2 + j, none⟩) hb).trans (hc i j hi hj)⟩
    have := HB2.out.size
    omega
  have HRC2 := Lib.hid ((HRC.out.below hc1 HRC.out.lt).below hb12 (HRC.out.below hc1 HRC.out.lt).lt)
  have HN2 := Lib.hid ((HN.out.below hc1 (Nat.le_refl _)).below hb12 (Nat.le_refl _))
  clear hbase hw2 hw3 hs2 hb12 hb23 hG0 hs3 f0 f1 fl hc1 CE Hcell
  go_loopg [31] n (fun k v31 wr => ∃ (i : Nat) (R : Nat → Nat), v31 = .int .i64 i ∧ i ≤ n ∧ k = n - i ∧ Grid w2 base base n i R (tabE []) wr ∧ base ≤ wr.heap.size)
  case atStart => exact ⟨0, _, rfl, Nat.zero_le _, rfl, HG0.out, Hs3.out⟩
  case round =>
    obtain ⟨i, R, rfl, hi, hk, hGr, hbs⟩ := hrel
    have Hk := Lib.hid hk
    have HGr := Lib.hid hGr
    have Hbs := Lib.hid hbs
    clear hk hGr hbs
    by_cases hlt : i < n
    · have cO : wr.cell? ⟨base, i, none⟩ = some (.slice none 0 0) := by
        have := HGr.out.cellO hlt
        rwa [rowV, if_neg (Nat.lt_irrefl _)] at this
      have zO := HGr.out.freeO i
      have lO := HGr.out.lt.1
      go_upto_region 9 with fail
      obtain ⟨w5, hw5⟩ : ∃ w5 : World, w5 = (wr.setCell ⟨base, i, none⟩ (.slice (some ⟨wr.heap.size, 0, none⟩) n n)).alloc (.cells (boolCells (fun _ => false) n).toArray 4) := ⟨_, rfl⟩
      rw [← hw5]
      have hG5 : Grid w2 base base n (i + 1) (fun j => if j = i then wr.heap.size else R j) (fun a b => if a = i then false else tabE [] a b) w5 := by
        rw [hw5, ← World.setCell_alloc_past _ _ _ _ lO]
        exact HGr.out.lay hlt Hbs.out (fun a b ha => if_neg (by omega)) (fun b hb => if_pos rfl)
      have hb5 : base ≤ w5.heap.size := by rw [hw5]; have := Hbs.out; simp [World.setCell]; omega
      obtain ⟨Rn, hRn⟩ : ∃ Rn : Nat → Nat, Rn = fun j => if j = i then wr.heap.size else R j := ⟨_, rfl⟩
      rw [← hRn] at hG5
      have c1 : w5.cell? ⟨base, i, none⟩ = some (.slice (some ⟨Rn i, 0, none⟩) n n) := hG5.cellR hlt (by omega)
      have c2 := (hG5.row i (by omega)).cell hlt
      have z2 := (hG5.row i (by omega)).free i
      have l2 := hG5.lt.2 i (by omega)
      have HGn := Lib.hid (hG5.set (show i < i + 1 by omega) i true (T' := tabE []) (fun a b ha hb => by
        by_cases e : a = i ∧ b = i
        · rw [if_pos e, e.1, e.2]; simp [tabE]
        · rw [if_neg e]
          by_cases e1 : a = i
          · rw [if_pos e1]
            have : (a == b) = false := by rw [beq_eq_false_iff_ne]; intro h; exact e ⟨e1, by omega⟩
            simp [tabE, this]
          · rw [if_neg e1]))
      have Hb5 : Hid (base ≤ (w5.setCell ⟨Rn i, i, none⟩ (.bool true)).heap.size) := by show base ≤ _; simpa [World.setCell] using hb5
      clear hw5 hG5 hb5 hRn cO zO lO
      go_wp2_with fail
      go_roundg (n - (i + 1))
      case rel => exact ⟨i + 1, _, by go_num, by omega, rfl, HGn.out, Hb5.out⟩
      case measure => have := Hk.out; omega
    · obtain rfl : n = i := by omega
      clear m1 m2 hneq
      go_wp2_with fail
      go_loopg [48] m (fun k v48 wr => ∃ (i : Nat), v48 = .int .i64 i ∧ i ≤ m ∧ k = m - i ∧ Grid w2 base base n n R (tabE (l.take i)) wr ∧ base ≤ wr.heap.size)
      case atStart => exact ⟨0, rfl, Nat.zero_le _, rfl, HGr.out, Hbs.out⟩
      case round =>
        obtain ⟨i, rfl, hi, hk, hGr, hbs⟩ := hrel
        have Hk := Lib.hid hk
        have HGr := Lib.hid hGr
        have Hbs := Lib.hid hbs
        clear hk hGr hbs
        by_cases hlt : i < m
        · obtain ⟨b, o, rfl, hb, hc⟩ := Hc2.out.resolve_left (by omega)
          obtain ⟨e, he⟩ : ∃ e, l.getD i (0, 0) = e := ⟨_, rfl⟩
          have hmem : e ∈ l := by rw [← he]; exact mem_getD' _ (by rw [Hm.out]; exact hlt)
          have hg := HG.out e hmem
          obtain ⟨x, y⟩ := e
          obtain ⟨x, rfl⟩ : ∃ x' : Nat, x = ((x' : Nat) : Int) := ⟨x.toNat, by simp only at hg; omega⟩
          obtain ⟨y, rfl⟩ : ∃ y' : Nat, y = ((y' : Nat) : Int) := ⟨y.toNat, by simp only at hg; omega⟩
          have hxn : x < n := by simp only at hg; omega
          have hyn : y < n := by simp only at hg; omega
          have c0 : wr.cell? ⟨b, o + i * 2, none⟩ = some (.int .i64 ((x : Nat) : Int)) := (HGr.out.below.cell (p := ⟨b, o + i * 2, none⟩) hb).trans (by have h1 := hc i 0 hlt (by decide); rw [he] at h1; exact h1)
          have c1 : wr.cell? ⟨b, o + i * 2 + 1, none⟩ = some (.int .i64 ((y : Nat) : Int)) := (HGr.out.below.cell (p := ⟨b, o + i * 2 + 1, none⟩) hb).trans (by have h1 := hc i 1 hlt (by decide); rw [he] at h1; exact h1)
          have HT : Hid (∀ a b', tabE (l.take (i + 1)) a b' = if a = x ∧ b' = y then true else tabE (l.take i) a b') := by
            intro a b'
            rw [take_snoc' (0, 0) (by rw [Hm.out]; exact hlt), he]
            exact tabE_snoc _ _ _ _ _
          have d0 := HGr.out.cellR hxn hxn
          have d1 := (HGr.out.row x hxn).cell hyn
          have z1 := (HGr.out.row x hxn).free y
          have l1 := HGr.out.lt.1
          have l2 := HGr.out.lt.2 x hxn
          have hG5 : Grid w2 base base n n R (tabE (l.take i)) (wr.alloc (.cells #[.int .i64 ((x : Nat) : Int), .int .i64 ((y : Nat) : Int)] 107)) := HGr.out.belowW ((Below.refl _ _).alloc (Nat.le_refl _) _) Hbs.out
          have hGn := (hG5.set hxn y true (T' := tabE (l.take (i + 1))) (fun a b' _ _ => HT.out a b')).drew
          rw [World.setCell_alloc_past _ _ _ _ l2] at hGn
          have HGn := Lib.hid hGn
          have Hb5 : Hid (base ≤ ((wr.setCell ⟨R x, y, none⟩ (.bool true)).alloc (.cells #[.int .i64 ((x : Nat) : Int), .int .i64 ((y : Nat) : Int)] 107)).drew.heap.size) := by
            have := Hbs.out
            show base ≤ ((wr.setCell ⟨R x, y, none⟩ (.bool true)).alloc _).heap.size
            simp [World.setCell]
            omega
          clear hc hmem he hg hG5 hGn
          go_wp2_with fail
          go_region
          go_wp2_with fail
          go_roundg (m - (i + 1))
          case rel => exact ⟨i + 1, by go_num, by omega, rfl, HGn.out, Hb5.out⟩
          case measure => have := Hk.out; omega
        · obtain rfl : m = i := by omega
          have hG1 := HGr.out
          rw [List.take_of_length_le (by rw [Hm.out]; exact Nat.le_refl _)] at hG1
          have HG1 := Lib.hid hG1
          clear hG1 HGr
          go_wp2_with fail
          go_loopg [62] n (fun k v62 wr => ∃ (c : Nat), v62 = .int .i64 c ∧ c ≤ n ∧ k = n - c ∧ Grid w2 base base n n R (fwN (tabE l) c) wr ∧ base ≤ wr.heap.size)
          case atStart => exact ⟨0, rfl, Nat.zero_le _, rfl, HG1.out, Hbs.out⟩
          case round =>
            obtain ⟨c, rfl, hi, hk, hGr, hbs⟩ := hrel
            have Hk := Lib.hid hk
            have HGr := Lib.hid hGr
            have Hbs := Lib.hid hbs
            clear hk hGr hbs
            by_cases hltc : c < n
            · obtain ⟨T, hT⟩ : ∃ T, fwN (tabE l) c = T := ⟨_, rfl⟩
              have HT := Lib.hid hT
              have hG2 := HGr.out
              rw [hT] at hG2
              have HG2 := Lib.hid (hG2.congr (T' := fwMix T c 0 0) (fun i j _ _ => (fwMix_zero T c i j).symm))
              clear hT hG2
              go_wp2_with fail
              go_loopg [66] n (fun k v66 wr => ∃ (a : Nat), v66 = .int .i64 a ∧ a ≤ n ∧ k = n - a ∧ Grid w2 base base n n R (fwMix T c a 0) wr ∧ base ≤ wr.heap.size)
              case atStart => exact ⟨0, rfl, Nat.zero_le _, rfl, HG2.out, Hbs.out⟩
              case round =>
                obtain ⟨a, rfl, hia, hka, hGa, hbsa⟩ := hrel
                have Hka := Lib.hid hka
                have HGa := Lib.hid hGa
                have Hbsa := Lib.hid hbsa
                clear hka hGa hbsa
                by_cases hlta : a < n
                · go_wp2_with fail
                  go_loopg [70] n (fun k v70 wr => ∃ (b : Nat), v70 = .int .i64 b ∧ b ≤ n ∧ k = n - b ∧ Grid w2 base base n n R (fwMix T c a b) wr ∧ base ≤ wr.heap.size)
                  case atStart => exact ⟨0, rfl, Nat.zero_le _, rfl, HGa.out, Hbsa.out⟩
                  case round =>
                    obtain ⟨b, rfl, hib, hkb, hGb, hbsb⟩ := hrel
                    have Hkb := Lib.hid hkb
                    have HGb := Lib.hid hGb
                    have Hbsb := Lib.hid hbsb
                    clear hkb hGb hbsb
                    by_cases hltb : b < n
                    · have d0 := HGb.out.cellR hlta hlta
                      have d1 := HGb.out.cellR hltc hltc
                      have cx := (HGb.out.row a hlta).cell hltb
                      have cy := (HGb.out.row a hlta).cell hltc
                      have cz := (HGb.out.row c hltc).cell hltb
                      have zx := (HGb.out.row a hlta).free b
                      have l1 := HGb.out.lt.1
                      have l2 := HGb.out.lt.2 a hlta
                      have l3 := HGb.out.lt.2 c hltc
                      have hnx := fwMix_at T c a b
                      obtain ⟨x, hx⟩ : ∃ x, fwMix T c a b a b = x := ⟨_, rfl⟩
                      obtain ⟨y, hy⟩ : ∃ y, fwMix T c a b a c = y := ⟨_, rfl⟩
                      obtain ⟨z, hz⟩ : ∃ z, fwMix T c a b c b = z := ⟨_, rfl⟩
                      rw [hx] at cx hnx
                      rw [hy] at cy hnx
                      rw [hz] at cz hnx
                      have HGn : Hid (Grid w2 base base n n R (fwMix T c a (b + 1)) (wr.setCell ⟨R a, b, none⟩ (.bool (x || (y && z)))).drew) := by
                        refine (HGb.out.set hlta b _ (fun i j _ _ => ?_)).drew
                        rw [fwMix_next, hnx]
                      have Hb5 : Hid (base ≤ (wr.setCell ⟨R a, b, none⟩ (.bool (x || (y && z)))).drew.heap.size) := by have := Hbsb.out; show base ≤ (wr.setCell _ _).heap.size; simpa [World.setCell] using this
                      clear hnx hx hy hz
                      go_wp2_with fail
                      have hRne : R a ≠ base := HGb.out.off a hlta
                      cases x
                      case' true =>
                        refine wp_region_held_drew (S := (fun w' => w'.cell? ⟨base, a, none⟩ = some (.slice (some ⟨R a, 0, none⟩) n n) ∧ w'.cell? ⟨base, c, none⟩ = some (.slice (some ⟨R c, 0, none⟩) n n))) (by kernel_rfl) ?_ (fun hHeld => ?_)
                        · exact ⟨d0, d1⟩
                        refine wpAnyH_take (i := 0) (oi := _) (v := .slice (some ⟨base, 0, none⟩) n n) rfl (by kernel_rfl) (by kernel_rfl) (by kernel_rfl) (fun _ _ _ h => h) (Or.inl ⟨by kernel_rfl, fun w hSw => ?_⟩) hHeld ?_
                        · (try dsimp only at hSw); go_simp
                        try simp only [Act.put, List.getElem_toArray, List.getElem_cons_succ, List.getElem_cons_zero, List.setIfInBounds_toArray, List.set_cons_zero, List.set_cons_succ]
                        refine wpAnyH_take (i := 1) (oi := _) (v := .int .i64 ((a : Nat) : Int)) rfl (by kernel_rfl) (by kernel_rfl) (by kernel_rfl) (fun _ _ _ h => h) (Or.inl ⟨by kernel_rfl, fun w hSw => ?_⟩) hHeld ?_
                        · (try dsimp only at hSw); go_simp
                        try simp only [Act.put, List.getElem_toArray, List.getElem_cons_succ, List.getElem_cons_zero, List.setIfInBounds_toArray, List.set_cons_zero, List.set_cons_succ]
                        refine wpAnyH_take (i := 2) (oi := _) (v := .pointer (some ⟨base, a, none⟩)) rfl (by kernel_rfl) (by kernel_rfl) (by kernel_rfl) (fun _ _ _ h => h) (Or.inl ⟨by kernel_rfl, fun w hSw => ?_⟩) hHeld ?_
                        · (try dsimp only at hSw); go_simp
                        try simp only [Act.put, List.getElem_toArray, List.getElem_cons_succ, List.getElem_cons_zero, List.setIfInBounds_toArray, List.set_cons_zero, List.set_cons_succ]
                        refine wpAnyH_take (i := 3) (oi := _) (v := .slice (some ⟨R a, 0, none⟩) n n) rfl (by kernel_rfl) (by kernel_rfl) (by kernel_rfl) (fun _ _ _ h => h) (Or.inl ⟨by kernel_rfl, fun w hSw => ?_⟩) hHeld ?_
                        · (try dsimp only at hSw); go_simp
                        try simp only [Act.put, List.getElem_toArray, List.getElem_cons_succ, List.getElem_cons_zero, List.setIfInBounds_toArray, List.set_cons_zero, List.set_cons_succ]
                        refine wpAnyH_take (i := 4) (oi := _) (v := .int .i64 ((b : Nat) : Int)) rfl (by kernel_rfl) (by kernel_rfl) (by kernel_rfl) (fun _ _ _ h => h) (Or.inl ⟨by kernel_rfl, fun w hSw => ?_⟩) hHeld ?_
                        · (try dsimp only at hSw); go_simp
                        try simp only [Act.put, List.getElem_toArray, List.getElem_cons_succ, List.getElem_cons_zero, List.setIfInBounds_toArray, List.set_cons_zero, List.set_cons_succ]
                        refine wpAnyH_take (i := 5) (oi := _) (v := .slice (some ⟨base, 0, none⟩) n n) rfl (by kernel_rfl) (by kernel_rfl) (by kernel_rfl) (fun _ _ _ h => h) (Or.inl ⟨by kernel_rfl, fun w hSw => ?_⟩) hHeld ?_
                        · (try dsimp only at hSw); go_simp
                        try simp only [Act.put, List.getElem_toArray, List.getElem_cons_succ, List.getElem_cons_zero, List.setIfInBounds_toArray, List.set_cons_zero, List.set_cons_succ]
                        refine wpAnyH_take (i := 6) (oi := _) (v := .int .i64 ((a : Nat) : Int)) rfl (by kernel_rfl) (by kernel_rfl) (by kernel_rfl) (fun _ _ _ h => h) (Or.inl ⟨by kernel_rfl, fun w hSw => ?_⟩) hHeld ?_
                        · (try dsimp only at hSw); go_simp
                        try simp only [Act.put, List.getElem_toArray, List.getElem_cons_succ, List.getElem_cons_zero, List.setIfInBounds_toArray, List.set_cons_zero, List.set_cons_succ]
                        refine wpAnyH_take (i := 7) (oi := _) (v := .pointer (some ⟨base, a, none⟩)) rfl (by kernel_rfl) (by kernel_rfl) (by kernel_rfl) (fun _ _ _ h => h) (Or.inl ⟨by kernel_rfl, fun w hSw => ?_⟩) hHeld ?_
                        · (try dsimp only at hSw); go_simp
                        try simp only [Act.put, List.getElem_toArray, List.getElem_cons_succ, List.getElem_cons_zero, List.setIfInBounds_toArray, List.set_cons_zero, List.set_cons_succ]
                        refine wpAnyH_take (i := 8) (oi := _) (v := .slice (some ⟨R a, 0, none⟩) n n) rfl (by kernel_rfl) (by kernel_rfl) (by kernel_rfl) (fun _ _ _ h => h) (Or.inl ⟨by kernel_rfl, fun w hSw => ?_⟩) hHeld ?_
                        · (try dsimp only at hSw); go_simp
                        try simp only [Act.put, List.getElem_toArray, List.getElem_cons_succ, List.getElem_cons_zero, List.setIfInBounds_toArray, List.set_cons_zero, List.set_cons_succ]
                        refine wpAnyH_take (i := 9) (oi := _) (v := .int .i64 ((b : Nat) : Int)) rfl (by kernel_rfl) (by kernel_rfl) (by kernel_rfl) (fun _ _ _ h => h) (Or.inl ⟨by kernel_rfl, fun w hSw => ?_⟩) hHeld ?_
                        · (try dsimp only at hSw); go_simp
                        try simp only [Act.put, List.getElem_toArray, List.getElem_cons_succ, List.getElem_cons_zero, List.setIfInBounds_toArray, List.set_cons_zero, List.set_cons_succ]
                        refine wpAnyH_take (i := 10) (oi := _) (v := .pointer (some ⟨R a, b, none⟩)) rfl (by kernel_rfl) (by kernel_rfl) (by kernel_rfl) (fun _ _ _ h => h) (Or.inl ⟨by kernel_rfl, fun w hSw => ?_⟩) hHeld ?_
                        · (try dsimp only at hSw); go_simp
                        try simp only [Act.put, List.getElem_toArray, List.getElem_cons_succ, List.getElem_cons_zero, List.setIfInBounds_toArray, List.set_cons_zero, List.set_cons_succ]
                        refine wpAnyH_ready (rs := [11]) (by kernel_rfl) (by simp) ?_
                        refine AllReadyH.cons (o := _) rfl (fun K hK => ?_) AllReadyH.nil
                        go_simp
                        refine hK.out _ _ hHeld (fun hHeld2 => ?_)
                        clear hK K hHeld
                        have hHeld := hHeld2
                        clear hHeld2
                        try simp only [Act.put, List.getElem_toArray, List.getElem_cons_succ, List.getElem_cons_zero, List.setIfInBounds_toArray, List.set_cons_zero, List.set_cons_succ]
                        refine wpAnyH_take (i := 12) (oi := _) (v := .bool true) rfl (by kernel_rfl) (by kernel_rfl) (by kernel_rfl) (fun _ _ _ h => h) (Or.inl ⟨by kernel_rfl, fun w hSw => ?_⟩) hHeld ?_
                        · (try dsimp only at hSw); go_simp
                        try simp only [Act.put, List.getElem_toArray, List.getElem_cons_succ, List.getElem_cons_zero, List.setIfInBounds_toArray, List.set_cons_zero, List.set_cons_succ]
                        refine wpAnyH_take (i := 13) (oi := _) (v := undef) rfl (by kernel_rfl) (by kernel_rfl) (by kernel_rfl) (fun _ _ _ h => h) (Or.inr ⟨by kernel_rfl, rfl⟩) hHeld ?_
                        try simp only [Act.put, List.getElem_toArray, List.getElem_cons_succ, List.getElem_cons_zero, List.setIfInBounds_toArray, List.set_cons_zero, List.set_cons_succ]
                        refine wpAnyH_take (i := 14) (oi := _) (v := undef) rfl (by kernel_rfl) (by kernel_rfl) (by kernel_rfl) (fun _ _ _ h => h) (Or.inr ⟨by kernel_rfl, rfl⟩) hHeld ?_
                        try simp only [Act.put, List.getElem_toArray, List.getElem_cons_succ, List.getElem_cons_zero, List.setIfInBounds_toArray, List.set_cons_zero, List.set_cons_succ]
                        refine wpAnyH_take (i := 15) (oi := _) (v := undef) rfl (by kernel_rfl) (by kernel_rfl) (by kernel_rfl) (fun _ _ _ h => h) (Or.inr ⟨by kernel_rfl, rfl⟩) hHeld ?_
                        try simp only [Act.put, List.getElem_toArray, List.getElem_cons_succ, List.getElem_cons_zero, List.setIfInBounds_toArray, List.set_cons_zero, List.set_cons_succ]
                        refine wpAnyH_take (i := 16) (oi := _) (v := undef) rfl (by kernel_rfl) (by kernel_rfl) (by kernel_rfl) (fun _ _ _ h => h) (Or.inr ⟨by kernel_rfl, rfl⟩) hHeld ?_
                        try simp only [Act.put, List.getElem_toArray, List.getElem_cons_succ, List.getElem_cons_zero, List.setIfInBounds_toArray, List.set_cons_zero, List.set_cons_succ]
                        refine wpAnyH_take (i := 17) (oi := _) (v := undef) rfl (by kernel_rfl) (by kernel_rfl) (by kernel_rfl) (fun _ _ _ h => h) (Or.inr ⟨by kernel_rfl, rfl⟩) hHeld ?_
                        try simp only [Act.put, List.getElem_toArray, List.getElem_cons_succ, List.getElem_cons_zero, List.setIfInBounds_toArray, List.set_cons_zero, List.set_cons_succ]
                        refine wpAnyH_take (i := 18) (oi := _) (v := undef) rfl (by kernel_rfl) (by kernel_rfl) (by kernel_rfl) (fun _ _ _ h => h) (Or.inr ⟨by kernel_rfl, rfl⟩) hHeld ?_
                        try simp only [Act.put, List.getElem_toArray, List.getElem_cons_succ, List.getElem_cons_zero, List.setIfInBounds_toArray, List.set_cons_zero, List.set_cons_succ]
                        refine wpAnyH_take (i := 19) (oi := _) (v := undef) rfl (by kernel_rfl) (by kernel_rfl) (by kernel_rfl) (fun _ _ _ h => h) (Or.inr ⟨by kernel_rfl, rfl⟩) hHeld ?_
                        try simp only [Act.put, List.getElem_toArray, List.getElem_cons_succ, List.getElem_cons_zero, List.setIfInBounds_toArray, List.set_cons_zero, List.set_cons_succ]
                        refine wpAnyH_take (i := 20) (oi := _) (v := undef) rfl (by kernel_rfl) (by kernel_rfl) (by kernel_rfl) (fun _ _ _ h => h) (Or.inr ⟨by kernel_rfl, rfl⟩) hHeld ?_
                        try simp only [Act.put, List.getElem_toArray, List.getElem_cons_succ, List.getElem_cons_zero, List.setIfInBounds_toArray, List.set_cons_zero, List.set_cons_succ]
                        refine wpAnyH_take (i := 21) (oi := _) (v := undef) rfl (by kernel_rfl) (by kernel_rfl) (by kernel_rfl) (fun _ _ _ h => h) (Or.inr ⟨by kernel_rfl, rfl⟩) hHeld ?_
                        try simp only [Act.put, List.getElem_toArray, List.getElem_cons_succ, List.getElem_cons_zero, List.setIfInBounds_toArray, List.set_cons_zero, List.set_cons_succ]
                        refine wpAnyH_take (i := 22) (oi := _) (v := undef) rfl (by kernel_rfl) (by kernel_rfl) (by kernel_rfl) (fun _ _ _ h => h) (Or.inr ⟨by kernel_rfl, rfl⟩) hHeld ?_
                        try simp only [Act.put, List.getElem_toArray, List.getElem_cons_succ, List.getElem_cons_zero, List.setIfInBounds_toArray, List.set_cons_zero, List.set_cons_succ]
                        refine wpAnyH_take (i := 23) (oi := _) (v := undef) rfl (by kernel_rfl) (by kernel_rfl) (by kernel_rfl) (fun _ _ _ h => h) (Or.inr ⟨by kernel_rfl, rfl⟩) hHeld ?_
                        try simp only [Act.put, List.getElem_toArray, List.getElem_cons_succ, List.getElem_cons_zero, List.setIfInBounds_toArray, List.set_cons_zero, List.set_cons_succ]
                        refine wpAnyH_take (i := 24) (oi := _) (v := undef) rfl (by kernel_rfl) (by kernel_rfl) (by kernel_rfl) (fun _ _ _ h => h) (Or.inr ⟨by kernel_rfl, rfl⟩) hHeld ?_
                        try simp only [Act.put, List.getElem_toArray, List.getElem_cons_succ, List.getElem_cons_zero, List.setIfInBounds_toArray, List.set_cons_zero, List.set_cons_succ]
                        refine wpAnyH_take (i := 25) (oi := _) (v := undef) rfl (by kernel_rfl) (by kernel_rfl) (by kernel_rfl) (fun _ _ _ h => h) (Or.inr ⟨by kernel_rfl, rfl⟩) hHeld ?_
                        try simp only [Act.put, List.getElem_toArray, List.getElem_cons_succ, List.getElem_cons_zero, List.setIfInBounds_toArray, List.set_cons_zero, List.set_cons_succ]
                        refine wpAnyH_take (i := 26) (oi := _) (v := undef) rfl (by kernel_rfl) (by kernel_rfl) (by kernel_rfl) (fun _ _ _ h => h) (Or.inr ⟨by kernel_rfl, rfl⟩) hHeld ?_
                        try simp only [Act.put, List.getElem_toArray, List.getElem_cons_succ, List.getElem_cons_zero, List.setIfInBounds_toArray, List.set_cons_zero, List.set_cons_succ]
                        refine wpAnyH_take (i := 27) (oi := _) (v := undef) rfl (by kernel_rfl) (by kernel_rfl) (by kernel_rfl) (fun _ _ _ h => h) (Or.inr ⟨by kernel_rfl, rfl⟩) hHeld ?_
                        try simp only [Act.put, List.getElem_toArray, List.getElem_cons_succ, List.getElem_cons_zero, List.setIfInBounds_toArray, List.set_cons_zero, List.set_cons_succ]
                        refine wpAnyH_take (i := 28) (oi := _) (v := undef) rfl (by kernel_rfl) (by kernel_rfl) (by kernel_rfl) (fun _ _ _ h => h) (Or.inr ⟨by kernel_rfl, rfl⟩) hHeld ?_
                        try simp only [Act.put, List.getElem_toArray, List.getElem_cons_succ, List.getElem_cons_zero, List.setIfInBounds_toArray, List.set_cons_zero, List.set_cons_succ]
                        refine wpAnyH_take (i := 29) (oi := _) (v := .bool true) rfl (by kernel_rfl) (by kernel_rfl) (by kernel_rfl) (fun _ _ _ h => h) (Or.inl ⟨by kernel_rfl, fun w hSw => ?_⟩) hHeld ?_
                        · (try dsimp only at hSw); go_simp
                        try simp only [Act.put, List.getElem_toArray, List.getElem_cons_succ, List.getElem_cons_zero, List.setIfInBounds_toArray, List.set_cons_zero, List.set_cons_succ]
                        refine wpAnyH_take (i := 30) (oi := _) (v := .pointer (some ⟨R a, b, none⟩)) rfl (by kernel_rfl) (by kernel_rfl) (by kernel_rfl) (fun _ _ _ h => h) (Or.inl ⟨by kernel_rfl, fun w hSw => ?_⟩) hHeld ?_
                        · (try dsimp only at hSw); go_simp
                        try simp only [Act.put, List.getElem_toArray, List.getElem_cons_succ, List.getElem_cons_zero, List.setIfInBounds_toArray, List.set_cons_zero, List.set_cons_succ]
                        refine wpAnyH_ready (rs := [31]) (by kernel_rfl) (by simp) ?_
                        refine AllReadyH.cons (o := _) rfl (fun K hK => ?_) AllReadyH.nil
                        go_simp
                        refine hK.out _ _ ⟨(World.cell?_setCell_far _ _ _ _ hRne).trans hHeld.1, (World.cell?_setCell_far _ _ _ _ hRne).trans hHeld.2⟩ (fun hHeld2 => ?_)
                        clear hK K hHeld
                        have hHeld := hHeld2
                        clear hHeld2
                        try simp only [Act.put, List.getElem_toArray, List.getElem_cons_succ, List.getElem_cons_zero, List.setIfInBounds_toArray, List.set_cons_zero, List.set_cons_succ]
                        refine wpAnyH_done (by kernel_rfl) ?_ _
                        go_wp2_with fail
                        go_roundg (n - (b + 1))
                        case rel => exact ⟨b + 1, by go_num, by omega, rfl, HGn.out, Hb5.out⟩
                        case measure => have := Hkb.out; omega
                      cases y
                      case' false =>
                        refine wp_region_held_drew (S := (fun w' => w'.cell? ⟨base, a, none⟩ = some (.slice (some ⟨R a, 0, none⟩) n n) ∧ w'.cell? ⟨base, c, none⟩ = some (.slice (some ⟨R c, 0, none⟩) n n))) (by kernel_rfl) ?_ (fun hHeld => ?_)
                        · exact ⟨d0, d1⟩
                        refine wpAnyH_take (i := 0) (oi := _) (v := .slice (some ⟨base, 0, none⟩) n n) rfl (by kernel_rfl) (by kernel_rfl) (by kernel_rfl) (fun _ _ _ h => h) (Or.inl ⟨by kernel_rfl, fun w hSw => ?_⟩) hHeld ?_
                        · (try dsimp only at hSw); go_simp
                        try simp only [Act.put, List.getElem_toArray, List.getElem_cons_succ, List.getElem_cons_zero, List.setIfInBounds_toArray, List.set_cons_zero, List.set_cons_succ]
                        refine wpAnyH_take (i := 1) (oi := _) (v := .int .i64 ((a : Nat) : Int)) rfl (by kernel_rfl) (by kernel_rfl) (by kernel_rfl) (fun _ _ _ h => h) (Or.inl ⟨by kernel_rfl, fun w hSw => ?_⟩) hHeld ?_
                        · (try dsimp only at hSw); go_simp
                        try simp only [Act.put, List.getElem_toArray, List.getElem_cons_succ, List.getElem_cons_zero, List.setIfInBounds_toArray, List.set_cons_zero, List.set_cons_succ]
                        refine wpAnyH_take (i := 2) (oi := _) (v := .pointer (some ⟨base, a, none⟩)) rfl (by kernel_rfl) (by kernel_rfl) (by kernel_rfl) (fun _ _ _ h => h) (Or.inl ⟨by kernel_rfl, fun w hSw => ?_⟩) hHeld ?_
                        · (try dsimp only at hSw); go_simp
                        try simp only [Act.put, List.getElem_toArray, List.getElem_cons_succ, List.getElem_cons_zero, List.setIfInBounds_toArray, List.set_cons_zero, List.set_cons_succ]
                        refine wpAnyH_take (i := 3) (oi := _) (v := .slice (some ⟨R a, 0, none⟩) n n) rfl (by kernel_rfl) (by kernel_rfl) (by kernel_rfl) (fun _ _ _ h => h) (Or.inl ⟨by kernel_rfl, fun w hSw => ?_⟩) hHeld ?_
                        · (try dsimp only at hSw); go_simp
                        try simp only [Act.put, List.getElem_toArray, List.getElem_cons_succ, List.getElem_cons_zero, List.setIfInBounds_toArray, List.set_cons_zero, List.set_cons_succ]
                        refine wpAnyH_take (i := 4) (oi := _) (v := .int .i64 ((b : Nat) : Int)) rfl (by kernel_rfl) (by kernel_rfl) (by kernel_rfl) (fun _ _ _ h => h) (Or.inl ⟨by kernel_rfl, fun w hSw => ?_⟩) hHeld ?_
                        · (try dsimp only at hSw); go_simp
                        try simp only [Act.put, List.getElem_toArray, List.getElem_cons_succ, List.getElem_cons_zero, List.setIfInBounds_toArray, List.set_cons_zero, List.set_cons_succ]
                        refine wpAnyH_take (i := 5) (oi := _) (v := .slice (some ⟨base, 0, none⟩) n n) rfl (by kernel_rfl) (by kernel_rfl) (by kernel_rfl) (fun _ _ _ h => h) (Or.inl ⟨by kernel_rfl, fun w hSw => ?_⟩) hHeld ?_
                        · (try dsimp only at hSw); go_simp
                        try simp only [Act.put, List.getElem_toArray, List.getElem_cons_succ, List.getElem_cons_zero, List.setIfInBounds_toArray, List.set_cons_zero, List.set_cons_succ]
                        refine wpAnyH_take (i := 6) (oi := _) (v := .int .i64 ((a : Nat) : Int)) rfl (by kernel_rfl) (by kernel_rfl) (by kernel_rfl) (fun _ _ _ h => h) (Or.inl ⟨by kernel_rfl, fun w hSw => ?_⟩) hHeld ?_
                        · (try dsimp only at hSw); go_simp
                        try simp only [Act.put, List.getElem_toArray, List.getElem_cons_succ, List.getElem_cons_zero, List.setIfInBounds_toArray, List.set_cons_zero, List.set_cons_succ]
                        refine wpAnyH_take (i := 7) (oi := _) (v := .pointer (some ⟨base, a, none⟩)) rfl (by kernel_rfl) (by kernel_rfl) (by kernel_rfl) (fun _ _ _ h => h) (Or.inl ⟨by kernel_rfl, fun w hSw => ?_⟩) hHeld ?_
                        · (try dsimp only at hSw); go_simp
                        try simp only [Act.put, List.getElem_toArray, List.getElem_cons_succ, List.getElem_cons_zero, List.setIfInBounds_toArray, List.set_cons_zero, List.set_cons_succ]
                        refine wpAnyH_take (i := 8) (oi := _) (v := .slice (some ⟨R a, 0, none⟩) n n) rfl (by kernel_rfl) (by kernel_rfl) (by kernel_rfl) (fun _ _ _ h => h) (Or.inl ⟨by kernel_rfl, fun w hSw => ?_⟩) hHeld ?_
                        · (try dsimp only at hSw); go_simp
                        try simp only [Act.put, List.getElem_toArray, List.getElem_cons_succ, List.getElem_cons_zero, List.setIfInBounds_toArray, List.set_cons_zero, List.set_cons_succ]
                        refine wpAnyH_take (i := 9) (oi := _) (v := .int .i64 ((b : Nat) : Int)) rfl (by kernel_rfl) (by kernel_rfl) (by kernel_rfl) (fun _ _ _ h => h) (Or.inl ⟨by kernel_rfl, fun w hSw => ?_⟩) hHeld ?_
                        · (try dsimp only at hSw); go_simp
                        try simp only [Act.put, List.getElem_toArray, List.getElem_cons_succ, List.getElem_cons_zero, List.setIfInBounds_toArray, List.set_cons_zero, List.set_cons_succ]
                        refine wpAnyH_take (i := 10) (oi := _) (v := .pointer (some ⟨R a, b, none⟩)) rfl (by kernel_rfl) (by kernel_rfl) (by kernel_rfl) (fun _ _ _ h => h) (Or.inl ⟨by kernel_rfl, fun w hSw => ?_⟩) hHeld ?_
                        · (try dsimp only at hSw); go_simp
                        try simp only [Act.put, List.getElem_toArray, List.getElem_cons_succ, List.getElem_cons_zero, List.setIfInBounds_toArray, List.set_cons_zero, List.set_cons_succ]
                        refine wpAnyH_ready (rs := [11]) (by kernel_rfl) (by simp) ?_
                        refine AllReadyH.cons (o := _) rfl (fun K hK => ?_) AllReadyH.nil
                        go_simp
                        refine hK.out _ _ hHeld (fun hHeld2 => ?_)
                        clear hK K hHeld
                        have hHeld := hHeld2
                        clear hHeld2
                        try simp only [Act.put, List.getElem_toArray, List.getElem_cons_succ, List.getElem_cons_zero, List.setIfInBounds_toArray, List.set_cons_zero, List.set_cons_succ]
                        refine wpAnyH_take (i := 12) (oi := _) (v := .bool false) rfl (by kernel_rfl) (by kernel_rfl) (by kernel_rfl) (fun _ _ _ h => h) (Or.inl ⟨by kernel_rfl, fun w hSw => ?_⟩) hHeld ?_
                        · (try dsimp only at hSw); go_simp
                        try simp only [Act.put, List.getElem_toArray, List.getElem_cons_succ, List.getElem_cons_zero, List.setIfInBounds_toArray, List.set_cons_zero, List.set_cons_succ]
                        refine wpAnyH_take (i := 13) (oi := _) (v := .slice (some ⟨base, 0, none⟩) n n) rfl (by kernel_rfl) (by kernel_rfl) (by kernel_rfl) (fun _ _ _ h => h) (Or.inl ⟨by kernel_rfl, fun w hSw => ?_⟩) hHeld ?_
                        · (try dsimp only at hSw); go_simp
                        try simp only [Act.put, List.getElem_toArray, List.getElem_cons_succ, List.getElem_cons_zero, List.setIfInBounds_toArray, List.set_cons_zero, List.set_cons_succ]
                        refine wpAnyH_take (i := 14) (oi := _) (v := .int .i64 ((a : Nat) : Int)) rfl (by kernel_rfl) (by kernel_rfl) (by kernel_rfl) (fun _ _ _ h => h) (Or.inl ⟨by kernel_rfl, fun w hSw => ?_⟩) hHeld ?_
                        · (try dsimp only at hSw); go_simp
                        try simp only [Act.put, List.getElem_toArray, List.getElem_cons_succ, List.getElem_cons_zero, List.setIfInBounds_toArray, List.set_cons_zero, List.set_cons_succ]
                        refine wpAnyH_take (i := 15) (oi := _) (v := .pointer (some ⟨base, a, none⟩)) rfl (by kernel_rfl) (by kernel_rfl) (by kernel_rfl) (fun _ _ _ h => h) (Or.inl ⟨by kernel_rfl, fun w hSw => ?_⟩) hHeld ?_
                        · (try dsimp only at hSw); go_simp
                        try simp only [Act.put, List.getElem_toArray, List.getElem_cons_succ, List.getElem_cons_zero, List.setIfInBounds_toArray, List.set_cons_zero, List.set_cons_succ]
                        refine wpAnyH_take (i := 16) (oi := _) (v := .slice (some ⟨R a, 0, none⟩) n n) rfl (by kernel_rfl) (by kernel_rfl) (by kernel_rfl) (fun _ _ _ h => h) (Or.inl ⟨by kernel_rfl, fun w hSw => ?_⟩) hHeld ?_
                        · (try dsimp only at hSw); go_simp
                        try simp only [Act.put, List.getElem_toArray, List.getElem_cons_succ, List.getElem_cons_zero, List.setIfInBounds_toArray, List.set_cons_zero, List.set_cons_succ]
                        refine wpAnyH_take (i := 17) (oi := _) (v := .int .i64 ((c : Nat) : Int)) rfl (by kernel_rfl) (by kernel_rfl) (by kernel_rfl) (fun _ _ _ h => h) (Or.inl ⟨by kernel_rfl, fun w hSw => ?_⟩) hHeld ?_
                        · (try dsimp only at hSw); go_simp
                        try simp only [Act.put, List.getElem_toArray, List.getElem_cons_succ, List.getElem_cons_zero, List.setIfInBounds_toArray, List.set_cons_zero, List.set_cons_succ]
                        refine wpAnyH_take (i := 18) (oi := _) (v := .pointer (some ⟨R a, c, none⟩)) rfl (by kernel_rfl) (by kernel_rfl) (by kernel_rfl) (fun _ _ _ h => h) (Or.inl ⟨by kernel_rfl, fun w hSw => ?_⟩) hHeld ?_
                        · (try dsimp only at hSw); go_simp
                        try simp only [Act.put, List.getElem_toArray, List.getElem_cons_succ, List.getElem_cons_zero, List.setIfInBounds_toArray, List.set_cons_zero, List.set_cons_succ]
                        refine wpAnyH_ready (rs := [19]) (by kernel_rfl) (by simp) ?_
                        refine AllReadyH.cons (o := _) rfl (fun K hK => ?_) AllReadyH.nil
                        go_simp
                        refine hK.out _ _ hHeld (fun hHeld2 => ?_)
                        clear hK K hHeld
                        have hHeld := hHeld2
                        clear hHeld2
                        try simp only [Act.put, List.getElem_toArray, List.getElem_cons_succ, List.getElem_cons_zero, List.setIfInBounds_toArray, List.set_cons_zero, List.set_cons_succ]
                        refine wpAnyH_take (i := 20) (oi := _) (v := .bool false) rfl (by kernel_rfl) (by kernel_rfl) (by kernel_rfl) (fun _ _ _ h => h) (Or.inl ⟨by kernel_rfl, fun w hSw => ?_⟩) hHeld ?_
                        · (try dsimp only at hSw); go_simp
                        try simp only [Act.put, List.getElem_toArray, List.getElem_cons_succ, List.getElem_cons_zero, List.setIfInBounds_toArray, List.set_cons_zero, List.set_cons_succ]
                        refine wpAnyH_take (i := 21) (oi := _) (v := undef) rfl (by kernel_rfl) (by kernel_rfl) (by kernel_rfl) (fun _ _ _ h => h) (Or.inr ⟨by kernel_rfl, rfl⟩) hHeld ?_
                        try simp only [Act.put, List.getElem_toArray, List.getElem_cons_succ, List.getElem_cons_zero, List.setIfInBounds_toArray, List.set_cons_zero, List.set_cons_succ]
                        refine wpAnyH_take (i := 22) (oi := _) (v := undef) rfl (by kernel_rfl) (by kernel_rfl) (by kernel_rfl) (fun _ _ _ h => h) (Or.inr ⟨by kernel_rfl, rfl⟩) hHeld ?_
                        try simp only [Act.put, List.getElem_toArray, List.getElem_cons_succ, List.getElem_cons_zero, List.setIfInBounds_toArray, List.set_cons_zero, List.set_cons_succ]
                        refine wpAnyH_take (i := 23) (oi := _) (v := undef) rfl (by kernel_rfl) (by kernel_rfl) (by kernel_rfl) (fun _ _ _ h => h) (Or.inr ⟨by kernel_rfl, rfl⟩) hHeld ?_
                        try simp only [Act.put, List.getElem_toArray, List.getElem_cons_succ, List.getElem_cons_zero, List.setIfInBounds_toArray, List.set_cons_zero, List.set_cons_succ]
                        refine wpAnyH_take (i := 24) (oi := _) (v := undef) rfl (by kernel_rfl) (by kernel_rfl) (by kernel_rfl) (fun _ _ _ h => h) (Or.inr ⟨by kernel_rfl, rfl⟩) hHeld ?_
                        try simp only [Act.put, List.getElem_toArray, List.getElem_cons_succ, List.getElem_cons_zero, List.setIfInBounds_toArray, List.set_cons_zero, List.set_cons_succ]
                        refine wpAnyH_take (i := 25) (oi := _) (v := undef) rfl (by kernel_rfl) (by kernel_rfl) (by kernel_rfl) (fun _ _ _ h => h) (Or.inr ⟨by kernel_rfl, rfl⟩) hHeld ?_
                        try simp only [Act.put, List.getElem_toArray, List.getElem_cons_succ, List.getElem_cons_zero, List.setIfInBounds_toArray, List.set_cons_zero, List.set_cons_succ]
                        refine wpAnyH_take (i := 26) (oi := _) (v := undef) rfl (by kernel_rfl) (by kernel_rfl) (by kernel_rfl) (fun _ _ _ h => h) (Or.inr ⟨by kernel_rfl, rfl⟩) hHeld ?_
                        try simp only [Act.put, List.getElem_toArray, List.getElem_cons_succ, List.getElem_cons_zero, List.setIfInBounds_toArray, List.set_cons_zero, List.set_cons_succ]
                        refine wpAnyH_take (i := 27) (oi := _) (v := undef) rfl (by kernel_rfl) (by kernel_rfl) (by kernel_rfl) (fun _ _ _ h => h) (Or.inr ⟨by kernel_rfl, rfl⟩) hHeld ?_
                        try simp only [Act.put, List.getElem_toArray, List.getElem_cons_succ, List.getElem_cons_zero, List.setIfInBounds_toArray, List.set_cons_zero, List.set_cons_succ]
                        refine wpAnyH_take (i := 28) (oi := _) (v := .bool false) rfl (by kernel_rfl) (by kernel_rfl) (by kernel_rfl) (fun _ _ _ h => h) (Or.inl ⟨by kernel_rfl, fun w hSw => ?_⟩) hHeld ?_
                        · (try dsimp only at hSw); go_simp
                        try simp only [Act.put, List.getElem_toArray, List.getElem_cons_succ, List.getElem_cons_zero, List.setIfInBounds_toArray, List.set_cons_zero, List.set_cons_succ]
                        refine wpAnyH_take (i := 29) (oi := _) (v := .bool false) rfl (by kernel_rfl) (by kernel_rfl) (by kernel_rfl) (fun _ _ _ h => h) (Or.inl ⟨by kernel_rfl, fun w hSw => ?_⟩) hHeld ?_
                        · (try dsimp only at hSw); go_simp
                        try simp only [Act.put, List.getElem_toArray, List.getElem_cons_succ, List.getElem_cons_zero, List.setIfInBounds_toArray, List.set_cons_zero, List.set_cons_succ]
                        refine wpAnyH_take (i := 30) (oi := _) (v := .pointer (some ⟨R a, b, none⟩)) rfl (by kernel_rfl) (by kernel_rfl) (by kernel_rfl) (fun _ _ _ h => h) (Or.inl ⟨by kernel_rfl, fun w hSw => ?_⟩) hHeld ?_
                        · (try dsimp only at hSw); go_simp
                        try simp only [Act.put, List.getElem_toArray, List.getElem_cons_succ, List.getElem_cons_zero, List.setIfInBounds_toArray, List.set_cons_zero, List.set_cons_succ]
                        refine wpAnyH_ready (rs := [31]) (by kernel_rfl) (by simp) ?_
                        refine AllReadyH.cons (o := _) rfl (fun K hK => ?_) AllReadyH.nil
                        go_simp
                        refine hK.out _ _ ⟨(World.cell?_setCell_far _ _ _ _ hRne).trans hHeld.1, (World.cell?_setCell_far _ _ _ _ hRne).trans hHeld.2⟩ (fun hHeld2 => ?_)
                        clear hK K hHeld
                        have hHeld := hHeld2
                        clear hHeld2
                        try simp only [Act.put, List.getElem_toArray, List.getElem_cons_succ, List.getElem_cons_zero, List.setIfInBounds_toArray, List.set_cons_zero, List.set_cons_succ]
                        refine wpAnyH_done (by kernel_rfl) ?_ _
                        go_wp2_with fail
                        go_roundg (n - (b + 1))
                        case rel => exact ⟨b + 1, by go_num, by omega, rfl, HGn.out, Hb5.out⟩
                        case measure => have := Hkb.out; omega
                      cases z
                      case' false =>
                        refine wp_region_held_drew (S := (fun w' => w'.cell? ⟨base, a, none⟩ = some (.slice (some ⟨R a, 0, none⟩) n n) ∧ w'.cell? ⟨base, c, none⟩ = some (.slice (some ⟨R c, 0, none⟩) n n))) (by kernel_rfl) ?_ (fun hHeld => ?_)
                        · exact ⟨d0, d1⟩
                        refine wpAnyH_take (i := 0) (oi := _) (v := .slice (some ⟨base, 0, none⟩) n n) rfl (by kernel_rfl) (by kernel_rfl) (by kernel_rfl) (fun _ _ _ h => h) (Or.inl ⟨by kernel_rfl, fun w hSw => ?_⟩) hHeld ?_
                        · (try dsimp only at hSw); go_simp
                        try simp only [Act.put, List.getElem_toArray, List.getElem_cons_succ, List.getElem_cons_zero, List.setIfInBounds_toArray, List.set_cons_zero, List.set_cons_succ]
                        refine wpAnyH_take (i := 1) (oi := _) (v := .int .i64 ((a : Nat) : Int)) rfl (by kernel_rfl) (by kernel_rfl) (by kernel_rfl) (fun _ _ _ h => h) (Or.inl ⟨by kernel_rfl, fun w hSw => ?_⟩) hHeld ?_
                        · (try dsimp only at hSw); go_simp
                        try simp only [Act.put, List.getElem_toArray, List.getElem_cons_succ, List.getElem_cons_zero, List.setIfInBounds_toArray, List.set_cons_zero, List.set_cons_succ]
                        refine wpAnyH_take (i := 2) (oi := _) (v := .pointer (some ⟨base, a, none⟩)) rfl (by kernel_rfl) (by kernel_rfl) (by kernel_rfl) (fun _ _ _ h => h) (Or.inl ⟨by kernel_rfl, fun w hSw => ?_⟩) hHeld ?_
                        · (try dsimp only at hSw); go_simp
                        try simp only [Act.put, List.getElem_toArray, List.getElem_cons_succ, List.getElem_cons_zero, List.setIfInBounds_toArray, List.set_cons_zero, List.set_cons_succ]
                        refine wpAnyH_take (i := 3) (oi := _) (v := .slice (some ⟨R a, 0, none⟩) n n) rfl (by kernel_rfl) (by kernel_rfl) (by kernel_rfl) (fun _ _ _ h => h) (Or.inl ⟨by kernel_rfl, fun w hSw => ?_⟩) hHeld ?_
                        · (try dsimp only at hSw); go_simp
                        try simp only [Act.put, List.getElem_toArray, List.getElem_cons_succ, List.getElem_cons_zero, List.setIfInBounds_toArray, List.set_cons_zero, List.set_cons_succ]
                        refine wpAnyH_take (i := 4) (oi := _) (v := .int .i64 ((b : Nat) : Int)) rfl (by kernel_rfl) (by kernel_rfl) (by kernel_rfl) (fun _ _ _ h => h) (Or.inl ⟨by kernel_rfl, fun w hSw => ?_⟩) hHeld ?_
                        · (try dsimp only at hSw); go_simp
                        try simp only [Act.put, List.getElem_toArray, List.getElem_cons_succ, List.getElem_cons_zero, List.setIfInBounds_toArray, List.set_cons_zero, List.set_cons_succ]
                        refine wpAnyH_take (i := 5) (oi := _) (v := .slice (some ⟨base, 0, none⟩) n n) rfl (by kernel_rfl) (by kernel_rfl) (by kernel_rfl) (fun _ _ _ h => h) (Or.inl ⟨by kernel_rfl, fun w hSw => ?_⟩) hHeld ?_
                        · (try dsimp only at hSw); go_simp
                        try simp only [Act.put, List.getElem_toArray, List.getElem_cons_succ, List.getElem_cons_zero, List.setIfInBounds_toArray, List.set_cons_zero, List.set_cons_succ]
                        refine wpAnyH_take (i := 6) (oi := _) (v := .int .i64 ((a : Nat) : Int)) rfl (by kernel_rfl) (by kernel_rfl) (by kernel_rfl) (fun _ _ _ h => h) (Or.inl ⟨by kernel_rfl, fun w hSw => ?_⟩) hHeld ?_
                        · (try dsimp only at hSw); go_simp
                        try simp only [Act.put, List.getElem_toArray, List.getElem_cons_succ, List.getElem_cons_zero, List.setIfInBounds_toArray, List.set_cons_zero, List.set_cons_succ]
                        refine wpAnyH_take (i := 7) (oi := _) (v := .pointer (some ⟨base, a, none⟩)) rfl (by kernel_rfl) (by kernel_rfl) (by kernel_rfl) (fun _ _ _ h => h) (Or.inl ⟨by kernel_rfl, fun w hSw => ?_⟩) hHeld ?_
                        · (try dsimp only at hSw); go_simp
                        try simp only [Act.put, List.getElem_toArray, List.getElem_cons_succ, List.getElem_cons_zero, List.setIfInBounds_toArray, List.set_cons_zero, List.set_cons_succ]
                        refine wpAnyH_take (i := 8) (oi := _) (v := .slice (some ⟨R a, 0, none⟩) n n) rfl (by kernel_rfl) (by kernel_rfl) (by kernel_rfl) (fun _ _ _ h => h) (Or.inl ⟨by kernel_rfl, fun w hSw => ?_⟩) hHeld ?_
                        · (try dsimp only at hSw); go_simp
                        try simp only [Act.put, List.getElem_toArray, List.getElem_cons_succ, List.getElem_cons_zero, List.setIfInBounds_toArray, List.set_cons_zero, List.set_cons_succ]
                        refine wpAnyH_take (i := 9) (oi := _) (v := .int .i64 ((b : Nat) : Int)) rfl (by kernel_rfl) (by kernel_rfl) (by kernel_rfl) (fun _ _ _ h => h) (Or.inl ⟨by kernel_rfl, fun w hSw => ?_⟩) hHeld ?_
                        · (try dsimp only at hSw); go_simp
                        try simp only [Act.put, List.getElem_toArray, List.getElem_cons_succ, List.getElem_cons_zero, List.setIfInBounds_toArray, List.set_cons_zero, List.set_cons_succ]
                        refine wpAnyH_take (i := 10) (oi := _) (v := .pointer (some ⟨R a, b, none⟩)) rfl (by kernel_rfl) (by kernel_rfl) (by kernel_rfl) (fun _ _ _ h => h) (Or.inl ⟨by kernel_rfl, fun w hSw => ?_⟩) hHeld ?_
                        · (try dsimp only at hSw); go_simp
                        try simp only [Act.put, List.getElem_toArray, List.getElem_cons_succ, List.getElem_cons_zero, List.setIfInBounds_toArray, List.set_cons_zero, List.set_cons_succ]
                        refine wpAnyH_ready (rs := [11]) (by kernel_rfl) (by simp) ?_
                        refine AllReadyH.cons (o := _) rfl (fun K hK => ?_) AllReadyH.nil
                        go_simp
                        refine hK.out _ _ hHeld (fun hHeld2 => ?_)
                        clear hK K hHeld
                        have hHeld := hHeld2
                        clear hHeld2
                        try simp only [Act.put, List.getElem_toArray, List.getElem_cons_succ, List.getElem_cons_zero, List.setIfInBounds_toArray, List.set_cons_zero, List.set_cons_succ]
                        refine wpAnyH_take (i := 12) (oi := _) (v := .bool false) rfl (by kernel_rfl) (by kernel_rfl) (by kernel_rfl) (fun _ _ _ h => h) (Or.inl ⟨by kernel_rfl, fun w hSw => ?_⟩) hHeld ?_
                        · (try dsimp only at hSw); go_simp
                        try simp only [Act.put, List.getElem_toArray, List.getElem_cons_succ, List.getElem_cons_zero, List.setIfInBounds_toArray, List.set_cons_zero, List.set_cons_succ]
                        refine wpAnyH_take (i := 13) (oi := _) (v := .slice (some ⟨base, 0, none⟩) n n) rfl (by kernel_rfl) (by kernel_rfl) (by kernel_rfl) (fun _ _ _ h => h) (Or.inl ⟨by kernel_rfl, fun w hSw => ?_⟩) hHeld ?_
                        · (try dsimp only at hSw); go_simp
                        try simp only [Act.put, List.getElem_toArray, List.getElem_cons_succ, List.getElem_cons_zero, List.setIfInBounds_toArray, List.set_cons_zero, List.set_cons_succ]
                        refine wpAnyH_take (i := 14) (oi := _) (v := .int .i64 ((a : Nat) : Int)) rfl (by kernel_rfl) (by kernel_rfl) (by kernel_rfl) (fun _ _ _ h => h) (Or.inl ⟨by kernel_rfl, fun w hSw => ?_⟩) hHeld ?_
                        · (try dsimp only at hSw); go_simp
                        try simp only [Act.put, List.getElem_toArray, List.getElem_cons_succ, List.getElem_cons_zero, List.setIfInBounds_toArray, List.set_cons_zero, List.set_cons_succ]
                        refine wpAnyH_take (i := 15) (oi := _) (v := .pointer (some ⟨base, a, none⟩)) rfl (by kernel_rfl) (by kernel_rfl) (by kernel_rfl) (fun _ _ _ h => h) (Or.inl ⟨by kernel_rfl, fun w hSw => ?_⟩) hHeld ?_
                        · (try dsimp only at hSw); go_simp
                        try simp only [Act.put, List.getElem_toArray, List.getElem_cons_succ, List.getElem_cons_zero, List.setIfInBounds_toArray, List.set_cons_zero, List.set_cons_succ]
                        refine wpAnyH_take (i := 16) (oi := _) (v := .slice (some ⟨R a, 0, none⟩) n n) rfl (by kernel_rfl) (by kernel_rfl) (by kernel_rfl) (fun _ _ _ h => h) (Or.inl ⟨by kernel_rfl, fun w hSw => ?_⟩) hHeld ?_
                        · (try dsimp only at hSw); go_simp
                        try simp only [Act.put, List.getElem_toArray, List.getElem_cons_succ, List.getElem_cons_zero, List.setIfInBounds_toArray, List.set_cons_zero, List.set_cons_succ]
                        refine wpAnyH_take (i := 17) (oi := _) (v := .int .i64 ((c : Nat) : Int)) rfl (by kernel_rfl) (by kernel_rfl) (by kernel_rfl) (fun _ _ _ h => h) (Or.inl ⟨by kernel_rfl, fun w hSw => ?_⟩) hHeld ?_
                        · (try dsimp only at hSw); go_simp
                        try simp only [Act.put, List.getElem_toArray, List.getElem_cons_succ, List.getElem_cons_zero, List.setIfInBounds_toArray, List.set_cons_zero, List.set_cons_succ]
                        refine wpAnyH_take (i := 18) (oi := _) (v := .pointer (some ⟨R a, c, none⟩)) rfl (by kernel_rfl) (by kernel_rfl) (by kernel_rfl) (fun _ _ _ h => h) (Or.inl ⟨by kernel_rfl, fun w hSw => ?_⟩) hHeld ?_
                        · (try dsimp only at hSw); go_simp
                        try simp only [Act.put, List.getElem_toArray, List.getElem_cons_succ, List.getElem_cons_zero, List.setIfInBounds_toArray, List.set_cons_zero, List.set_cons_succ]
                        refine wpAnyH_ready (rs := [19]) (by kernel_rfl) (by simp) ?_
                        refine AllReadyH.cons (o := _) rfl (fun K hK => ?_) AllReadyH.nil
                        go_simp
                        refine hK.out _ _ hHeld (fun hHeld2 => ?_)
                        clear hK K hHeld
                        have hHeld := hHeld2
                        clear hHeld2
                        try simp only [Act.put, List.getElem_toArray, List.getElem_cons_succ, List.getElem_cons_zero, List.setIfInBounds_toArray, List.set_cons_zero, List.set_cons_succ]
                        refine wpAnyH_take (i := 20) (oi := _) (v := .bool true) rfl (by kernel_rfl) (by kernel_rfl) (by kernel_rfl) (fun _ _ _ h => h) (Or.inl ⟨by kernel_rfl, fun w hSw => ?_⟩) hHeld ?_
                        · (try dsimp only at hSw); go_simp
                        try simp only [Act.put, List.getElem_toArray, List.getElem_cons_succ, List.getElem_cons_zero, List.setIfInBounds_toArray, List.set_cons_zero, List.set_cons_succ]
                        refine wpAnyH_take (i := 21) (oi := _) (v := .slice (some ⟨base, 0, none⟩) n n) rfl (by kernel_rfl) (by kernel_rfl) (by kernel_rfl) (fun _ _ _ h => h) (Or.inl ⟨by kernel_rfl, fun w hSw => ?_⟩) hHeld ?_
                        · (try dsimp only at hSw); go_simp
                        try simp only [Act.put, List.getElem_toArray, List.getElem_cons_succ, List.getElem_cons_zero, List.setIfInBounds_toArray, List.set_cons_zero, List.set_cons_succ]
                        refine wpAnyH_take (i := 22) (oi := _) (v := .int .i64 ((c : Nat) : Int)) rfl (by kernel_rfl) (by kernel_rfl) (by kernel_rfl) (fun _ _ _ h => h) (Or.inl ⟨by kernel_rfl, fun w hSw => ?_⟩) hHeld ?_
                        · (try dsimp only at hSw); go_simp
                        try simp only [Act.put, List.getElem_toArray, List.getElem_cons_succ, List.getElem_cons_zero, List.setIfInBounds_toArray, List.set_cons_zero, List.set_cons_succ]
                        refine wpAnyH_take (i := 23) (oi := _) (v := .pointer (some ⟨base, c, none⟩)) rfl (by kernel_rfl) (by kernel_rfl) (by kernel_rfl) (fun _ _ _ h => h) (Or.inl ⟨by kernel_rfl, fun w hSw => ?_⟩) hHeld ?_
                        · (try dsimp only at hSw); go_simp
                        try simp only [Act.put, List.getElem_toArray, List.getElem_cons_succ, List.getElem_cons_zero, List.setIfInBounds_toArray, List.set_cons_zero, List.set_cons_succ]
                        refine wpAnyH_take (i := 24) (oi := _) (v := .slice (some ⟨R c, 0, none⟩) n n) rfl (by kernel_rfl) (by kernel_rfl) (by kernel_rfl) (fun _ _ _ h => h) (Or.inl ⟨by kernel_rfl, fun w hSw => ?_⟩) hHeld ?_
                        · (try dsimp only at hSw); go_simp
                        try simp only [Act.put, List.getElem_toArray, List.getElem_cons_succ, List.getElem_cons_zero, List.setIfInBounds_toArray, List.set_cons_zero, List.set_cons_succ]
                        refine wpAnyH_take (i := 25) (oi := _) (v := .int .i64 ((b : Nat) : Int)) rfl (by kernel_rfl) (by kernel_rfl) (by kernel_rfl) (fun _ _ _ h => h) (Or.inl ⟨by kernel_rfl, fun w hSw => ?_⟩) hHeld ?_
                        · (try dsimp only at hSw); go_simp
                        try simp only [Act.put, List.getElem_toArray, List.getElem_cons_succ, List.getElem_cons_zero, List.setIfInBounds_toArray, List.set_cons_zero, List.set_cons_succ]
                        refine wpAnyH_take (i := 26) (oi := _) (v := .pointer (some ⟨R c, b, none⟩)) rfl (by kernel_rfl) (by kernel_rfl) (by kernel_rfl) (fun _ _ _ h => h) (Or.inl ⟨by kernel_rfl, fun w hSw => ?_⟩) hHeld ?_
                        · (try dsimp only at hSw); go_simp
                        try simp only [Act.put, List.getElem_toArray, List.getElem_cons_succ, List.getElem_cons_zero, List.setIfInBounds_toArray, List.set_cons_zero, List.set_cons_succ]
                        refine wpAnyH_ready (rs := [27]) (by kernel_rfl) (by simp) ?_
                        refine AllReadyH.cons (o := _) rfl (fun K hK => ?_) AllReadyH.nil
                        go_simp
                        refine hK.out _ _ hHeld (fun hHeld2 => ?_)
                        clear hK K hHeld
                        have hHeld := hHeld2
                        clear hHeld2
                        try simp only [Act.put, List.getElem_toArray, List.getElem_cons_succ, List.getElem_cons_zero, List.setIfInBounds_toArray, List.set_cons_zero, List.set_cons_succ]
                        refine wpAnyH_take (i := 28) (oi := _) (v := .bool false) rfl (by kernel_rfl) (by kernel_rfl) (by kernel_rfl) (fun _ _ _ h => h) (Or.inl ⟨by kernel_rfl, fun w hSw => ?_⟩) hHeld ?_
                        · (try dsimp only at hSw); go_simp
                        try simp only [Act.put, List.getElem_toArray, List.getElem_cons_succ, List.getElem_cons_zero, List.setIfInBounds_toArray, List.set_cons_zero, List.set_cons_succ]
                        refine wpAnyH_take (i := 29) (oi := _) (v := .bool false) rfl (by kernel_rfl) (by kernel_rfl) (by kernel_rfl) (fun _ _ _ h => h) (Or.inl ⟨by kernel_rfl, fun w hSw => ?_⟩) hHeld ?_
                        · (try dsimp only at hSw); go_simp
                        try simp only [Act.put, List.getElem_toArray, List.getElem_cons_succ, List.getElem_cons_zero, List.setIfInBounds_toArray, List.set_cons_zero, List.set_cons_succ]
                        refine wpAnyH_take (i := 30) (oi := _) (v := .pointer (some ⟨R a, b, none⟩)) rfl (by kernel_rfl) (by kernel_rfl) (by kernel_rfl) (fun _ _ _ h => h) (Or.inl ⟨by kernel_rfl, fun w hSw => ?_⟩) hHeld ?_
                        · (try dsimp only at hSw); go_simp
                        try simp only [Act.put, List.getElem_toArray, List.getElem_cons_succ, List.getElem_cons_zero, List.setIfInBounds_toArray, List.set_cons_zero, List.set_cons_succ]
                        refine wpAnyH_ready (rs := [31]) (by kernel_rfl) (by simp) ?_
                        refine AllReadyH.cons (o := _) rfl (fun K hK => ?_) AllReadyH.nil
                        go_simp
                        refine hK.out _ _ ⟨(World.cell?_setCell_far _ _ _ _ hRne).trans hHeld.1, (World.cell?_setCell_far _ _ _ _ hRne).trans hHeld.2⟩ (fun hHeld2 => ?_)
                        clear hK K hHeld
                        have hHeld := hHeld2
                        clear hHeld2
                        try simp only [Act.put, List.getElem_toArray, List.getElem_cons_succ, List.getElem_cons_zero, List.setIfInBounds_toArray, List.set_cons_zero, List.set_cons_succ]
                        refine wpAnyH_done (by kernel_rfl) ?_ _
                        go_wp2_with fail
                        go_roundg (n - (b + 1))
                        case rel => exact ⟨b + 1, by go_num, by omega, rfl, HGn.out, Hb5.out⟩
                        case measure => have := Hkb.out; omega
                      refine wp_region_held_drew (S := (fun w' => w'.cell? ⟨base, a, none⟩ = some (.slice (some ⟨R a, 0, none⟩) n n) ∧ w'.cell? ⟨base, c, none⟩ = some (.slice (some ⟨R c, 0, none⟩) n n))) (by kernel_rfl) ?_ (fun hHeld => ?_)
                      · exact ⟨d0, d1⟩
                      refine wpAnyH_take (i := 0) (oi := _) (v := .slice (some ⟨base, 0, none⟩) n n) rfl (by kernel_rfl) (by kernel_rfl) (by kernel_rfl) (fun _ _ _ h => h) (Or.inl ⟨by kernel_rfl, fun w hSw => ?_⟩) hHeld ?_
                      · (try dsimp only at hSw); go_simp
                      try simp only [Act.put, List.getElem_toArray, List.getElem_cons_succ, List.getElem_cons_zero, List.setIfInBounds_toArray, List.set_cons_zero, List.set_cons_succ]
                      refine wpAnyH_take (i := 1) (oi := _) (v := .int .i64 ((a : Nat) : Int)) rfl (by kernel_rfl) (by kernel_rfl) (by kernel_rfl) (fun _ _ _ h => h) (Or.inl ⟨by kernel_rfl, fun w hSw => ?_⟩) hHeld ?_
                      · (try dsimp only at hSw); go_simp
                      try simp only [Act.put, List.getElem_toArray, List.getElem_cons_succ, List.getElem_cons_zero, List.setIfInBounds_toArray, List.set_cons_zero, List.set_cons_succ]
                      refine wpAnyH_take (i := 2) (oi := _) (v := .pointer (some ⟨base, a, none⟩)) rfl (by kernel_rfl) (by kernel_rfl) (by kernel_rfl) (fun _ _ _ h => h) (Or.inl ⟨by kernel_rfl, fun w hSw => ?_⟩) hHeld ?_
                      · (try dsimp only at hSw); go_simp
                      try simp only [Act.put, List.getElem_toArray, List.getElem_cons_succ, List.getElem_cons_zero, List.setIfInBounds_toArray, List.set_cons_zero, List.set_cons_succ]
                      refine wpAnyH_take (i := 3) (oi := _) (v := .slice (some ⟨R a, 0, none⟩) n n) rfl (by kernel_rfl) (by kernel_rfl) (by kernel_rfl) (fun _ _ _ h => h) (Or.inl ⟨by kernel_rfl, fun w hSw => ?_⟩) hHeld ?_
                      · (try dsimp only at hSw); go_simp
                      try simp only [Act.put, List.getElem_toArray, List.getElem_cons_succ, List.getElem_cons_zero, List.setIfInBounds_toArray, List.set_cons_zero, List.set_cons_succ]
                      refine wpAnyH_take (i := 4) (oi := _) (v := .int .i64 ((b : Nat) : Int)) rfl (by kernel_rfl) (by kernel_rfl) (by kernel_rfl) (fun _ _ _ h => h) (Or.inl ⟨by kernel_rfl, fun w hSw => ?_⟩) hHeld ?_
                      · (try dsimp only at hSw); go_simp
                      try simp only [Act.put, List.getElem_toArray, List.getElem_cons_succ, List.getElem_cons_zero, List.setIfInBounds_toArray, List.set_cons_zero, List.set_cons_succ]
                      refine wpAnyH_take (i := 5) (oi := _) (v := .slice (some ⟨base, 0, none⟩) n n) rfl (by kernel_rfl) (by kernel_rfl) (by kernel_rfl) (fun _ _ _ h => h) (Or.inl ⟨by kernel_rfl, fun w hSw => ?_⟩) hHeld ?_
                      · (try dsimp only at hSw); go_simp
                      try simp only [Act.put, List.getElem_toArray, List.getElem_cons_succ, List.getElem_cons_zero, List.setIfInBounds_toArray, List.set_cons_zero, List.set_cons_succ]
                      refine wpAnyH_take (i := 6) (oi := _) (v := .int .i64 ((a : Nat) : Int)) rfl (by kernel_rfl) (by kernel_rfl) (by kernel_rfl) (fun _ _ _ h => h) (Or.inl ⟨by kernel_rfl, fun w hSw => ?_⟩) hHeld ?_
                      · (try dsimp only at hSw); go_simp
                      try simp only [Act.put, List.getElem_toArray, List.getElem_cons_succ, List.getElem_cons_zero, List.setIfInBounds_toArray, List.set_cons_zero, List.set_cons_succ]
                      refine wpAnyH_take (i := 7) (oi := _) (v := .pointer (some ⟨base, a, none⟩)) rfl (by kernel_rfl) (by kernel_rfl) (by kernel_rfl) (fun _ _ _ h => h) (Or.inl ⟨by kernel_rfl, fun w hSw => ?_⟩) hHeld ?_
                      · (try dsimp only at hSw); go_simp
                      try simp only [Act.put, List.getElem_toArray, List.getElem_cons_succ, List.getElem_cons_zero, List.setIfInBounds_toArray, List.set_cons_zero, List.set_cons_succ]
                      refine wpAnyH_take (i := 8) (oi := _) (v := .slice (some ⟨R a, 0, none⟩) n n) rfl (by kernel_rfl) (by kernel_rfl) (by kernel_rfl) (fun _ _ _ h => h) (Or.inl ⟨by kernel_rfl, fun w hSw => ?_⟩) hHeld ?_
                      · (try dsimp only at hSw); go_simp
                      try simp only [Act.put, List.getElem_toArray, List.getElem_cons_succ, List.getElem_cons_zero, List.setIfInBounds_toArray, List.set_cons_zero, List.set_cons_succ]
                      refine wpAnyH_take (i := 9) (oi := _) (v := .int .i64 ((b : Nat) : Int)) rfl (by kernel_rfl) (by kernel_rfl) (by kernel_rfl) (fun _ _ _ h => h) (Or.inl ⟨by kernel_rfl, fun w hSw => ?_⟩) hHeld ?_
                      · (try dsimp only at hSw); go_simp
                      try simp only [Act.put, List.getElem_toArray, List.getElem_cons_succ, List.getElem_cons_zero, List.setIfInBounds_toArray, List.set_cons_zero, List.set_cons_succ]
                      refine wpAnyH_take (i := 10) (oi := _) (v := .pointer (some ⟨R a, b, none⟩)) rfl (by kernel_rfl) (by kernel_rfl) (by kernel_rfl) (fun _ _ _ h => h) (Or.inl ⟨by kernel_rfl, fun w hSw => ?_⟩) hHeld ?_
                      · (try dsimp only at hSw); go_simp
                      try simp only [Act.put, List.getElem_toArray, List.getElem_cons_succ, List.getElem_cons_zero, List.setIfInBounds_toArray, List.set_cons_zero, List.set_cons_succ]
                      refine wpAnyH_ready (rs := [11]) (by kernel_rfl) (by simp) ?_
                      refine AllReadyH.cons (o := _) rfl (fun K hK => ?_) AllReadyH.nil
                      go_simp
                      refine hK.out _ _ hHeld (fun hHeld2 => ?_)
                      clear hK K hHeld
                      have hHeld := hHeld2
                      clear hHeld2
                      try simp only [Act.put, List.getElem_toArray, List.getElem_cons_succ, List.getElem_cons_zero, List.setIfInBounds_toArray, List.set_cons_zero, List.set_cons_succ]
                      refine wpAnyH_take (i := 12) (oi := _) (v := .bool false) rfl (by kernel_rfl) (by kernel_rfl) (by kernel_rfl) (fun _ _ _ h => h) (Or.inl ⟨by kernel_rfl, fun w hSw => ?_⟩) hHeld ?_
                      · (try dsimp only at hSw); go_simp
                      try simp only [Act.put, List.getElem_toArray, List.getElem_cons_succ, List.getElem_cons_zero, List.setIfInBounds_toArray, List.set_cons_zero, List.set_cons_succ]
                      refine wpAnyH_take (i := 13) (oi := _) (v := .slice (some ⟨base, 0, none⟩) n n) rfl (by kernel_rfl) (by kernel_rfl) (by kernel_rfl) (fun _ _ _ h => h) (Or.inl ⟨by kernel_rfl, fun w hSw => ?_⟩) hHeld ?_
                      · (try dsimp only at hSw); go_simp
                      try simp only [Act.put, List.getElem_toArray, List.getElem_cons_succ, List.getElem_cons_zero, List.setIfInBounds_toArray, List.set_cons_zero, List.set_cons_succ]
                      refine wpAnyH_take (i := 14) (oi := _) (v := .int .i64 ((a : Nat) : Int)) rfl (by kernel_rfl) (by kernel_rfl) (by kernel_rfl) (fun _ _ _ h => h) (Or.inl ⟨by kernel_rfl, fun w hSw => ?_⟩) hHeld ?_
                      · (try dsimp only at hSw); go_simp
                      try simp only [Act.put, List.getElem_toArray, List.getElem_cons_succ, List.getElem_cons_zero, List.setIfInBounds_toArray, List.set_cons_zero, List.set_cons_succ]
                      refine wpAnyH_take (i := 15) (oi := _) (v := .pointer (some ⟨base, a, none⟩)) rfl (by kernel_rfl) (by kernel_rfl) (by kernel_rfl) (fun _ _ _ h => h) (Or.inl ⟨by kernel_rfl, fun w hSw => ?_⟩) hHeld ?_
                      · (try dsimp only at hSw); go_simp
                      try simp only [Act.put, List.getElem_toArray, List.getElem_cons_succ, List.getElem_cons_zero, List.setIfInBounds_toArray, List.set_cons_zero, List.set_cons_succ]
                      refine wpAnyH_take (i := 16) (oi := _) (v := .slice (some ⟨R a, 0, none⟩) n n) rfl (by kernel_rfl) (by kernel_rfl) (by kernel_rfl) (fun _ _ _ h => h) (Or.inl ⟨by kernel_rfl, fun w hSw => ?_⟩) hHeld ?_
                      · (try dsimp only at hSw); go_simp
                      try simp only [Act.put, List.getElem_toArray, List.getElem_cons_succ, List.getElem_cons_zero, List.setIfInBounds_toArray, List.set_cons_zero, List.set_cons_succ]
                      refine wpAnyH_take (i := 17) (oi := _) (v := .int .i64 ((c : Nat) : Int)) rfl (by kernel_rfl) (by kernel_rfl) (by kernel_rfl) (fun _ _ _ h => h) (Or.inl ⟨by kernel_rfl, fun w hSw => ?_⟩) hHeld ?_
                      · (try dsimp only at hSw); go_simp
                      try simp only [Act.put, List.getElem_toArray, List.getElem_cons_succ, List.getElem_cons_zero, List.setIfInBounds_toArray, List.set_cons_zero, List.set_cons_succ]
                      refine wpAnyH_take (i := 18) (oi := _) (v := .pointer (some ⟨R a, c, none⟩)) rfl (by kernel_rfl) (by kernel_rfl) (by kernel_rfl) (fun _ _ _ h => h) (Or.inl ⟨by kernel_rfl, fun w hSw => ?_⟩) hHeld ?_
                      · (try dsimp only at hSw); go_simp
                      try simp only [Act.put, List.getElem_toArray, List.getElem_cons_succ, List.getElem_cons_zero, List.setIfInBounds_toArray, List.set_cons_zero, List.set_cons_succ]
                      refine wpAnyH_ready (rs := [19]) (by kernel_rfl) (by simp) ?_
                      refine AllReadyH.cons (o := _) rfl (fun K hK => ?_) AllReadyH.nil
                      go_simp
                      refine hK.out _ _ hHeld (fun hHeld2 => ?_)
                      clear hK K hHeld
                      have hHeld := hHeld2
                      clear hHeld2
                      try simp only [Act.put, List.getElem_toArray, List.getElem_cons_succ, List.getElem_cons_zero, List.setIfInBounds_toArray, List.set_cons_zero, List.set_cons_succ]
                      refine wpAnyH_take (i := 20) (oi := _) (v := .bool true) rfl (by kernel_rfl) (by kernel_rfl) (by kernel_rfl) (fun _ _ _ h => h) (Or.inl ⟨by kernel_rfl, fun w hSw => ?_⟩) hHeld ?_
                      · (try dsimp only at hSw); go_simp
                      try simp only [Act.put, List.getElem_toArray, List.getElem_cons_succ, List.getElem_cons_zero, List.setIfInBounds_toArray, List.set_cons_zero, List.set_cons_succ]
                      refine wpAnyH_take (i := 21) (oi := _) (v := .slice (some ⟨base, 0, none⟩) n n) rfl (by kernel_rfl) (by kernel_rfl) (by kernel_rfl) (fun _ _ _ h => h) (Or.inl ⟨by kernel_rfl, fun w hSw => ?_⟩) hHeld ?_
                      · (try dsimp only at hSw); go_simp
                      try simp only [Act.put, List.getElem_toArray, List.getElem_cons_succ, List.getElem_cons_zero, List.setIfInBounds_toArray, List.set_cons_zero, List.set_cons_succ]
                      refine wpAnyH_take (i := 22) (oi := _) (v := .int .i64 ((c : Nat) : Int)) rfl (by kernel_rfl) (by kernel_rfl) (by kernel_rfl) (fun _ _ _ h => h) (Or.inl ⟨by kernel_rfl, fun w hSw => ?_⟩) hHeld ?_
                      · (try dsimp only at hSw); go_simp
                      try simp only [Act.put, List.getElem_toArray, List.getElem_cons_succ, List.getElem_cons_zero, List.setIfInBounds_toArray, List.set_cons_zero, List.set_cons_succ]
                      refine wpAnyH_take (i := 23) (oi := _) (v := .pointer (some ⟨base, c, none⟩)) rfl (by kernel_rfl) (by kernel_rfl) (by kernel_rfl) (fun _ _ _ h => h) (Or.inl ⟨by kernel_rfl, fun w hSw => ?_⟩) hHeld ?_
                      · (try dsimp only at hSw); go_simp
                      try simp only [Act.put, List.getElem_toArray, List.getElem_cons_succ, List.getElem_cons_zero, List.setIfInBounds_toArray, List.set_cons_zero, List.set_cons_succ]
                      refine wpAnyH_take (i := 24) (oi := _) (v := .slice (some ⟨R c, 0, none⟩) n n) rfl (by kernel_rfl) (by kernel_rfl) (by kernel_rfl) (fun _ _ _ h => h) (Or.inl ⟨by kernel_rfl, fun w hSw => ?_⟩) hHeld ?_
                      · (try dsimp only at hSw); go_simp
                      try simp only [Act.put, List.getElem_toArray, List.getElem_cons_succ, List.getElem_cons_zero, List.setIfInBounds_toArray, List.set_cons_zero, List.set_cons_succ]
                      refine wpAnyH_take (i := 25) (oi := _) (v := .int .i64 ((b : Nat) : Int)) rfl (by kernel_rfl) (by kernel_rfl) (by kernel_rfl) (fun _ _ _ h => h) (Or.inl ⟨by kernel_rfl, fun w hSw => ?_⟩) hHeld ?_
                      · (try dsimp only at hSw); go_simp
                      try simp only [Act.put, List.getElem_toArray, List.getElem_cons_succ, List.getElem_cons_zero, List.setIfInBounds_toArray, List.set_cons_zero, List.set_cons_succ]
                      refine wpAnyH_take (i := 26) (oi := _) (v := .pointer (some ⟨R c, b, none⟩)) rfl (by kernel_rfl) (by kernel_rfl) (by kernel_rfl) (fun _ _ _ h => h) (Or.inl ⟨by kernel_rfl, fun w hSw => ?_⟩) hHeld ?_
                      · (try dsimp only at hSw); go_simp
                      try simp only [Act.put, List.getElem_toArray, List.getElem_cons_succ, List.getElem_cons_zero, List.setIfInBounds_toArray, List.set_cons_zero, List.set_cons_succ]
                      refine wpAnyH_ready (rs := [27]) (by kernel_rfl) (by simp) ?_
                      refine AllReadyH.cons (o := _) rfl (fun K hK => ?_) AllReadyH.nil
                      go_simp
                      refine hK.out _ _ hHeld (fun hHeld2 => ?_)
                      clear hK K hHeld
                      have hHeld := hHeld2
                      clear hHeld2
                      try simp only [Act.put, List.getElem_toArray, List.getElem_cons_succ, List.getElem_cons_zero, List.setIfInBounds_toArray, List.set_cons_zero, List.set_cons_succ]
                      refine wpAnyH_take (i := 28) (oi := _) (v := .bool true) rfl (by kernel_rfl) (by kernel_rfl) (by kernel_rfl) (fun _ _ _ h => h) (Or.inl ⟨by kernel_rfl, fun w hSw => ?_⟩) hHeld ?_
                      · (try dsimp only at hSw); go_simp
                      try simp only [Act.put, List.getElem_toArray, List.getElem_cons_succ, List.getElem_cons_zero, List.setIfInBounds_toArray, List.set_cons_zero, List.set_cons_succ]
                      refine wpAnyH_take (i := 29) (oi := _) (v := .bool true) rfl (by kernel_rfl) (by kernel_rfl) (by kernel_rfl) (fun _ _ _ h => h) (Or.inl ⟨by kernel_rfl, fun w hSw => ?_⟩) hHeld ?_
                      · (try dsimp only at hSw); go_simp
                      try simp only [Act.put, List.getElem_toArray, List.getElem_cons_succ, List.getElem_cons_zero, List.setIfInBounds_toArray, List.set_cons_zero, List.set_cons_succ]
                      refine wpAnyH_take (i := 30) (oi := _) (v := .pointer (some ⟨R a, b, none⟩)) rfl (by kernel_rfl) (by kernel_rfl) (by kernel_rfl) (fun _ _ _ h => h) (Or.inl ⟨by kernel_rfl, fun w hSw => ?_⟩) hHeld ?_
                      · (try dsimp only at hSw); go_simp
                      try simp only [Act.put, List.getElem_toArray, List.getElem_cons_succ, List.getElem_cons_zero, List.setIfInBounds_toArray, List.set_cons_zero, List.set_cons_succ]
                      refine wpAnyH_ready (rs := [31]) (by kernel_rfl) (by simp) ?_
                      refine AllReadyH.cons (o := _) rfl (fun K hK => ?_) AllReadyH.nil
                      go_simp
                      refine hK.out _ _ ⟨(World.cell?_setCell_far _ _ _ _ hRne).trans hHeld.1, (World.cell?_setCell_far _ _ _ _ hRne).trans hHeld.2⟩ (fun hHeld2 => ?_)
                      clear hK K hHeld
                      have hHeld := hHeld2
                      clear hHeld2
                      try simp only [Act.put, List.getElem_toArray, List.getElem_cons_succ, List.getElem_cons_zero, List.setIfInBounds_toArray, List.set_cons_zero, List.set_cons_succ]
                      refine wpAnyH_done (by kernel_rfl) ?_ _
                      go_wp2_with fail
                      go_roundg (n - (b + 1))
                      case rel => exact ⟨b + 1, by go_num, by omega, rfl, HGn.out, Hb5.out⟩
                      case measure => have := Hkb.out; omega
                    · obtain rfl : n = b := by omega
                      have HGn := Lib.hid (HGb.out.congr (T' := fwMix T c (a + 1) 0) (fun i j _ hj => fwMix_row_end T c a n i j hj))
                      go_wp2_with fail
                      go_roundg (n - (a + 1))
                      case rel => exact ⟨a + 1, by go_num, by omega, rfl, HGn.out, Hbsb.out⟩
                      case measure => have := Hka.out; omega
                · obtain rfl : n = a := by omega
                  have HGn : Hid (Grid w2 base base n n R (fwN (tabE l) (c + 1)) wr) := by
                    refine HGa.out.congr (fun i j hi _ => ?_)
                    rw [fwMix_end T c n i j hi, ← HT.out]
                    rfl
                  go_wp2_with fail
                  go_roundg (n - (c + 1))
                  case rel => exact ⟨c + 1, by go_num, by omega, rfl, HGn.out, Hbsa.out⟩
                  case measure => have := Hk.out; omega
            · obtain rfl : n = c := by omega
              have HTab : Hid (∀ i j, i < n → j < n → (fwN (tabE l) n i j = true ↔ Rch (EdL l) i j)) := fun i j hi hj => (fwN_table tabE_table n (Nat.le_refl _)).all (fun a b h => HG.out.lt h) hi hj
              obtain ⟨T, hT⟩ : ∃ T, fwN (tabE l) n = T := ⟨_, rfl⟩
              have hG3 := HGr.out
              have hTab := HTab.out
              rw [hT] at hG3 hTab
              have HTb := Lib.hid hTab
              have HG3 := Lib.hid hG3
              clear hG3 hT hTab HTab HGr
              have m1 := mk_boolc n (by omega)
              go_wp2_with fail
              obtain ⟨Q, hQ⟩ : ∃ Q, wr.heap.size = Q := ⟨_, rfl⟩
              obtain ⟨w4, hw4⟩ : ∃ w4 : World, w4 = wr.alloc (.cells (boolCells (fun _ => false) n).toArray 4) := ⟨_, rfl⟩
              have hb4 : Below wr.heap.size wr w4 := by rw [hw4]; exact (Below.refl _ _).alloc (Nat.le_refl _) _
              have hM4 : Marks w4 Q n (fun _ => false) := by rw [hw4, ← hQ]; exact heap_alloc_new wr _
              have hs4 : w4.heap.size = Q + 1 := by rw [hw4, ← hQ]; simp
              have hG4 := HG3.out.belowW hb4 Hbs.out
              have hlG := HG3.out.lt
              rw [hQ] at hlG
              rw [← hw4, hQ]
              have HM4 := Lib.hid hM4
              have Hs4 := Lib.hid hs4
              have HG4 := Lib.hid hG4
              have HlG := Lib.hid hlG
              obtain ⟨i0, hi0, hz0, hz1, hz2⟩ := info_parts info_int2
              have Hi0 := Lib.hid (And.intro hi0 (And.intro hz0 (And.intro hz1 hz2)))
              obtain ⟨j0, hj0, hy0', hy1, hy2⟩ := info_parts info_ints
              have Hj0 := Lib.hid (And.intro hj0 (And.intro hy0' (And.intro hy1 hy2)))
              have HbQ : Hid (base ≤ Q) := by show base ≤ Q; have := Hbs.out; omega
              clear hQ hw4 hb4 hM4 hs4 hG4 hlG m1 hi0 hz0 hz1 hz2 hj0 hy0' hy1 hy2 HG3
              go_loopg [14, 110] n (fun k v14 v110 wr => ∃ (r : Nat) (outv : Value) (vs : List Value) (outs : List (List Nat)) (told : Nat → Bool), outv = v14 ∧ v110 = .int .i64 r ∧ r ≤ n ∧ k = n - r ∧ Grid w2 base base n n R T wr ∧ Marks wr Q n told ∧ Outs (Q + 1) outv vs outs wr ∧ DocR (EdL l) n outs told ∧ (AllTold n outs ∨ r ≤ toldCnt told n) ∧ outs.length ≤ r ∧ Q + 1 ≤ wr.heap.size ∧ ∀ u ∈ vs, ∀ k, u.ownBlock = some k → Q + 1 ≤ k)
              case atStart => exact ⟨0, _, [], [], _, rfl, rfl, Nat.zero_le _, rfl, HG4.out, HM4.out, Outs.start _ _, ⟨.nil _ _, fun i _ => ⟨fun h => (by cases h), fun ⟨_, h, _⟩ => (by cases h)⟩⟩, Or.inr (Nat.zero_le _), Nat.le_refl _, Nat.le_of_eq Hs4.out.symm, fun _ h => (by cases h)⟩
              case round =>
                obtain ⟨r, outv, vs, outs, told, rfl, rfl, hr, hk, hGr, hM, hO, hD, hA, hl, hbs, hvq⟩ := hrel
                have HVq := Lib.hid hvq
                have Hk := Lib.hid hk
                have HGr := Lib.hid hGr
                have HM := Lib.hid hM
                have HO := Lib.hid hO
                have HD := Lib.hid hD
                have HA := Lib.hid hA
                have Hl := Lib.hid hl
                have Hbs := Lib.hid hbs
                clear hk hGr hM hO hD hA hl hbs hvq
                by_cases hltr : r < n
                · go_wp2_with fail
                  obtain ⟨wo, rfl⟩ : ∃ wo : World, wo = wr := ⟨_, rfl⟩
                  go_loopg [14, 113] n (fun k v14 v113 wr => ∃ (i : Nat), outv = v14 ∧ v113 = .int .i64 i ∧ i ≤ n ∧ k = n - i ∧ (∀ x, x < i → freeB T told n x = false) ∧ Below wo.heap.size wo wr)
                  case atStart => exact ⟨0, rfl, rfl, Nat.zero_le _, rfl, fun x hx => absurd hx (Nat.not_lt_zero _), Below.refl _ _⟩
                  case round =>
                    obtain ⟨i, rfl, rfl, hi, hk, hno, hB⟩ := hrel
                    have Hki := Lib.hid hk
                    have Hno := Lib.hid hno
                    have HB := Lib.hid hB
                    clear hk hno hB
                    by_cases hlti : i < n
                    · have hMi : Marks wr Q n told := HM.out.keep (HB.out.block Q (by have := Hbs.out; omega))
                      have cQ := hMi.cell hlti
                      obtain ⟨ti, hti⟩ : ∃ ti, told i = ti := ⟨_, rfl⟩
                      rw [hti] at cQ
                      have HF0 : Hid (freeU T told i 0 = !ti) := by show _ = _; rw [freeU_zero, hti]
                      clear hti hMi
                      go_wp2_with fail
                      clear cQ
                      obtain ⟨wp, rfl⟩ : ∃ wp : World, wp = wr := ⟨_, rfl⟩
                      go_loopg [17, 122] n (fun k v17 v122 wr => ∃ (j : Nat) (fr : Bool), v17 = .bool fr ∧ v122 = .int .i64 j ∧ j ≤ n ∧ k = n - j ∧ freeU T told i j = fr ∧ Below wo.heap.size wo wr)
                      case atStart => exact ⟨0, _, rfl, rfl, Nat.zero_le _, rfl, HF0.out, HB.out⟩
                      case round =>
                        obtain ⟨j, fr, rfl, rfl, hj, hk, hF, hB⟩ := hrel
                        have Hkj := Lib.hid hk
                        have HF := Lib.hid hF
                        have HBj := Lib.hid hB
                        clear hk hF hB
                        have hGj := HGr.out.belowW HBj.out (by have := Hbs.out; have := HbQ.out; omega)
                        have hMj : Marks wr Q n told := HM.out.keep (HBj.out.block Q (by have := Hbs.out; omega))
                        by_cases hltj : j < n
                        · have d0 := hGj.cellR hltj hltj
                          have d1 := hGj.cellR hlti hlti
                          have ct := hMj.cell hltj
                          have c1 := (hGj.row j hltj).cell hlti
                          have c2 := (hGj.row i hlti).cell hltj
                          have hS := freeU_succ T told i j
                          rw [HF.out] at hS
                          obtain ⟨tj, htj⟩ : ∃ tj, told j = tj := ⟨_, rfl⟩
                          obtain ⟨y, hy⟩ : ∃ y, T j i = y := ⟨_, rfl⟩
                          obtain ⟨z, hz⟩ : ∃ z, T i j = z := ⟨_, rfl⟩
                          rw [htj] at ct hS
                          rw [hy] at c1 hS
                          rw [hz] at c2 hS
                          have HS := Lib.hid hS
                          clear hS htj hy hz hGj hMj HF
                          cases fr
                          case' false =>
                            go_wp2_with fail
                            go_roundg (n - (j + 1))
                            case rel => exact ⟨j + 1, _, rfl, by go_num, by omega, rfl, HS.out, HBj.out⟩
                            case measure => have := Hkj.out; omega
                          cases tj
                          case' true =>
                            go_wp2_with fail
                            go_roundg (n - (j + 1))
                            case rel => exact ⟨j + 1, _, rfl, by go_num, by omega, rfl, HS.out, HBj.out⟩
                            case measure => have := Hkj.out; omega
                          cases y
                          case' false =>
                            go_wp2_with fail
                            go_roundg (n - (j + 1))
                            case rel => exact ⟨j + 1, _, rfl, by go_num, by omega, rfl, HS.out, HBj.out⟩
                            case measure => have := Hkj.out; omega
                          cases z
                          case' false =>
                            go_wp2_with fail
                            go_roundg (n - (j + 1))
                            case rel => exact ⟨j + 1, _, rfl, by go_num, by omega, rfl, HS.out, HBj.out⟩
                            case measure => have := Hkj.out; omega
                          go_wp2_with fail
                          go_roundg (n - (j + 1))
                          case rel => exact ⟨j + 1, _, rfl, by go_num, by omega, rfl, HS.out, HBj.out⟩
                          case measure => have := Hkj.out; omega
                        · obtain rfl : n = j := by omega
                          cases fr
                          · have hnf : freeB T told n i = false := HF.out
                            have HN : Hid (∀ x, x < i + 1 → freeB T told n x = false) := by
                              intro x hx
                              rcases Nat.lt_or_ge x i with h' | h'
                              · exact Hno.out x h'
                              · rw [show x = i by omega]; exact hnf
                            clear hnf hGj hMj
                            go_wp2_with fail
                            go_roundg (n - (i + 1))
                            case rel => exact ⟨i + 1, rfl, by go_num, by omega, rfl, HN.out, HBj.out⟩
                            case measure => have := Hki.out; omega
                          · have hf : freeB T told n i = true := HF.out
                            have HDn := Lib.hid (doc_step (fun a b h => HG.out.lt h) HTb.out HD.out hlti hf Hno.out)
                            have HAn : Hid (AllTold n (outs ++ [setOf T n i]) ∨ r + 1 ≤ toldCnt (tellB T told i n) n) := by
                              rcases HA.out with h | h
                              · exact Or.inl fun x hx => told_snoc.2 (Or.inl (h x hx))
                              · exact Or.inr (Nat.le_trans (Nat.succ_le_succ h) (told_more hlti ((HTb.out i i hlti hlti).2 (.refl i)) hf))
                            have HGj := Lib.hid hGj
                            have HMj := Lib.hid hMj
                            have HOj := Lib.hid (HO.out.keep HBj.out.size (fun k hk => HBj.out.block k hk))
                            have Hbj : Hid (wo.heap.size ≤ wr.heap.size) := HBj.out.size
                            clear hf hGj hMj
                            go_wp2_with fail
                            obtain ⟨base3, hb3⟩ : ∃ b, wr.heap.size = b := ⟨_, rfl⟩
                            have HOl : Hid (∀ k, outv.ownBlock = some k → k < base3) := fun k e => by rw [← hb3]; exact (HOj.out.own.lt k e).2
                            have HVl : Hid (∀ u ∈ vs, ∀ k, u.ownBlock = some k → k < base3) := fun u hu k e => by rw [← hb3]; exact (HOj.out.off u hu k e).2
                            have Hb3 : Hid (Q + 1 ≤ base3) := by show _ ≤ _; have := Hbs.out; have := Hbj.out; omega
                            have HM0 : Hid (Marks wr Q n (tellB T told i 0)) := HMj.out.congr (fun x _ => (tellB_zero T told i x).symm)
                            have Hsz : Hid (base3 ≤ wr.heap.size) := Nat.le_of_eq hb3.symm
                            clear hb3 HMj
                            go_loopg [19, 155] n (fun k v19 v155 wr => ∃ (j : Nat) (setv : Value), setv = v19 ∧ v155 = .int .i64 j ∧ j ≤ n ∧ k = n - j ∧ Grid w2 base base n n R T wr ∧ Marks wr Q n (tellB T told i j) ∧ Outs (Q + 1) outv vs outs wr ∧ wr.ownsRow base3 3 1 setv (setU T i j).length (natRow (setU T i j)) ∧ base3 ≤ wr.heap.size)
                            case atStart => exact ⟨0, _, rfl, rfl, Nat.zero_le _, rfl, HGj.out, HM0.out, HOj.out, World.ownsRow_nil _ _ _ _, Hsz.out⟩
                            case round =>
                              obtain ⟨j, setv, rfl, rfl, hj, hk, hGr, hM, hO, hS, hbs⟩ := hrel
                              have Hkj := Lib.hid hk
                              have HG9 := Lib.hid hGr
                              have HM9 := Lib.hid hM
                              have HO9 := Lib.hid hO
                              have HS9 := Lib.hid hS
                              have Hb9 := Lib.hid hbs
                              clear hk hGr hM hO hS hbs
                              by_cases hltj : j < n
                              · have d0 := HG9.out.cellR hltj hltj
                                have d1 := HG9.out.cellR hlti hlti
                                have c1 := (HG9.out.row i hlti).cell hltj
                                have c2 := (HG9.out.row j hltj).cell hlti
                                have hsu := setU_succ T i j
                                have htb := tellB_succ T told i j
                                obtain ⟨y, hy⟩ : ∃ y, T i j = y := ⟨_, rfl⟩
                                obtain ⟨z, hz⟩ : ∃ z, T j i = z := ⟨_, rfl⟩
                                rw [hy] at c1 hsu htb
                                rw [hz] at c2 hsu htb
                                clear hy hz
                                cases y
                                case' false =>
                                  have HSU : Hid (setU T i (j + 1) = setU T i j) := hsu
                                  have HMn : Hid (Marks wr Q n (tellB T told i (j + 1))) := HM9.out.congr (fun x _ => by rw [htb x]; exact (if_neg (fun e => by cases e.2)).symm)
                                  clear hsu htb
                                  go_wp2_with fail
                                  go_roundg (n - (j + 1))
                                  case rel => exact ⟨j + 1, _, rfl, by go_num, by omega, rfl, HG9.out, HMn.out, HO9.out, by rw [HSU.out]; exact HS9.out, Hb9.out⟩
                                  case measure => have := Hkj.out; omega
                                cases z
                                case' false =>
                                  have HSU : Hid (setU T i (j + 1) = setU T i j) := hsu
                                  have HMn : Hid (Marks wr Q n (tellB T told i (j + 1))) := HM9.out.congr (fun x _ => by rw [htb x]; exact (if_neg (fun e => by cases e.2)).symm)
                                  clear hsu htb
                                  go_wp2_with fail
                                  go_roundg (n - (j + 1))
                                  case rel => exact ⟨j + 1, _, rfl, by go_num, by omega, rfl, HG9.out, HMn.out, HO9.out, by rw [HSU.out]; exact HS9.out, Hb9.out⟩
                                  case measure => have := Hkj.out; omega
                                have HSU : Hid (setU T i (j + 1) = setU T i j ++ [j]) := hsu
                                have HMn := Lib.hid htb
                                have hls := setU_len T i j
                                clear hsu htb
                                have hQl : Q < base3 := by have := Hb3.out; omega
                                have lQ := HM9.out.lt
                                go_wp2_with (at_builtin; refine wpList_append_own_at _ rfl _ _ 31 rfl base3 3 i0 _ 1 8 Tryz.underlying31 Hi0.out.1 Hi0.out.2.1 Hi0.out.2.2.1 Hi0.out.2.2.2 rfl (by decide) setv _ _ rfl (HS9.out.alloc _) ⟨wr.heap.size, 0, none⟩ 1 1 [.int .i64 ((j : Nat) : Int)] rfl rfl (World.news_of_block (cs := #[.int .i64 ((j : Nat) : Int)]) (t := 3) (fr := (0, 0)) (heap_alloc_new wr _)) (by simp [Value.oneCell']) (by unfold maxLen; omega) (by omega) (by have := Hb9.out; simp; omega) ?_)
                                intro sv2 w2' hown2 hg2 _ hat2
                                have hk2 : ∀ k, k < base3 → w2'.heap[k]? = wr.heap[k]? := fun k hk => (hg2.block k (by have := Hb9.out; simp; omega) (fun e => by have := (HS9.out.lt k e.symm).1; omega)).trans (Below.heap_alloc wr _ k (by have := Hb9.out; omega))
                                have hs2 : base3 ≤ w2'.heap.size := by have h1 := hg2.size; have h2 := Hb9.out; simp at h1; omega
                                have hB2 : Below base w2 w2' := (HG9.out.below.alloc (by have := Hb9.out; have := Hb3.out; have := HbQ.out; omega) _).grown hg2 (by have := Hb9.out; have := Hb3.out; have := HbQ.out; simp; omega) (fun k e => by have := (HS9.out.lt k e).1; have := Hb3.out; have := HbQ.out; omega)
                                have hG2 := HG9.out.keep hB2 (fun x hx => hk2 x (by rcases hx with rfl | ⟨a, ha, rfl⟩; have := HbQ.out; omega; have := HlG.out.2 a ha; omega))
                                have hM2 := HM9.out.keep (hk2 Q hQl)
                                have hO2 : Outs (Q + 1) outv vs outs w2' := HO9.out.kept (by have := hg2.size; simp at this; omega) (fun k e => hk2 k (by
                                  rcases e with e | ⟨u, hu, e⟩
                                  · exact HOl.out k e
                                  · exact HVl.out u hu k e))
                                have hMj2 := (hM2.set j true).congr (g := tellB T told i (j + 1)) (fun x _ => by
                                  rw [HMn.out x]
                                  unfold updT
                                  by_cases e : x = j
                                  · rw [if_pos e, if_pos ⟨e, rfl⟩]
                                  · rw [if_neg e, if_neg (fun h => e h.1)])
                                have hk3 : ∀ k, k ≠ Q → (w2'.setCell ⟨Q, j, none⟩ (.bool true)).heap[k]? = w2'.heap[k]? := fun k hk => heap_setCell_ne w2' Q j _ hk
                                have HG3' := Lib.hid (hG2.keep (w' := w2'.setCell ⟨Q, j, none⟩ (.bool true)) (hB2.setCell HbQ.out _) (fun x hx => hk3 x (by rcases hx with rfl | ⟨a, ha, rfl⟩; have := HlG.out.1; omega; have := HlG.out.2 a ha; omega)))
                                have HM3' := Lib.hid hMj2
                                have HO3' := Lib.hid (hO2.kept (w' := w2'.setCell ⟨Q, j, none⟩ (.bool true)) (by simp [World.setCell]) (fun k e => hk3 k (by
                                  rcases e with e | ⟨u, hu, e⟩
                                  · have := (hO2.own.lt k e).1; omega
                                  · have := HVq.out u hu k e; omega)))
                                have HS3' : Hid ((w2'.setCell ⟨Q, j, none⟩ (.bool true)).ownsRow base3 3 1 sv2 (setU T i (j + 1)).length (natRow (setU T i (j + 1)))) := by
                                  show World.ownsRow _ _ _ _ _ _ _
                                  have e1 : (setU T i j ++ [j]).length = (setU T i j).length + 1 := by simp
                                  have e2 : natRow (setU T i j ++ [j]) = natRow (setU T i j) ++ [.int .i64 ((j : Nat) : Int)] := by simp [natRow]
                                  rw [HSU.out, e1, e2]
                                  exact ownsRow_kept hown2 (fun k e => hk3 k (by have := (hown2.lt k e).1; omega))
                                have Hb3' : Hid (base3 ≤ (w2'.setCell ⟨Q, j, none⟩ (.bool true)).heap.size) := by show _ ≤ _; simpa [World.setCell] using hs2
                                have cQ2 := hM2.cell hltj
                                have zQ2 := hM2.free j
                                have lQ2 := hM2.lt
                                clear hown2 hg2 hat2 hk2 hs2 hB2 hG2 hM2 hO2 hMj2 hk3 lQ d0 d1 c1 c2
                                go_wp2_with fail
                                go_roundg (n - (j + 1))
                                case rel => exact ⟨j + 1, _, rfl, by go_num, by omega, rfl, HG3'.out, HM3'.out, HO3'.out, HS3'.out, Hb3'.out⟩
                                case measure => have := Hkj.out; omega
                              · obtain rfl : n = j := by omega
                                have hSl := setU_len T i n
                                have hRow : Row wr setv (setU T i n) := row_owned HS9.out
                                have hvl : vs.length ≤ 40 := by have := HO9.out.lens; have := Hl.out; omega
                                obtain ⟨sa, sm, sc, hsv⟩ : ∃ a m c, setv = .slice a m c := by
                                  rcases HS9.out.2 with ⟨e, _⟩ | ⟨g, cap, cur, e, _⟩
                                  · exact ⟨_, _, _, e⟩
                                  · exact ⟨_, _, _, e⟩
                                have hsb : ∀ k, setv.ownBlock = some k → base3 ≤ k ∧ k < wr.heap.size := fun k e => HS9.out.lt k e
                                rw [hsv] at hRow hsb ⊢
                                have HRow := Lib.hid hRow
                                have Hsb := Lib.hid hsb
                                clear hRow hsb hsv
                                have hQ9 : Q + 1 ≤ wr.heap.size := by have := Hb9.out; have := Hb3.out; omega
                                go_wp2_with (at_builtin; refine wpList_append_own_at _ rfl _ _ 132 rfl (Q + 1) 31 j0 _ 1 24 Tryz.underlying132 Hj0.out.1 Hj0.out.2.1 Hj0.out.2.2.1 Hj0.out.2.2.2 rfl (by decide) outv vs.length vs rfl (HO9.out.own.alloc _) ⟨wr.heap.size, 0, none⟩ 1 1 [.slice sa sm sc] rfl rfl (World.news_of_block (cs := #[.slice sa sm sc]) (t := 31) (fr := (0, 0)) (heap_alloc_new wr _)) (by simp [Value.oneCell']) (by unfold maxLen; omega) (by omega) (by simp; omega) ?_)
                                intro ov6 w6 hown6 hg6 _ hat6
                                have hgb : ∀ k, outv.ownBlock = some k → Q + 1 ≤ k := fun k e => (HO9.out.own.lt k e).1
                                have hka : ∀ k, k < wr.heap.size → (wr.alloc (.cells #[.slice sa sm sc] 31)).heap[k]? = wr.heap[k]? := fun k hk => Below.heap_alloc wr _ k hk
                                have hOa : Outs (Q + 1) outv vs outs (wr.alloc (.cells #[.slice sa sm sc] 31)) := HO9.out.keep (by simp) hka
                                have hO6 := hOa.push hg6 hown6 (by simpa using hat6) (S := setU T i n) (HRow.out.kept (by simp) (fun k e => hka k (Hsb.out k e).2)) (fun k e => ⟨fun e' => by have := HOl.out k e'; have := (Hsb.out k e).1; omega, by have := (Hsb.out k e).2; simp; omega⟩)
                                have hk6 : ∀ k, k ≤ Q → w6.heap[k]? = wr.heap[k]? := fun k hk => (hg6.block k (by simp; omega) (fun e => by have := hgb k e.symm; omega)).trans (hka k (by omega))
                                have hB6 : Below base w2 w6 := (HG9.out.below.alloc (by have := HbQ.out; omega) _).grown hg6 (by have := HbQ.out; simp; omega) (fun k e => by have := hgb k e; have := HbQ.out; omega)
                                have HG6 := Lib.hid (HG9.out.keep hB6 (fun x hx => hk6 x (by rcases hx with rfl | ⟨a, ha, rfl⟩; have := HbQ.out; omega; have := HlG.out.2 a ha; omega)))
                                have HM6 := Lib.hid (HM9.out.keep (hk6 Q (Nat.le_refl _)))
                                have HO6 := Lib.hid hO6
                                have Hb6 : Hid (Q + 1 ≤ w6.heap.size) := by show _ ≤ _; have := hg6.size; simp at this; omega
                                have Hl6 : Hid ((outs ++ [setU T i n]).length ≤ r + 1) := by show _ ≤ _; have := Hl.out; simp; omega
                                have hvq6 : ∀ u ∈ vs ++ [.slice sa sm sc], ∀ k, u.ownBlock = some k → Q + 1 ≤ k := by
                                  intro u hu k e
                                  rcases List.mem_append.1 hu with hu | hu
                                  · exact HVq.out u hu k e
                                  · rw [List.mem_singleton.1 hu] at e
                                    have := (Hsb.out k e).1
                                    have := Hb3.out
                                    omega
                                have HVq6 := Lib.hid hvq6
                                clear hown6 hg6 hat6 hgb hka hOa hO6 hk6 hB6 hvq6
                                go_wp2_with fail
                                go_roundg (n - (r + 1))
                                case rel => exact ⟨r + 1, _, _, _, _, rfl, by go_num, by omega, rfl, HG6.out, HM6.out, HO6.out, HDn.out, HAn.out, Hl6.out, Hb6.out, HVq6.out⟩
                                case measure => have := Hk.out; omega
                    · obtain rfl : n = i := by omega
                      have HAll := Lib.hid (told_none HTb.out HD.out Hno.out)
                      have HGn := Lib.hid (HGr.out.belowW HB.out (by have := Hbs.out; have := HbQ.out; omega))
                      have HMn : Hid (Marks wr Q n told) := HM.out.keep (HB.out.block Q (by have := Hbs.out; omega))
                      have HOn := Lib.hid (HO.out.keep HB.out.size (fun k hk => HB.out.block k hk))
                      have Hbn : Hid (Q + 1 ≤ wr.heap.size) := Nat.le_trans Hbs.out HB.out.size
                      have Hln : Hid (outs.length ≤ r + 1) := Nat.le_succ_of_le Hl.out
                      go_wp2_with fail
                      go_roundg (n - (r + 1))
                      case rel => exact ⟨r + 1, _, _, _, _, rfl, by go_num, by omega, rfl, HGn.out, HMn.out, HOn.out, HD.out, Or.inl HAll.out, Hln.out, Hbn.out, HVq.out⟩
                      case measure => have := Hk.out; omega
                · obtain rfl : n = r := by omega
                  have HAll : Hid (AllTold n outs) := HA.out.elim id (told_all HD.out)
                  have HRows := Lib.hid HO.out.rows
                  have hwb : w.heap.size < base := by have := HRC2.out.lt; have := Hs2.out; omega
                  have hrc := HRC2.out.below HGr.out.below hwb
                  have hfn := HN2.out.below HGr.out.below (Nat.le_of_eq Hs2.out)
                  have f0 := hfn.c0
                  have f1 := hfn.c1
                  have fl := hfn.lt
                  have c0 := hrc.c0
                  have c1 := hrc.c1
                  have z0 := hrc.z0
                  have z1 := hrc.z1
                  have hrl := hrc.lt
                  have d0 := hrc.d0 (.int .i64 0)
                  have d1 := hrc.d1 (.int .i64 0) (.int .i64 (-1))
                  clear hrc hfn
                  obtain ⟨oa, om, oc, hov⟩ : ∃ a m c, outv = .slice a m c := by
                    rcases HO.out.own.2 with ⟨e, _⟩ | ⟨g, cap, cur, e, _⟩
                    · exact ⟨_, _, _, e⟩
                    · exact ⟨_, _, _, e⟩
                  rw [hov]
                  have Hov := Lib.hid hov
                  clear hov
                  go_wp2_with fail
                  go_region
                  go_wp2_with fail
                  try simp only [Exit.inBlock, Exit.then]
                  refine bodyPost_ret (v := .tuple #[.slice oa om oc, .agg #[.int .i64 0, .int .i64 (-1)]]) (by simp [results, Tryz.results80, go_sem, d0, d1]; try rfl) rfl ?_
                  have hov2 := Hov.out
                  refine ⟨_, outs, by rw [Hr.out], ?_, fun h => absurd Hr.out h, fun _ m' hm' => ?_, by have := Hl.out; omega, ?_⟩
                  · rw [← hov2]
                    have hbw : Below wr.heap.size wr wr := Below.refl _ _
                    exact rows2_cells HRows.out HO.out HVq.out (by have := HbQ.out; omega) (Nat.le_refl _)
                  · obtain rfl : n = m' := by omega
                    exact ⟨HD.out.ord, HAll.out⟩
                  · exact (((HB2.out.trans (HGr.out.below.mono (by omega))).setCell (Nat.le_refl _) _).setCell (Nat.le_refl _) _).drew
end Go.Proofs.YtnfnebfioibndaaGreatDoor
