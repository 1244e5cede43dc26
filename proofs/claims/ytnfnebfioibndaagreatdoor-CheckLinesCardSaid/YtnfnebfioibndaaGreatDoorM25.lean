/- order.Rings: all in rings, in order. -/
import Derived.Test.YtnfnebfioibndaaGreatDoorM24
namespace Go.Proofs.YtnfnebfioibndaaGreatDoor
open Go.RowKit
set_option maxRecDepth 100000
set_option maxHeartbeats 4000000

theorem heap_top {w : World} {o : Obj} {k : Nat} (h : k = w.heap.size) : (w.alloc o).heap[k]? = some o := by
  subst h
  exact heap_alloc_new w o
theorem heap_under {w : World} {o x : Obj} {k : Nat} (h : k < w.heap.size) (h2 : w.heap[k]? = some x) : (w.alloc o).heap[k]? = some x := (Below.heap_alloc w o k h).trans h2
theorem heap_topD {w : World} {o : Obj} {k : Nat} (h : k = w.heap.size) : (w.alloc o).drew.heap[k]? = some o := heap_top h
theorem heap_underD {w : World} {o x : Obj} {k : Nat} (h : k < w.heap.size) (h2 : w.heap[k]? = some x) : (w.alloc o).drew.heap[k]? = some x := heap_under h h2

/-- A walker, while its edges are laid. -/
structure LaidW (w : World) (B O A L n base : Nat) (rows : Nat → Value) (adj : Nat → List Nat) (wr : World) : Prop where
  adj : Adj base O n rows adj wr
  blk : wr.heap[B]? = some (.cells #[.slice (some ⟨O, 0, none⟩) n n, .slice (some ⟨A, 0, none⟩) n n, .slice (some ⟨L, 0, none⟩) n n, .slice none 0 0, .int .i64 0, .slice none 0 0] 164)
  ats : wr.heap[A]? = some (.cells (natCells (fun _ => 0) n).toArray 3)
  lows : wr.heap[L]? = some (.cells (natCells (fun _ => 0) n).toArray 3)
  lt : B < base ∧ O < base ∧ A < base ∧ L < base
  le : base ≤ wr.heap.size
  below : Below w.heap.size w wr
theorem LaidW.keep {w wr w' : World} {B O A L n base : Nat} {rows : Nat → Value} {adj : Nat → List Nat} (h : LaidW w B O A L n base rows adj wr) (hb : Below w.heap.size w w') (hs : wr.heap.size ≤ w'.heap.size) (hk : ∀ k, k < wr.heap.size → w'.heap[k]? = wr.heap[k]?) : LaidW w B O A L n base rows adj w' := by
  have hl := h.lt
  have hle := h.le
  exact ⟨h.adj.keep hk, by rw [hk B (by omega)]; exact h.blk, by rw [hk A (by omega)]; exact h.ats, by rw [hk L (by omega)]; exact h.lows, h.lt, Nat.le_trans h.le hs, hb⟩
theorem LaidW.step {w wa w6 : World} {B O A L n base : Nat} {rows : Nat → Value} {adj : Nat → List Nat} (h : LaidW w B O A L n base rows adj wa) {x y : Nat} {v' : Value} (hx : x < n) (hg : wa.grownBy w6 (rows x).ownBlock)
    (ho : w6.ownsRow base 3 1 v' ((adj x).length + 1) (natRow (adj x) ++ [.int .i64 ((y : Nat) : Int)])) (hat : v'.ownBlock = (rows x).ownBlock ∨ v'.ownBlock = some wa.heap.size) (hne : B ≠ O ∧ O ≠ A ∧ O ≠ L) (hO : w.heap.size ≤ O) (hwb : w.heap.size ≤ base) :
    LaidW w B O A L n base (updV rows x v') (fun a => if a = x then adj a ++ [y] else adj a) (w6.setCell ⟨O, x, none⟩ v') := by
  have hl := h.lt
  have hle := h.le
  have hrow : ∀ k, (rows x).ownBlock = some k → base ≤ k := fun k e => (h.adj.rlt hx e).1
  have hk : ∀ k, k < base → w6.heap[k]? = wa.heap[k]? := fun k hk => hg.block k (by omega) (fun e => by have := hrow k e.symm; omega)
  have hk2 : ∀ k, k < base → k ≠ O → (w6.setCell ⟨O, x, none⟩ v').heap[k]? = wa.heap[k]? := fun k hk1 hk2 => (heap_setCell_ne w6 O x v' hk2).trans (hk k hk1)
  refine ⟨h.adj.step hx hg ho hat, by rw [hk2 B hl.1 hne.1]; exact h.blk, by rw [hk2 A hl.2.2.1 (Ne.symm hne.2.1)]; exact h.ats, by rw [hk2 L hl.2.2.2 (Ne.symm hne.2.2)]; exact h.lows, h.lt, ?_, ?_⟩
  · have := hg.size; simp only [World.setCell, Array.size_modify]; omega
  · exact (h.below.grown hg h.below.size (fun k e => by have := hrow k e; omega)).setCell hO _

def RingsE (w : World) (n : Int) (l : List EdgeD) (e : Ending) (w' : World) : Prop :=
  ∃ (rv ev : Value) (outs : List (List Nat)), e = .returned (.tuple #[rv, ev]) ∧ ErrN w' ev (rightR n l) ∧ Rows2 w' rv outs ∧ (rightR n l ≠ (0, -1) → outs = []) ∧ (rightR n l = (0, -1) → ∀ m : Nat, n = m → InOrder (EdL l) m outs ∧ AllTold m outs) ∧ outs.length ≤ 40 ∧ Below w.heap.size w w'

theorem rings_bad (v : Value) (l : List EdgeD) (n : Int) (w : World) (hE : Edges w v l) (hr : rightR n l ≠ (0, -1)) :
    Calls Tryz.prog 71 #[.int .i64 n, v] w (RingsE w n l) := by
  have CR := Lib.hid (right_calls v l n w hE)
  have Hr := Lib.hid hr
  clear hr hE
  go_enter Tryz.func71, Tryz.ntmps71
  go_wp2_with fail
  refine CR.out.mono ?_
  rintro e w1 ⟨ev, rfl, hN, hb⟩
  obtain ⟨t, x, rfl⟩ := hN.bad Hr.out
  have HN := Lib.hid hN
  have Hb := Lib.hid hb
  clear hN hb CR
  go_wp2_with fail
  go_ret2
  exact ⟨_, _, [], rfl, HN.out, ⟨fun _ => .nilFunc, Sl.nil _ _ _, fun i hi => absurd hi (Nat.not_lt_zero _)⟩, fun _ => rfl, fun h => absurd h Hr.out, by decide, Hb.out⟩

theorem rings_good (v : Value) (l : List EdgeD) (n : Nat) (w : World) (hE : Edges w v l) (hr : rightR ((n : Nat) : Int) l = (0, -1)) (hlen : l.length ≤ 100000) :
    Calls Tryz.prog 71 #[.int .i64 ((n : Nat) : Int), v] w (RingsE w n l) := by
  have hCR := right_calls v l n w hE
  obtain ⟨n', hn', hn40, hG⟩ := right_fine hr
  obtain rfl : n = n' := by omega
  obtain ⟨m, hm⟩ : ∃ m, l.length = m := ⟨_, rfl⟩
  have hE0' := hE
  obtain ⟨al, cl, rfl, hcl, hml, hcell⟩ := hE
  unfold maxLen at hml
  rw [hm] at hCR hcl hcell hlen hE0' ⊢
  have CR := Lib.hid hCR
  have hE0 := Lib.hid hE0'
  have Hm := Lib.hid hm
  have Hcell := Lib.hid hcell
  have Hr := Lib.hid hr
  have HG := Lib.hid hG
  have m1 := mk_ints n (by omega)
  have m2 := mk_rows n (by omega)
  clear hCR hE0' hr hn' hG hm hcell
  go_enter Tryz.func71, Tryz.ntmps71
  go_wp2_with fail
  refine CR.out.mono ?_
  rintro e w1 ⟨ev, rfl, hN, hb⟩
  obtain rfl := hN.fine Hr.out
  have HN := Lib.hid hN
  have Hb := Lib.hid hb
  clear hN hb CR
  go_wp2_with fail
  go_cut [7] (fun v7 wx => ∃ B O A L, v7 = .pointer (some ⟨B, 0, none⟩) ∧ wx.heap[B]? = some (.cells #[.slice (some ⟨O, 0, none⟩) n n, .slice (some ⟨A, 0, none⟩) n n, .slice (some ⟨L, 0, none⟩) n n, .slice none 0 0, .int .i64 0, .slice none 0 0] 164) ∧ wx.heap[O]? = some (.cells ((List.range n).map fun _ => Value.slice none 0 0).toArray 31) ∧ wx.heap[A]? = some (.cells (natCells (fun _ => 0) n).toArray 3) ∧ wx.heap[L]? = some (.cells (natCells (fun _ => 0) n).toArray 3) ∧ (w1.heap.size ≤ B ∧ w1.heap.size ≤ O ∧ w1.heap.size ≤ A ∧ w1.heap.size ≤ L) ∧ (B ≠ O ∧ B ≠ A ∧ B ≠ L ∧ O ≠ A ∧ O ≠ L ∧ A ≠ L) ∧ Below w1.heap.size w1 wx)
  case first =>
    go_region
    all_goals go_wp2_with fail
    all_goals go_meet
    all_goals first
      | exact ⟨w1.heap.size + 1 + 1 + 1, w1.heap.size, w1.heap.size + 1, w1.heap.size + 1 + 1, rfl, heap_topD (by simp <;> omega), heap_underD (by simp <;> omega) (heap_under (by simp <;> omega) (heap_under (by simp <;> omega) (heap_top (by simp <;> omega)))), heap_underD (by simp <;> omega) (heap_under (by simp <;> omega) (heap_top (by simp <;> omega))), heap_underD (by simp <;> omega) (heap_top (by simp <;> omega)), ⟨by omega, by omega, by omega, by omega⟩, ⟨by omega, by omega, by omega, by omega, by omega, by omega⟩, (((((Below.refl _ _).alloc (Nat.le_refl _) _).alloc (by simp <;> omega) _).alloc (by simp <;> omega) _).alloc (by simp <;> omega) _).drew⟩
      | exact ⟨w1.heap.size + 1 + 1 + 1, w1.heap.size, w1.heap.size + 1 + 1, w1.heap.size + 1, rfl, heap_topD (by simp <;> omega), heap_underD (by simp <;> omega) (heap_under (by simp <;> omega) (heap_under (by simp <;> omega) (heap_top (by simp <;> omega)))), heap_underD (by simp <;> omega) (heap_top (by simp <;> omega)), heap_underD (by simp <;> omega) (heap_under (by simp <;> omega) (heap_top (by simp <;> omega))), ⟨by omega, by omega, by omega, by omega⟩, ⟨by omega, by omega, by omega, by omega, by omega, by omega⟩, (((((Below.refl _ _).alloc (Nat.le_refl _) _).alloc (by simp <;> omega) _).alloc (by simp <;> omega) _).alloc (by simp <;> omega) _).drew⟩
      | exact ⟨w1.heap.size + 1 + 1 + 1, w1.heap.size + 1, w1.heap.size, w1.heap.size + 1 + 1, rfl, heap_topD (by simp <;> omega), heap_underD (by simp <;> omega) (heap_under (by simp <;> omega) (heap_top (by simp <;> omega))), heap_underD (by simp <;> omega) (heap_under (by simp <;> omega) (heap_under (by simp <;> omega) (heap_top (by simp <;> omega)))), heap_underD (by simp <;> omega) (heap_top (by simp <;> omega)), ⟨by omega, by omega, by omega, by omega⟩, ⟨by omega, by omega, by omega, by omega, by omega, by omega⟩, (((((Below.refl _ _).alloc (Nat.le_refl _) _).alloc (by simp <;> omega) _).alloc (by simp <;> omega) _).alloc (by simp <;> omega) _).drew⟩
      | exact ⟨w1.heap.size + 1 + 1 + 1, w1.heap.size + 1, w1.heap.size + 1 + 1, w1.heap.size, rfl, heap_topD (by simp <;> omega), heap_underD (by simp <;> omega) (heap_under (by simp <;> omega) (heap_top (by simp <;> omega))), heap_underD (by simp <;> omega) (heap_top (by simp <;> omega)), heap_underD (by simp <;> omega) (heap_under (by simp <;> omega) (heap_under (by simp <;> omega) (heap_top (by simp <;> omega)))), ⟨by omega, by omega, by omega, by omega⟩, ⟨by omega, by omega, by omega, by omega, by omega, by omega⟩, (((((Below.refl _ _).alloc (Nat.le_refl _) _).alloc (by simp <;> omega) _).alloc (by simp <;> omega) _).alloc (by simp <;> omega) _).drew⟩
      | exact ⟨w1.heap.size + 1 + 1 + 1, w1.heap.size + 1 + 1, w1.heap.size, w1.heap.size + 1, rfl, heap_topD (by simp <;> omega), heap_underD (by simp <;> omega) (heap_top (by simp <;> omega)), heap_underD (by simp <;> omega) (heap_under (by simp <;> omega) (heap_under (by simp <;> omega) (heap_top (by simp <;> omega)))), heap_underD (by simp <;> omega) (heap_under (by simp <;> omega) (heap_top (by simp <;> omega))), ⟨by omega, by omega, by omega, by omega⟩, ⟨by omega, by omega, by omega, by omega, by omega, by omega⟩, (((((Below.refl _ _).alloc (Nat.le_refl _) _).alloc (by simp <;> omega) _).alloc (by simp <;> omega) _).alloc (by simp <;> omega) _).drew⟩
      | exact ⟨w1.heap.size + 1 + 1 + 1, w1.heap.size + 1 + 1, w1.heap.size + 1, w1.heap.size, rfl, heap_topD (by simp <;> omega), heap_underD (by simp <;> omega) (heap_top (by simp <;> omega)), heap_underD (by simp <;> omega) (heap_under (by simp <;> omega) (heap_top (by simp <;> omega))), heap_underD (by simp <;> omega) (heap_under (by simp <;> omega) (heap_under (by simp <;> omega) (heap_top (by simp <;> omega)))), ⟨by omega, by omega, by omega, by omega⟩, ⟨by omega, by omega, by omega, by omega, by omega, by omega⟩, (((((Below.refl _ _).alloc (Nat.le_refl _) _).alloc (by simp <;> omega) _).alloc (by simp <;> omega) _).alloc (by simp <;> omega) _).drew⟩
  case rest =>
    obtain ⟨B, O, A, L, rfl, hbB, hbO, hbA, hbL, hge, hne, hbc⟩ := hcut
    have hLW : LaidW w1 B O A L n wc.heap.size (fun _ => .slice none 0 0) (fun _ => []) wc := ⟨Adj.start wc O n hbO, hbB, hbA, hbL, ⟨lt_of_block hbB, lt_of_block hbO, lt_of_block hbA, lt_of_block hbL⟩, Nat.le_refl _, hbc⟩
    have HLW := Lib.hid hLW
    have Hge := Lib.hid hge
    have Hne := Lib.hid hne
    have Hbc := Lib.hid hbc
    obtain ⟨i0, hi0, hz0, hz1, hz2⟩ := info_parts info_int2
    have Hi0 := Lib.hid (And.intro hi0 (And.intro hz0 (And.intro hz1 hz2)))
    clear hLW hbB hbO hbA hbL hge hne hbc m1 m2 hi0 hz0 hz1 hz2
    go_wp2_with fail
    go_loopg [27] m (fun k v27 wr => ∃ (i : Nat) (rows : Nat → Value), v27 = .int .i64 i ∧ i ≤ m ∧ k = m - i ∧ LaidW w1 B O A L n wc.heap.size rows (adjOf (l.take i)) wr)
    case atStart => exact ⟨0, _, rfl, Nat.zero_le _, rfl, HLW.out⟩
    case round =>
      obtain ⟨i, rows, rfl, hi, hk, hLW⟩ := hrel
      have Hk := Lib.hid hk
      have HLW := Lib.hid hLW
      clear hk hLW
      by_cases hlt : i < m
      · obtain ⟨b, o, rfl, hb, hc⟩ := Hcell.out.resolve_left (by omega)
        obtain ⟨e, he⟩ : ∃ e, l.getD i (0, 0) = e := ⟨_, rfl⟩
        have hmem : e ∈ l := by rw [← he]; exact mem_getD' _ (by rw [Hm.out]; exact hlt)
        have hg := HG.out e hmem
        obtain ⟨x, y⟩ := e
        obtain ⟨x, rfl⟩ : ∃ x' : Nat, x = ((x' : Nat) : Int) := ⟨x.toNat, by simp only at hg; omega⟩
        obtain ⟨y, rfl⟩ : ∃ y' : Nat, y = ((y' : Nat) : Int) := ⟨y.toNat, by simp only at hg; omega⟩
        have hxn : x < n := by simp only at hg; omega
        have c0 : wr.cell? ⟨b, o + i * 2, none⟩ = some (.int .i64 ((x : Nat) : Int)) := ((Hb.out.trans (HLW.out.below.mono Hb.out.size)).cell (p := ⟨b, o + i * 2, none⟩) hb).trans (by have h1 := hc i 0 hlt (by decide); rw [he] at h1; exact h1)
        have c1 : wr.cell? ⟨b, o + i * 2 + 1, none⟩ = some (.int .i64 ((y : Nat) : Int)) := ((Hb.out.trans (HLW.out.below.mono Hb.out.size)).cell (p := ⟨b, o + i * 2 + 1, none⟩) hb).trans (by have h1 := hc i 1 hlt (by decide); rw [he] at h1; exact h1)
        have HT : Hid (adjOf (l.take (i + 1)) = fun a => if a = x then adjOf (l.take i) a ++ [y] else adjOf (l.take i) a) := by
          show _ = _
          rw [take_snoc' (0, 0) (by rw [Hm.out]; exact hlt), he]
          funext a
          exact adjOf_snoc _ _ _ _
        have hla : (adjOf (l.take i) x).length ≤ 100000 := by
          have h1 := adjOf_len (l.take i) x
          have h2 : (l.take i).length ≤ i := by simp; omega
          omega
        clear hc hmem he hg
        go_wp2_with fail
        obtain ⟨E, hE⟩ : ∃ E, wr.heap.size = E := ⟨_, rfl⟩
        obtain ⟨w5, hw5⟩ : ∃ w5 : World, w5 = wr.alloc (.cells #[.int .i64 ((x : Nat) : Int), .int .i64 ((y : Nat) : Int)] 102) := ⟨_, rfl⟩
        have hb5 : Below wr.heap.size wr w5 := by rw [hw5]; exact (Below.refl _ _).alloc (Nat.le_refl _) _
        have hL5 : LaidW w1 B O A L n wc.heap.size rows (adjOf (l.take i)) w5 := HLW.out.keep (HLW.out.below.trans (hb5.mono HLW.out.below.size)) hb5.size (fun k hk => hb5.block k hk)
        have hE5 : w5.heap[E]? = some (.cells #[.int .i64 ((x : Nat) : Int), .int .i64 ((y : Nat) : Int)] 102) := by rw [hw5, ← hE]; exact heap_alloc_new wr _
        rw [← hw5, hE]
        obtain ⟨q, hq⟩ : ∃ q, (adjOf (l.take i) x).length = q := ⟨_, rfl⟩
        have hown := hL5.adj.row x hxn
        obtain ⟨ax, cx, hrx, hqc, hqm⟩ : ∃ a c, rows x = .slice a q c ∧ q ≤ c ∧ c ≤ 9223372036854775807 := by
          have := row_owned hown
          obtain ⟨a, c, e, h1, h2, _⟩ := this
          rw [hq] at e h1
          unfold maxLen at h2
          exact ⟨a, c, e, h1, by omega⟩
        have hSof : ∀ w' : World, w'.heap[B]? = w5.heap[B]? → w'.heap[E]? = w5.heap[E]? → w'.frozen? ⟨O, x, none⟩ = false → w5.heap.size ≤ w'.heap.size → w'.cell? ⟨B, 0, none⟩ = some (.slice (some ⟨O, 0, none⟩) n n) ∧ w'.cell? ⟨E, 0, none⟩ = some (.int .i64 ((x : Nat) : Int)) ∧ w'.cell? ⟨E, 1, none⟩ = some (.int .i64 ((y : Nat) : Int)) ∧ w'.frozen? ⟨O, x, none⟩ = false ∧ O < w'.heap.size := by
          intro w' e1 e3 e2 e4
          refine ⟨?_, ?_, ?_, e2, Nat.lt_of_lt_of_le hL5.adj.lt e4⟩
          · rw [World.cell?_of_block (a := ⟨B, 0, none⟩) e1]
            simp [World.cell?, hL5.blk]
          · rw [World.cell?_of_block (a := ⟨E, 0, none⟩) e3]
            simp [World.cell?, hE5]
          · rw [World.cell?_of_block (a := ⟨E, 1, none⟩) e3]
            simp [World.cell?, hE5]
        have HS0 := Lib.hid (hSof w5 rfl rfl (hL5.adj.free x) (Nat.le_refl _))
        have hEl : E < w5.heap.size := lt_of_block hE5
        have hBl : B < w5.heap.size := lt_of_block hL5.blk
        have hOl : O < w5.heap.size := hL5.adj.lt
        have hk6 : ∀ k, k < w5.heap.size → (w5.alloc (.cells #[.int .i64 ((y : Nat) : Int)] 3)).drew.heap[k]? = w5.heap[k]? := fun k hk => Below.heap_alloc w5 _ k hk
        have HS1 := Lib.hid (hSof (w5.alloc (.cells #[.int .i64 ((y : Nat) : Int)] 3)).drew (hk6 B hBl) (hk6 E hEl) ((World.frozen?_of_block (a := ⟨O, x, none⟩) (hk6 O hOl)).trans (hL5.adj.free x)) (by simp))
        have hL6 : LaidW w1 B O A L n wc.heap.size rows (adjOf (l.take i)) (w5.alloc (.cells #[.int .i64 ((y : Nat) : Int)] 3)).drew := hL5.keep ((hL5.below.alloc hL5.below.size _).drew) (by simp) hk6
        have hrb : ∀ k, (rows x).ownBlock = some k → wc.heap.size ≤ k := fun k e => (hL5.adj.rlt hxn e).1
        have hEn : ∀ k, (rows x).ownBlock = some k → k ≠ E := fun k e => by
          have := (HLW.out.adj.rlt hxn e).2
          omega
        have hown6 := hL6.adj.row x hxn
        have hle5 := hL5.le
        have hlt5 := hL5.lt
        have cOx : w5.cell? ⟨O, x, none⟩ = some (.slice ax q cx) := by rw [← hrx]; exact hL5.adj.cell hxn
        have hEO : E ≠ O := by have h1 := HLW.out.lt; have h2 := HLW.out.le; omega
        rw [hrx] at hrb hEn hown6
        have HS2 : Hid (∀ w', (w5.alloc (.cells #[.int .i64 ((y : Nat) : Int)] 3)).drew.grownBy w' (Value.slice ax q cx).ownBlock → w'.cell? ⟨B, 0, none⟩ = some (.slice (some ⟨O, 0, none⟩) n n) ∧ w'.cell? ⟨E, 0, none⟩ = some (.int .i64 ((x : Nat) : Int)) ∧ w'.cell? ⟨E, 1, none⟩ = some (.int .i64 ((y : Nat) : Int)) ∧ w'.frozen? ⟨O, x, none⟩ = false ∧ O < w'.heap.size) := by
          intro w' hg
          refine hSof w' ((hg.block B (by simp; omega) (fun e => by have := hrb B e.symm; omega)).trans (hk6 B hBl)) ((hg.block E (by simp; omega) (fun e => hEn E e.symm rfl)).trans (hk6 E hEl)) ?_ ?_
          · rw [World.frozen?_of_block (a := ⟨O, x, none⟩) ((hg.block O (by simp; omega) (fun e => by have := hrb O e.symm; omega)).trans (hk6 O hOl))]
            exact hL5.adj.free x
          · have := hg.size
            simp at this
            omega
        have HS3 : Hid (∀ (w' : World) (v : Value), (w'.cell? ⟨B, 0, none⟩ = some (.slice (some ⟨O, 0, none⟩) n n) ∧ w'.cell? ⟨E, 0, none⟩ = some (.int .i64 ((x : Nat) : Int)) ∧ w'.cell? ⟨E, 1, none⟩ = some (.int .i64 ((y : Nat) : Int)) ∧ w'.frozen? ⟨O, x, none⟩ = false ∧ O < w'.heap.size) → ((w'.setCell ⟨O, x, none⟩ v).cell? ⟨B, 0, none⟩ = some (.slice (some ⟨O, 0, none⟩) n n) ∧ (w'.setCell ⟨O, x, none⟩ v).cell? ⟨E, 0, none⟩ = some (.int .i64 ((x : Nat) : Int)) ∧ (w'.setCell ⟨O, x, none⟩ v).cell? ⟨E, 1, none⟩ = some (.int .i64 ((y : Nat) : Int)) ∧ (w'.setCell ⟨O, x, none⟩ v).frozen? ⟨O, x, none⟩ = false ∧ O < (w'.setCell ⟨O, x, none⟩ v).heap.size)) := by
          intro w' v h
          refine ⟨(World.cell?_setCell_far _ _ _ _ (Ne.symm Hne.out.1)).trans h.1, (World.cell?_setCell_far _ _ _ _ (Ne.symm hEO)).trans h.2.1, (World.cell?_setCell_far _ _ _ _ (Ne.symm hEO)).trans h.2.2.1, ?_, by simpa [World.setCell] using h.2.2.2.2⟩
          rw [World.frozen?_setCell]
          exact h.2.2.2.1
        have HC6 : Hid (∀ w', (w5.alloc (.cells #[.int .i64 ((y : Nat) : Int)] 3)).drew.grownBy w' (Value.slice ax q cx).ownBlock → w'.cell? ⟨O, x, none⟩ = some (.slice ax q cx)) := by
          intro w' hg
          rw [World.cell?_of_block (a := ⟨O, x, none⟩) ((hg.block O (by simp; omega) (fun e => by have := hrb O e.symm; omega)).trans (hk6 O hOl))]
          exact cOx
        have HL6 := Lib.hid hL6
        have HO6 := Lib.hid hown6
        have Hrx := Lib.hid hrx
        have Hq := Lib.hid hq
        clear hw5 hb5 hL5 hE5 hq hown hrx hSof hEl hBl hk6 hL6 hrb hEn hown6 c0 c1 hlt5 hE hEO
        refine wp_region_held_drew (S := (fun w' => w'.cell? ⟨B, 0, none⟩ = some (.slice (some ⟨O, 0, none⟩) n n) ∧ w'.cell? ⟨E, 0, none⟩ = some (.int .i64 ((x : Nat) : Int)) ∧ w'.cell? ⟨E, 1, none⟩ = some (.int .i64 ((y : Nat) : Int)) ∧ w'.frozen? ⟨O, x, none⟩ = false ∧ O < w'.heap.size)) (by kernel_rfl) ?_ (fun hHeld => ?_)
        · exact HS0.out
        refine wpAnyH_take (i := 0) (oi := _) (v := .pointer (some ⟨B, 0, none⟩)) rfl (by kernel_rfl) (by kernel_rfl) (by kernel_rfl) (fun _ _ _ h => h) (Or.inl ⟨by kernel_rfl, fun w hSw => ?_⟩) hHeld ?_
        · (try dsimp only at hSw); go_simp
        try simp only [Act.put, List.getElem_toArray, List.getElem_cons_succ, List.getElem_cons_zero, List.setIfInBounds_toArray, List.set_cons_zero, List.set_cons_succ]
        refine wpAnyH_take (i := 1) (oi := _) (v := .pointer (some ⟨B, 0, none⟩)) rfl (by kernel_rfl) (by kernel_rfl) (by kernel_rfl) (fun _ _ _ h => h) (Or.inl ⟨by kernel_rfl, fun w hSw => ?_⟩) hHeld ?_
        · (try dsimp only at hSw); go_simp
        try simp only [Act.put, List.getElem_toArray, List.getElem_cons_succ, List.getElem_cons_zero, List.setIfInBounds_toArray, List.set_cons_zero, List.set_cons_succ]
        refine wpAnyH_take (i := 2) (oi := _) (v := .pointer (some ⟨B, 0, none⟩)) rfl (by kernel_rfl) (by kernel_rfl) (by kernel_rfl) (fun _ _ _ h => h) (Or.inl ⟨by kernel_rfl, fun w hSw => ?_⟩) hHeld ?_
        · (try dsimp only at hSw); go_simp
        try simp only [Act.put, List.getElem_toArray, List.getElem_cons_succ, List.getElem_cons_zero, List.setIfInBounds_toArray, List.set_cons_zero, List.set_cons_succ]
        refine wpAnyH_take (i := 3) (oi := _) (v := .slice (some ⟨O, 0, none⟩) n n) rfl (by kernel_rfl) (by kernel_rfl) (by kernel_rfl) (fun _ _ _ h => h) (Or.inl ⟨by kernel_rfl, fun w hSw => ?_⟩) hHeld ?_
        · (try dsimp only at hSw); go_simp
        try simp only [Act.put, List.getElem_toArray, List.getElem_cons_succ, List.getElem_cons_zero, List.setIfInBounds_toArray, List.set_cons_zero, List.set_cons_succ]
        refine wpAnyH_take (i := 4) (oi := _) (v := .pointer (some ⟨E, 0, none⟩)) rfl (by kernel_rfl) (by kernel_rfl) (by kernel_rfl) (fun _ _ _ h => h) (Or.inl ⟨by kernel_rfl, fun w hSw => ?_⟩) hHeld ?_
        · (try dsimp only at hSw); go_simp
        try simp only [Act.put, List.getElem_toArray, List.getElem_cons_succ, List.getElem_cons_zero, List.setIfInBounds_toArray, List.set_cons_zero, List.set_cons_succ]
        refine wpAnyH_take (i := 5) (oi := _) (v := .int .i64 ((x : Nat) : Int)) rfl (by kernel_rfl) (by kernel_rfl) (by kernel_rfl) (fun _ _ _ h => h) (Or.inl ⟨by kernel_rfl, fun w hSw => ?_⟩) hHeld ?_
        · (try dsimp only at hSw); go_simp
        try simp only [Act.put, List.getElem_toArray, List.getElem_cons_succ, List.getElem_cons_zero, List.setIfInBounds_toArray, List.set_cons_zero, List.set_cons_succ]
        refine wpAnyH_take (i := 6) (oi := _) (v := .pointer (some ⟨B, 0, none⟩)) rfl (by kernel_rfl) (by kernel_rfl) (by kernel_rfl) (fun _ _ _ h => h) (Or.inl ⟨by kernel_rfl, fun w hSw => ?_⟩) hHeld ?_
        · (try dsimp only at hSw); go_simp
        try simp only [Act.put, List.getElem_toArray, List.getElem_cons_succ, List.getElem_cons_zero, List.setIfInBounds_toArray, List.set_cons_zero, List.set_cons_succ]
        refine wpAnyH_take (i := 7) (oi := _) (v := .pointer (some ⟨B, 0, none⟩)) rfl (by kernel_rfl) (by kernel_rfl) (by kernel_rfl) (fun _ _ _ h => h) (Or.inl ⟨by kernel_rfl, fun w hSw => ?_⟩) hHeld ?_
        · (try dsimp only at hSw); go_simp
        try simp only [Act.put, List.getElem_toArray, List.getElem_cons_succ, List.getElem_cons_zero, List.setIfInBounds_toArray, List.set_cons_zero, List.set_cons_succ]
        refine wpAnyH_take (i := 8) (oi := _) (v := .pointer (some ⟨B, 0, none⟩)) rfl (by kernel_rfl) (by kernel_rfl) (by kernel_rfl) (fun _ _ _ h => h) (Or.inl ⟨by kernel_rfl, fun w hSw => ?_⟩) hHeld ?_
        · (try dsimp only at hSw); go_simp
        try simp only [Act.put, List.getElem_toArray, List.getElem_cons_succ, List.getElem_cons_zero, List.setIfInBounds_toArray, List.set_cons_zero, List.set_cons_succ]
        refine wpAnyH_take (i := 9) (oi := _) (v := .slice (some ⟨O, 0, none⟩) n n) rfl (by kernel_rfl) (by kernel_rfl) (by kernel_rfl) (fun _ _ _ h => h) (Or.inl ⟨by kernel_rfl, fun w hSw => ?_⟩) hHeld ?_
        · (try dsimp only at hSw); go_simp
        try simp only [Act.put, List.getElem_toArray, List.getElem_cons_succ, List.getElem_cons_zero, List.setIfInBounds_toArray, List.set_cons_zero, List.set_cons_succ]
        refine wpAnyH_take (i := 10) (oi := _) (v := .pointer (some ⟨E, 0, none⟩)) rfl (by kernel_rfl) (by kernel_rfl) (by kernel_rfl) (fun _ _ _ h => h) (Or.inl ⟨by kernel_rfl, fun w hSw => ?_⟩) hHeld ?_
        · (try dsimp only at hSw); go_simp
        try simp only [Act.put, List.getElem_toArray, List.getElem_cons_succ, List.getElem_cons_zero, List.setIfInBounds_toArray, List.set_cons_zero, List.set_cons_succ]
        refine wpAnyH_take (i := 11) (oi := _) (v := .int .i64 ((x : Nat) : Int)) rfl (by kernel_rfl) (by kernel_rfl) (by kernel_rfl) (fun _ _ _ h => h) (Or.inl ⟨by kernel_rfl, fun w hSw => ?_⟩) hHeld ?_
        · (try dsimp only at hSw); go_simp
        try simp only [Act.put, List.getElem_toArray, List.getElem_cons_succ, List.getElem_cons_zero, List.setIfInBounds_toArray, List.set_cons_zero, List.set_cons_succ]
        refine wpAnyH_take (i := 12) (oi := _) (v := .pointer (some ⟨O, x, none⟩)) rfl (by kernel_rfl) (by kernel_rfl) (by kernel_rfl) (fun _ _ _ h => h) (Or.inl ⟨by kernel_rfl, fun w hSw => ?_⟩) hHeld ?_
        · (try dsimp only at hSw); go_simp
        try simp only [Act.put, List.getElem_toArray, List.getElem_cons_succ, List.getElem_cons_zero, List.setIfInBounds_toArray, List.set_cons_zero, List.set_cons_succ]
        refine wpAnyH_take (i := 14) (oi := _) (v := .pointer (some ⟨E, 1, none⟩)) rfl (by kernel_rfl) (by kernel_rfl) (by kernel_rfl) (fun _ _ _ h => h) (Or.inl ⟨by kernel_rfl, fun w hSw => ?_⟩) hHeld ?_
        · (try dsimp only at hSw); go_simp
        try simp only [Act.put, List.getElem_toArray, List.getElem_cons_succ, List.getElem_cons_zero, List.setIfInBounds_toArray, List.set_cons_zero, List.set_cons_succ]
        refine wpAnyH_take (i := 15) (oi := _) (v := .int .i64 ((y : Nat) : Int)) rfl (by kernel_rfl) (by kernel_rfl) (by kernel_rfl) (fun _ _ _ h => h) (Or.inl ⟨by kernel_rfl, fun w hSw => ?_⟩) hHeld ?_
        · (try dsimp only at hSw); go_simp
        try simp only [Act.put, List.getElem_toArray, List.getElem_cons_succ, List.getElem_cons_zero, List.setIfInBounds_toArray, List.set_cons_zero, List.set_cons_succ]
        refine wpAnyH_ready (rs := [13, 16]) (by kernel_rfl) (by simp) ?_
        refine (AllReadyH.cons (o := _) rfl (fun K hK => ?_) (AllReadyH.cons (o := _) rfl (fun K hK => ?_) AllReadyH.nil))
        · go_simp
          refine hK.out _ _ (hHeld) (fun hHeld2 => ?_)
          clear hK K hHeld
          have hHeld := hHeld2
          clear hHeld2
          try simp only [Act.put, List.getElem_toArray, List.getElem_cons_succ, List.getElem_cons_zero, List.setIfInBounds_toArray, List.set_cons_zero, List.set_cons_succ]
          refine wpAnyH_ready (rs := [16]) (by kernel_rfl) (by simp) ?_
          refine (AllReadyH.cons (o := _) rfl (fun K hK => ?_) AllReadyH.nil)
          go_simp
          refine hK.out _ _ (HS1.out) (fun hHeld2 => ?_)
          clear hK K hHeld
          have hHeld := hHeld2
          clear hHeld2
          try simp only [Act.put, List.getElem_toArray, List.getElem_cons_succ, List.getElem_cons_zero, List.setIfInBounds_toArray, List.set_cons_zero, List.set_cons_succ]
          refine wpAnyH_ready (rs := [17]) (by kernel_rfl) (by simp) ?_
          refine (AllReadyH.cons (o := _) rfl (fun K hK => ?_) AllReadyH.nil)
          refine step_append_lies _ rfl _ _ 31 rfl wc.heap.size 3 i0 _ 1 8 Tryz.underlying31 Hi0.out.1 Hi0.out.2.1 Hi0.out.2.2.1 Hi0.out.2.2.2 rfl (by decide) (.slice ax q cx) _ (natRow (adjOf (l.take i) x)) rfl HO6.out ⟨w5.heap.size, 0, none⟩ 1 1 [.int .i64 ((y : Nat) : Int)] rfl rfl (World.news_of_block (cs := #[.int .i64 ((y : Nat) : Int)]) (t := 3) (fr := (0, 0)) (heap_alloc_new w5 _)) (by simp [Value.oneCell']) (by decide) (by unfold maxLen; omega) (by omega) (by simp; omega) _ rfl ?_
          intro g cap w6 hown hgrow hat hlt6
          have c6 := HC6.out _ hgrow
          have f6 := (HS2.out _ hgrow).2.2.2.1
          have z6 := (HS2.out _ hgrow).2.2.2.2
          refine hK.out _ _ (HS2.out _ hgrow) (fun hHeld2 => ?_)
          clear hK K hHeld
          have hHeld := hHeld2
          clear hHeld2
          try simp only [Act.put, List.getElem_toArray, List.getElem_cons_succ, List.getElem_cons_zero, List.setIfInBounds_toArray, List.set_cons_zero, List.set_cons_succ]
          refine wpAnyH_take (i := 18) (oi := _) (v := .pointer (some ⟨O, x, none⟩)) rfl (by kernel_rfl) (by kernel_rfl) (by kernel_rfl) (fun _ _ _ h => h) (Or.inl ⟨by kernel_rfl, fun w hSw => ?_⟩) hHeld ?_
          · (try dsimp only at hSw); go_simp
          try simp only [Act.put, List.getElem_toArray, List.getElem_cons_succ, List.getElem_cons_zero, List.setIfInBounds_toArray, List.set_cons_zero, List.set_cons_succ]
          refine wpAnyH_ready (rs := [19]) (by kernel_rfl) (by simp) ?_
          refine (AllReadyH.cons (o := _) rfl (fun K hK => ?_) AllReadyH.nil)
          go_simp
          refine hK.out _ _ (HS3.out _ _ (HS2.out _ hgrow)) (fun hHeld2 => ?_)
          clear hK K hHeld
          have hHeld := hHeld2
          clear hHeld2
          try simp only [Act.put, List.getElem_toArray, List.getElem_cons_succ, List.getElem_cons_zero, List.setIfInBounds_toArray, List.set_cons_zero, List.set_cons_succ]
          refine wpAnyH_done (by kernel_rfl) ?_ _
          have hL7 := HL6.out.step (y := y) (v' := .slice (some ⟨g, 0, none⟩) ((adjOf (l.take i) x).length + 1) cap) hxn (by rw [Hrx.out]; exact hgrow) hown (hat.imp (fun e => by rw [Hrx.out, e]; rfl) (fun e => by rw [e]; rfl)) ⟨Hne.out.1, Hne.out.2.2.2.1, Hne.out.2.2.2.2.1⟩ Hge.out.2.1 Hbc.out.size
          rw [← HT.out] at hL7
          have HL7 := Lib.hid hL7
          clear hL7 hown hgrow hat c6 f6 z6 hHeld
          go_wp2_with fail
          go_roundg (m - (i + 1))
          case rel => exact ⟨i + 1, _, by go_num, by omega, rfl, HL7.out⟩
          case measure => have := Hk.out; omega

        · go_simp
          refine hK.out _ _ (HS1.out) (fun hHeld2 => ?_)
          clear hK K hHeld
          have hHeld := hHeld2
          clear hHeld2
          try simp only [Act.put, List.getElem_toArray, List.getElem_cons_succ, List.getElem_cons_zero, List.setIfInBounds_toArray, List.set_cons_zero, List.set_cons_succ]
          refine wpAnyH_ready (rs := [13]) (by kernel_rfl) (by simp) ?_
          refine (AllReadyH.cons (o := _) rfl (fun K hK => ?_) AllReadyH.nil)
          go_simp
          refine hK.out _ _ (HS1.out) (fun hHeld2 => ?_)
          clear hK K hHeld
          have hHeld := hHeld2
          clear hHeld2
          try simp only [Act.put, List.getElem_toArray, List.getElem_cons_succ, List.getElem_cons_zero, List.setIfInBounds_toArray, List.set_cons_zero, List.set_cons_succ]
          refine wpAnyH_ready (rs := [17]) (by kernel_rfl) (by simp) ?_
          refine (AllReadyH.cons (o := _) rfl (fun K hK => ?_) AllReadyH.nil)
          refine step_append_lies _ rfl _ _ 31 rfl wc.heap.size 3 i0 _ 1 8 Tryz.underlying31 Hi0.out.1 Hi0.out.2.1 Hi0.out.2.2.1 Hi0.out.2.2.2 rfl (by decide) (.slice ax q cx) _ (natRow (adjOf (l.take i) x)) rfl HO6.out ⟨w5.heap.size, 0, none⟩ 1 1 [.int .i64 ((y : Nat) : Int)] rfl rfl (World.news_of_block (cs := #[.int .i64 ((y : Nat) : Int)]) (t := 3) (fr := (0, 0)) (heap_alloc_new w5 _)) (by simp [Value.oneCell']) (by decide) (by unfold maxLen; omega) (by omega) (by simp; omega) _ rfl ?_
          intro g cap w6 hown hgrow hat hlt6
          have c6 := HC6.out _ hgrow
          have f6 := (HS2.out _ hgrow).2.2.2.1
          have z6 := (HS2.out _ hgrow).2.2.2.2
          refine hK.out _ _ (HS2.out _ hgrow) (fun hHeld2 => ?_)
          clear hK K hHeld
          have hHeld := hHeld2
          clear hHeld2
          try simp only [Act.put, List.getElem_toArray, List.getElem_cons_succ, List.getElem_cons_zero, List.setIfInBounds_toArray, List.set_cons_zero, List.set_cons_succ]
          refine wpAnyH_take (i := 18) (oi := _) (v := .pointer (some ⟨O, x, none⟩)) rfl (by kernel_rfl) (by kernel_rfl) (by kernel_rfl) (fun _ _ _ h => h) (Or.inl ⟨by kernel_rfl, fun w hSw => ?_⟩) hHeld ?_
          · (try dsimp only at hSw); go_simp
          try simp only [Act.put, List.getElem_toArray, List.getElem_cons_succ, List.getElem_cons_zero, List.setIfInBounds_toArray, List.set_cons_zero, List.set_cons_succ]
          refine wpAnyH_ready (rs := [19]) (by kernel_rfl) (by simp) ?_
          refine (AllReadyH.cons (o := _) rfl (fun K hK => ?_) AllReadyH.nil)
          go_simp
          refine hK.out _ _ (HS3.out _ _ (HS2.out _ hgrow)) (fun hHeld2 => ?_)
          clear hK K hHeld
          have hHeld := hHeld2
          clear hHeld2
          try simp only [Act.put, List.getElem_toArray, List.getElem_cons_succ, List.getElem_cons_zero, List.setIfInBounds_toArray, List.set_cons_zero, List.set_cons_succ]
          refine wpAnyH_done (by kernel_rfl) ?_ _
          have hL7 := HL6.out.step (y := y) (v' := .slice (some ⟨g, 0, none⟩) ((adjOf (l.take i) x).length + 1) cap) hxn (by rw [Hrx.out]; exact hgrow) hown (hat.imp (fun e => by rw [Hrx.out, e]; rfl) (fun e => by rw [e]; rfl)) ⟨Hne.out.1, Hne.out.2.2.2.1, Hne.out.2.2.2.2.1⟩ Hge.out.2.1 Hbc.out.size
          rw [← HT.out] at hL7
          have HL7 := Lib.hid hL7
          clear hL7 hown hgrow hat c6 f6 z6 hHeld
          go_wp2_with fail
          go_roundg (m - (i + 1))
          case rel => exact ⟨i + 1, _, by go_num, by omega, rfl, HL7.out⟩
          case measure => have := Hk.out; omega


      · obtain rfl : m = i := by omega
        have hadj : l.take m = l := List.take_of_length_le (by rw [Hm.out]; exact Nat.le_refl _)
        have hL := HLW.out
        rw [hadj] at hL
        have hW0 : Wk w1.heap.size B A L n (adjOf l) (.slice (some ⟨O, 0, none⟩) n n) rows wr ⟨fun _ => 0, fun _ => 0, [], 0, []⟩ (.slice none 0 0) (.slice none 0 0) [] := by
          have hlt := hL.lt
          have hle := hL.le
          refine ⟨⟨Hge.out.1, Hge.out.2.2.1, Hge.out.2.2.2⟩, ⟨Hne.out.2.1, Hne.out.2.2.1, Hne.out.2.2.2.2.2⟩, hL.blk, hL.ats, hL.lows, hL.adj.out (by unfold maxLen; omega), fun i hi => row_owned (hL.adj.row i hi), World.ownsRow_nil _ _ _ _, World.ownsRow_nil _ _ _ _, rfl, fun i v S h => by simp at h, (fun k e => by cases e), (fun k e => by cases e), ?_, ?_⟩
          · intro v hv k e
            rcases hv with rfl | ⟨i, hi, rfl⟩ | hv
            · have ek : O = k := by simpa [Value.ownBlock] using e
              subst ek
              exact ⟨Ne.symm Hne.out.1, Hne.out.2.2.2.1, Hne.out.2.2.2.2.1, (fun e => by cases e), (fun e => by cases e)⟩
            · have := (hL.adj.rlt hi e).1
              exact ⟨by omega, by omega, by omega, (fun e => by cases e), (fun e => by cases e)⟩
            · cases hv
          · intro v hv k e
            rcases hv with rfl | ⟨i, hi, rfl⟩ | hv
            · have ek : O = k := by simpa [Value.ownBlock] using e
              subst ek
              exact hL.adj.lt
            · exact (hL.adj.rlt hi e).2
            · cases hv
        have hS0 : Scc n (EdgeOf n (adjOf l)) [] ⟨fun _ => 0, fun _ => 0, [], 0, []⟩ := by
          refine ⟨fun _ => Nat.le_refl _, fun _ h => absurd rfl h, fun _ _ _ h => absurd rfl h, List.Pairwise.nil, (fun _ h => by cases h), (fun _ h => by cases h), fun _ h => absurd rfl h, fun _ h => absurd rfl h, (fun _ h => by cases h), (fun _ h => by cases h), (fun _ h => by cases h), fun v => ⟨fun h => absurd rfl h.1, (fun ⟨_, h, _⟩ => by cases h)⟩, List.Pairwise.nil⟩
        have hN0 : Num n ⟨fun _ => 0, fun _ => 0, [], 0, []⟩ := ⟨by
          show unvis n _ + 0 ≤ n
          unfold unvis
          have := List.length_filter_le (fun u : Nat => ((fun _ => 0 : Nat → Nat) u) == 0) (List.range n)
          rw [List.length_range] at this
          exact this, Nat.le_refl _⟩
        have HW0 := Lib.hid hW0
        have HS0 := Lib.hid hS0
        have HN0 := Lib.hid hN0
        have HBl := Lib.hid hL.below
        clear hadj hL hW0 hS0 hN0 HLW
        go_wp2_with fail
        go_loopg [52] n (fun k v52 wv => ∃ (i : Nat) (s : St) (ov qv : Value) (qs : List Value), v52 = .int .i64 i ∧ i ≤ n ∧ k = n - i ∧ Wk w1.heap.size B A L n (adjOf l) (.slice (some ⟨O, 0, none⟩) n n) rows wv s ov qv qs ∧ Scc n (EdgeOf n (adjOf l)) [] s ∧ Num n s ∧ (∀ v, v < i → s.at_ v ≠ 0) ∧ Below w1.heap.size w1 wv)
        case atStart => exact ⟨0, _, _, _, _, rfl, Nat.zero_le _, rfl, HW0.out, HS0.out, HN0.out, fun v hv => absurd hv (Nat.not_lt_zero _), HBl.out⟩
        case round =>
          obtain ⟨i, s, ov, qv, qs, rfl, hi, hk, hW, hS, hN, hseen, hB⟩ := hrel
          have Hk := Lib.hid hk
          have HW := Lib.hid hW
          have HS := Lib.hid hS
          have HNm := Lib.hid hN
          have Hseen := Lib.hid hseen
          have HB := Lib.hid hB
          clear hk hW hS hN hseen hB
          by_cases hlt : i < n
          · have hcl := HW.out.cell
            have d1 : wr.cell? ⟨B, 1, none⟩ = some (.slice (some ⟨A, 0, none⟩) n n) := hcl.2.1
            have ca : wr.cell? ⟨A, i, none⟩ = some (.int .i64 ((s.at_ i : Nat) : Int)) := HW.out.at_ hlt
            clear hcl
            by_cases hz : s.at_ i = 0
            · have hadjn : ∀ a, a < n → ∀ u ∈ adjOf l a, u < n := fun a _ u hu => (HG.out.lt ((adjOf_mem HG.out).1 hu)).2
              have CV := Lib.hid (visit_calls w1.heap.size B A L n (adjOf l) (.slice (some ⟨O, 0, none⟩) n n) rows hn40 hadjn _ [] s i ov qv qs wr (Nat.le_refl _) HW.out HS.out HNm.out hlt hz (fun g hg => by cases hg))
              rw [hz] at ca
              clear hz hadjn
              go_wp2_with fail
              refine CV.out.mono ?_
              rintro e w4 ⟨t, ov2, qv2, qs2, sg, rfl, hW2, hV, hN2, hb4⟩
              have HW2 := Lib.hid hW2
              have HS2 := Lib.hid hV.inv
              have HN2 := Lib.hid hN2
              have Hs2 : Hid (∀ v, v < i + 1 → t.at_ v ≠ 0) := by
                intro v hv
                rcases Nat.lt_or_ge v i with h' | h'
                · rw [hV.at_ v (Hseen.out v h')]; exact Hseen.out v h'
                · rw [show v = i by omega]; exact hV.seen
              have HB4 := Lib.hid (HB.out.trans hb4)
              clear hW2 hV hN2 hb4 d1 ca
              go_wp2_with fail
              go_roundg (n - (i + 1))
              case rel => exact ⟨i + 1, _, _, _, _, by go_num, by omega, rfl, HW2.out, HS2.out, HN2.out, Hs2.out, HB4.out⟩
              case measure => have := Hk.out; omega
            · have hz' : (((s.at_ i : Nat) : Int) == 0) = false := by rw [beq_eq_false_iff_ne]; omega
              have Hs2 : Hid (∀ v, v < i + 1 → s.at_ v ≠ 0) := by
                intro v hv
                rcases Nat.lt_or_ge v i with h' | h'
                · exact Hseen.out v h'
                · rw [show v = i by omega]; exact hz
              clear hz
              go_wp2_with fail
              go_roundg (n - (i + 1))
              case rel => exact ⟨i + 1, _, _, _, _, by go_num, by omega, rfl, HW.out, HS.out, HNm.out, Hs2.out, HB.out⟩
              case measure => have := Hk.out; omega
          · obtain rfl : n = i := by omega
            have d5 : wr.cell? ⟨B, 5, none⟩ = some qv := HW.out.cell.2.2.2.2.2
            obtain ⟨aq, mq, cq, hqv⟩ : ∃ a m c, qv = .slice a m c := by
              rcases HW.out.sets.2 with ⟨e, _⟩ | ⟨g, cap, cur, e, _⟩
              · exact ⟨_, _, _, e⟩
              · exact ⟨_, _, _, e⟩
            have hok : SetsOk (EdL l) n s.sets := setsOk_of_scc (by rw [← edgeOf_eq HG.out]; exact HS.out) (fun a b h => HG.out.lt h) Hseen.out
            have hE1 := hE0.out.below (Hb.out.trans (HB.out.mono Hb.out.size)) (Nat.le_refl _)
            have CS := settle_calls _ qv l n s.sets wr hE1 HW.out.rows2 hok HG.out hn40 (by have := HNm.out.a; have := HNm.out.b; omega)
            rw [hqv] at d5 CS
            have HCS := Lib.hid CS
            clear CS hqv hok hE1
            go_wp2_with fail
            refine HCS.out.mono ?_
            rintro e w5 ⟨outv, outs, rfl, hR, hO1, hO2, hl40, hb5⟩
            have HR := Lib.hid hR
            have HO := Lib.hid (And.intro hO1 (And.intro hO2 hl40))
            have HB5 : Hid (Below w.heap.size w w5) := Hb.out.trans ((HB.out.trans (hb5.mono HB.out.size)).mono Hb.out.size)
            clear hR hO1 hO2 hl40 hb5 HCS d5
            go_wp2_with fail
            go_ret2
            refine ⟨outv, .nilIface, outs, rfl, ?_, HR.out, fun h => absurd Hr.out h, ?_, HO.out.2.2, HB5.out⟩
            · rw [Hr.out]; exact .nil
            · intro _ m' hm'
              obtain rfl : n = m' := by omega
              exact ⟨HO.out.1, HO.out.2.1⟩
end Go.Proofs.YtnfnebfioibndaaGreatDoor
