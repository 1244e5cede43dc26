/- order.Line's two tests; slices.IndexFunc at int: which is the first. · order.settle's test: does an edge hold a ring up? -/
import Derived.Test.YtnfnebfioibndaaGreatDoorM22
import Derived.Deep.QuietTactic
import Derived.BigQuiet
namespace Go.Proofs.YtnfnebfioibndaaGreatDoor
open Go.RowKit
set_option maxRecDepth 100000
set_option maxHeartbeats 4000000

def castI (xs : List Nat) : List Int := xs.map fun x => ((x : Nat) : Int)
theorem castI_getD (xs : List Nat) {i : Nat} (h : i < xs.length) : (castI xs).getD i 0 = ((xs.getD i 0 : Nat) : Int) := by simp [castI, List.getD, List.getElem?_eq_getElem h]
theorem castI_len (xs : List Nat) : (castI xs).length = xs.length := by simp [castI]
theorem contains_row (v : Value) (xs : List Nat) (x : Int) (w : World) (h : Row w v xs) (hl : xs.length ≤ 100000) :
    Calls Tryz.prog 41 #[v, .int .i64 x] w fun e w' => e = .returned (.bool ((castI xs).contains x)) ∧ w' = w := by
  obtain ⟨a, c, rfl, h1, h2, h3⟩ := h
  rcases Nat.eq_zero_or_pos xs.length with hz | hp
  · have hx : xs = [] := List.length_eq_zero_iff.1 hz
    subst hx
    exact Tryz.slices_Contains_int_empty a c x w
  · obtain ⟨b, o, rfl, hb, hc⟩ := h3.resolve_left (by omega)
    have := Tryz.slices_Contains_int b o xs.length c (castI xs) x w (by rw [castI_len]; exact Nat.le_refl _) (by omega) (fun j hj => by
      rw [castI_len] at hj
      have := hc j 0 hj (by decide)
      rw [Nat.mul_one, Nat.add_zero] at this
      rw [this, castI_getD xs hj])
    rwa [List.take_of_length_le (by rw [castI_len]; exact Nat.le_refl _)] at this

theorem coming_calls (x y : Int) (v : Nat) (left : List Nat) (lv : Value) (Bv Bl : Nat) (w : World) (hv : w.cell? ⟨Bv, 0, none⟩ = some (.int .i64 ((v : Nat) : Int))) (hl : w.cell? ⟨Bl, 0, none⟩ = some lv) (hR : Row w lv left) (hlen : left.length ≤ 100000) :
    Calls Tryz.prog 77 #[.agg #[.int .i64 x, .int .i64 y], .pointer (some ⟨Bv, 0, none⟩), .pointer (some ⟨Bl, 0, none⟩)] w fun e w' => e = .returned (.bool (y == ((v : Nat) : Int) && (!(x == ((v : Nat) : Int)) && (castI left).contains x))) ∧ Below w.heap.size w w' := by
  have lBv := World.block_lt_of_cell? w _ hv
  have lBl := World.block_lt_of_cell? w _ hl
  have hB0 : Below w.heap.size w (w.alloc (.cells #[.int .i64 x, .int .i64 y] 102)) := (Below.refl _ _).alloc (Nat.le_refl _) _
  obtain ⟨la, lm, lc, rfl⟩ : ∃ a m c, lv = .slice a m c := by
    obtain ⟨a, c, e, _⟩ := hR
    exact ⟨_, _, _, e⟩
  have CC := Lib.hid (contains_row _ left x (w.alloc (.cells #[.int .i64 x, .int .i64 y] 102)) (hR.below hB0 (Nat.le_refl _)) hlen)
  have CD : Hid (∀ n, Calls Tryz.prog 41 #[.slice la lm lc, .int .i64 x] ((w.alloc (.cells #[.int .i64 x, .int .i64 y] 102)).drewN n) fun e w' => e = .returned (.bool ((castI left).contains x)) ∧ w' = (w.alloc (.cells #[.int .i64 x, .int .i64 y] 102)).drewN n) := fun n => contains_row _ left x _ ((hR.below hB0 (Nat.le_refl _)).below (drewN_below (Below.refl _ _) n) (Nat.le_refl _)) hlen
  obtain ⟨z, hz⟩ : ∃ z, (castI left).contains x = z := ⟨_, rfl⟩
  rw [hz] at CC ⊢
  have HB0 := Lib.hid hB0
  rw [hz] at CD
  clear hz hR hB0
  by_cases a : y = ((v : Nat) : Int)
  · have a1 : (y == ((v : Nat) : Int)) = true := by simpa using a
    have Ha := Lib.hid a
    by_cases b : x = ((v : Nat) : Int)
    · have b1 : (x == ((v : Nat) : Int)) = true := by simpa using b
      have b2 : (x != ((v : Nat) : Int)) = false := by rw [bne, b1]; rfl
      clear a b
      have hr : (y == ((v : Nat) : Int) && (!(x == ((v : Nat) : Int)) && z)) = false := by rw [a1, b1]; rfl
      rw [hr]
      clear hr
      go_enter Tryz.func77, Tryz.ntmps77
      go_wp2_with fail
      go_ret
      exact ⟨rfl, HB0.out⟩
    · have b1 : (x == ((v : Nat) : Int)) = false := by simpa using b
      have b2 : (x != ((v : Nat) : Int)) = true := by rw [bne, b1]; rfl
      clear a b
      go_enter Tryz.func77, Tryz.ntmps77
      go_wp2_with fail
      refine CC.out.mono ?_
      rintro e w' ⟨rfl, rfl⟩
      go_wp2_with fail
      go_ret
      exact ⟨by rw [a1, b1]; rfl, HB0.out⟩
  · have a1 : (y == ((v : Nat) : Int)) = false := by simpa using a
    clear a
    have hr : (y == ((v : Nat) : Int) && (!(x == ((v : Nat) : Int)) && z)) = false := by rw [a1]; rfl
    rw [hr]
    clear hr
    go_enter Tryz.func77, Tryz.ntmps77
    go_wp2_with fail
    go_ret
    exact ⟨rfl, HB0.out⟩

theorem enters_coming : ∀ args w, (callFunc 77 args).run Tryz.prog w = .ok (.enter 77 args) w := enters_of Tryz.func77 (by kernel_rfl) rfl
theorem enters_goes : ∀ args w, (callFunc 75 args).run Tryz.prog w = .ok (.enter 75 args) w := enters_of Tryz.func75 (by kernel_rfl) rfl

theorem goes_calls (v : Nat) (strong : List EdgeD) (left : List Nat) (sv lv : Value) (Bs Bl : Nat) (w : World) (hs : w.cell? ⟨Bs, 0, none⟩ = some sv) (hS : Edges w sv strong) (hl : w.cell? ⟨Bl, 0, none⟩ = some lv) (hR : Row w lv left) (hlen : left.length ≤ 100000) :
    Calls Tryz.prog 75 #[.int .i64 ((v : Nat) : Int), .pointer (some ⟨Bs, 0, none⟩), .pointer (some ⟨Bl, 0, none⟩)] w fun e w' => e = .returned (.bool (!badV strong left v)) ∧ Below w.heap.size w w' := by
  have lBs := World.block_lt_of_cell? w _ hs
  have lBl := World.block_lt_of_cell? w _ hl
  have hB0 : Below w.heap.size w (w.alloc (.cells #[.int .i64 ((v : Nat) : Int)] 3)) := (Below.refl _ _).alloc (Nat.le_refl _) _
  have CC : Hid (Calls Tryz.prog 76 #[sv, .func (.func 77) #[] #[.pointer (some ⟨w.heap.size, 0, none⟩), .pointer (some ⟨Bl, 0, none⟩)]] (w.alloc (.cells #[.int .i64 ((v : Nat) : Int)] 3)) fun e w' => e = .returned (.bool (badV strong left v)) ∧ Below (w.alloc (.cells #[.int .i64 ((v : Nat) : Int)] 3)).heap.size (w.alloc (.cells #[.int .i64 ((v : Nat) : Int)] 3)) w') := by
    refine containsEdge_calls sv strong _ _ (fun e => e.2 == ((v : Nat) : Int) && (!(e.1 == ((v : Nat) : Int)) && (castI left).contains e.1)) _ (hS.below hB0 (Nat.le_refl _)) enters_coming ?_
    intro t _ w' hb
    have hb' := hB0.trans (hb.mono (by simp))
    exact coming_calls t.1 t.2 v left lv w.heap.size Bl w' ((hb.cell (p := ⟨w.heap.size, 0, none⟩) (by simp)).trans (by simp [go_sem])) ((hb'.cell (p := ⟨Bl, 0, none⟩) lBl).trans hl) (hR.below hb' (Nat.le_refl _)) hlen
  obtain ⟨sa, sm, sc, rfl⟩ : ∃ a m c, sv = .slice a m c := by
    obtain ⟨a, c, e, _⟩ := hS
    exact ⟨_, _, _, e⟩
  have HB0 := Lib.hid hB0
  clear hS hR hB0
  go_enter Tryz.func75, Tryz.ntmps75
  go_wp2_with fail
  refine CC.out.mono ?_
  rintro e w' ⟨rfl, hb⟩
  have HB := Lib.hid (HB0.out.trans (hb.mono (by simp)))
  clear hb
  go_wp2_with fail
  go_ret
  exact ⟨rfl, HB.out⟩

/-! ### slices.IndexFunc at int -/
def idxI : Option Nat → Int
  | some k => ((k : Nat) : Int)
  | none => -1
theorem findIdx_hit {p : Nat → Bool} {l : List Nat} {i : Nat} (hi : i < l.length) (h : (l.take i).any p = false) (hp : p (l.getD i 0) = true) : l.findIdx? p = some i := by
  rw [List.findIdx?_eq_some_iff_getElem]
  have e : l.getD i 0 = l[i] := by simp [List.getD, List.getElem?_eq_getElem hi]
  refine ⟨hi, by rw [← e]; exact hp, fun j hj => ?_⟩
  rw [List.any_eq_false] at h
  have hm : l[j] ∈ l.take i := by
    rw [List.mem_take_iff_getElem]
    exact ⟨j, by omega, rfl⟩
  simpa using h _ hm
theorem findIdx_no {p : Nat → Bool} {l : List Nat} (h : l.any p = false) : l.findIdx? p = none := by
  rw [List.findIdx?_eq_none_iff]
  intro x hx
  rw [List.any_eq_false] at h
  simpa using h x hx
def FoundI (ts : List Nat) (p : Nat → Bool) (w : World) (e : Ending) (w' : World) : Prop := e = .returned (.int .i64 (idxI (ts.findIdx? p))) ∧ Below w.heap.size w w'
theorem indexInt_calls (v : Value) (ts : List Nat) (g : FuncId) (caps : Array Value) (p : Nat → Bool) (w : World) (hT : Row w v ts)
    (eg : ∀ args w, (callFunc g args).run Tryz.prog w = .ok (.enter g args) w)
    (hf : ∀ t ∈ ts, ∀ w', Below w.heap.size w w' → Calls Tryz.prog g (#[.int .i64 ((t : Nat) : Int)] ++ caps) w' fun e w'' => e = .returned (.bool (p t)) ∧ Below w'.heap.size w' w'') :
    Calls Tryz.prog 74 #[v, .func (.func g) #[] caps] w (FoundI ts p w) := by
  obtain ⟨a, cap, rfl, hcap, hmax, hcell⟩ := hT
  unfold maxLen at hmax
  obtain ⟨n, hn⟩ : ∃ n, ts.length = n := ⟨_, rfl⟩
  have Hcell := Lib.hid hcell
  have Hf := Lib.hid hf
  clear hcell hf
  rw [hn] at hcap Hcell ⊢
  have Hn := Lib.hid hn
  clear hn
  go_enter Tryz.func74, Tryz.ntmps74
  go_wp2_with fail
  go_loopg [8] n (fun k v8 wr => ∃ i : Nat, v8 = .int .i64 i ∧ i ≤ n ∧ k = n - i ∧ (ts.take i).any p = false ∧ Below w.heap.size w wr)
  case atStart => exact ⟨0, rfl, Nat.zero_le _, rfl, rfl, Below.refl _ _⟩
  case round =>
    obtain ⟨i, rfl, hi, hk, hall, hB⟩ := hrel
    have Hk := Lib.hid hk
    have Hall := Lib.hid hall
    clear hk hall
    by_cases hlt : i < n
    · obtain ⟨b, o, rfl, hb, hc⟩ := Hcell.out.resolve_left (by omega)
      obtain ⟨t, ht⟩ : ∃ t, ts.getD i 0 = t := ⟨_, rfl⟩
      have HM : Hid (t ∈ ts) := by
        show t ∈ ts
        rw [← ht]
        exact mem_getD' _ (by rw [Hn.out]; exact hlt)
      have c0 : wr.cell? ⟨b, o + i, none⟩ = some (.int .i64 ((t : Nat) : Int)) := (hB.cell (p := ⟨b, o + i, none⟩) hb).trans (by have := hc i 0 hlt (by decide); rw [ht] at this; simpa using this)
      have HT := Lib.hid ht
      clear hc ht hb
      go_wp2_with fail
      refine (Hf.out t HM.out _ hB).mono ?_
      rintro e w1 ⟨rfl, hb1⟩
      have hB1 := hB.trans (hb1.mono hB.size)
      clear hB hb1
      cases hp : p t
      · have HS : Hid ((ts.take (i + 1)).any p = false) := by
          show _ = _
          exact any_stepE 0 (by rw [Hn.out]; exact hlt) Hall.out (by rw [HT.out]; exact hp)
        clear hp
        go_wp2_with fail
        go_roundg (n - (i + 1))
        case rel => exact ⟨i + 1, by go_num, by omega, rfl, HS.out, hB1⟩
        case measure => have := Hk.out; omega
      · have HF : Hid (ts.findIdx? p = some i) := findIdx_hit (by rw [Hn.out]; exact hlt) Hall.out (by rw [HT.out]; exact hp)
        clear hp
        go_wp2_with fail
        go_ret
        exact ⟨by rw [HF.out]; rfl, hB1⟩
    · have HF : Hid (ts.findIdx? p = none) := findIdx_no (by
        have := Hall.out
        rwa [List.take_of_length_le (by rw [Hn.out]; omega)] at this)
      go_wp2_with fail
      go_ret
      exact ⟨by rw [HF.out]; rfl, hB⟩
end Go.Proofs.YtnfnebfioibndaaGreatDoor
namespace Go.Proofs.YtnfnebfioibndaaGreatDoor
open Go.RowKit
set_option maxRecDepth 100000
set_option maxHeartbeats 4000000

theorem wait_calls (x y i : Nat) (of_ : Nat → Nat) (done : Nat → Bool) (n s Bo O Bi Bd D : Nat) (w : World) (h1 : w.cell? ⟨Bo, 0, none⟩ = some (.slice (some ⟨O, 0, none⟩) n n)) (h2 : w.cell? ⟨Bi, 0, none⟩ = some (.int .i64 ((i : Nat) : Int))) (h3 : w.cell? ⟨Bd, 0, none⟩ = some (.slice (some ⟨D, 0, none⟩) s s))
    (hO : Nums w O n of_) (hD : Marks w D s done) (hx : x < n) (hy : y < n) (ho : of_ x < s) (hn : n ≤ 1000) (hs : s ≤ 1000) :
    Calls Tryz.prog 113 #[.agg #[.int .i64 ((x : Nat) : Int), .int .i64 ((y : Nat) : Int)], .pointer (some ⟨Bo, 0, none⟩), .pointer (some ⟨Bi, 0, none⟩), .pointer (some ⟨Bd, 0, none⟩)] w fun e w' => e = .returned (.bool (waitE of_ done i (((x : Nat) : Int), ((y : Nat) : Int)))) ∧ Below w.heap.size w w' := by
  have cx := hO.cell hx
  have cy := hO.cell hy
  have cd := hD.cell ho
  have lO := hO.lt
  have lD := hD.lt
  have lBo := World.block_lt_of_cell? w _ h1
  have lBi := World.block_lt_of_cell? w _ h2
  have lBd := World.block_lt_of_cell? w _ h3
  have hJ : Hid (waitE of_ done i (((x : Nat) : Int), ((y : Nat) : Int)) = (of_ y == i && (!(of_ x == i) && !done (of_ x)))) := by show _ = _; simp [waitE]
  obtain ⟨fx, hfx⟩ : ∃ fx, of_ x = fx := ⟨_, rfl⟩
  obtain ⟨fy, hfy⟩ : ∃ fy, of_ y = fy := ⟨_, rfl⟩
  rw [hfx] at cx cd ho hJ
  rw [hfy] at cy hJ
  obtain ⟨dx, hdx⟩ : ∃ dx, done fx = dx := ⟨_, rfl⟩
  rw [hdx] at cd hJ
  clear hfx hfy hdx hO hD
  by_cases a : fy = i
  · have a1 : (fy == i) = true := by rw [a]; simp
    have a2 : (((fy : Nat) : Int) == ((i : Nat) : Int)) = true := by rw [a]; simp
    have a3 : decide (((fy : Nat) : Int) = ((i : Nat) : Int)) = true := by rw [a]; simp
    rw [a1] at hJ
    clear a
    by_cases b : fx = i
    · have b1 : (fx == i) = true := by rw [b]; simp
      have b2 : (((fx : Nat) : Int) == ((i : Nat) : Int)) = true := by rw [b]; simp
      have b3 : (((fx : Nat) : Int) != ((i : Nat) : Int)) = false := by rw [b]; simp
      have b4 : (fx != i) = false := by rw [b]; simp
      rw [b1] at hJ
      clear b
      go_enter Tryz.func113, Tryz.ntmps113
      go_wp2_with fail
      go_quiet (fail)
      go_wp2_with fail
      go_returns
      exact ⟨by rw [hJ.out]; rfl, drewN_below ((Below.refl _ _).alloc (Nat.le_refl _) _) _⟩
    · have b1 : (fx == i) = false := by simpa using b
      have b2 : (((fx : Nat) : Int) == ((i : Nat) : Int)) = false := by rw [beq_eq_false_iff_ne]; omega
      have b3 : (((fx : Nat) : Int) != ((i : Nat) : Int)) = true := by rw [bne, b2]; rfl
      have b4 : (fx != i) = true := by rw [bne, b1]; rfl
      rw [b1] at hJ
      clear b
      go_enter Tryz.func113, Tryz.ntmps113
      go_wp2_with fail
      go_quiet (fail)
      go_wp2_with fail
      go_returns
      exact ⟨by rw [hJ.out]; rfl, drewN_below ((Below.refl _ _).alloc (Nat.le_refl _) _) _⟩
  · have a1 : (fy == i) = false := by simpa using a
    have a2 : (((fy : Nat) : Int) == ((i : Nat) : Int)) = false := by rw [beq_eq_false_iff_ne]; omega
    rw [a1] at hJ
    clear a
    go_enter Tryz.func113, Tryz.ntmps113
    go_wp2_with fail
    go_quiet (fail)
    go_wp2_with fail
    go_returns
    exact ⟨by rw [hJ.out]; rfl, drewN_below ((Below.refl _ _).alloc (Nat.le_refl _) _) _⟩
end Go.Proofs.YtnfnebfioibndaaGreatDoor
