/- flat, terms, texts, says: whether data are short enough to be held. · slices.IndexFunc and ContainsFunc, at whatever predicate. -/
import Derived.Test.YtnfnebfioibndaaGreatDoorM05
import Derived.Test.YtnfnebfioibndaaGreatDoorM01
namespace Go.Proofs.YtnfnebfioibndaaGreatDoor
open Go.RowKit
set_option maxRecDepth 100000

def shortB (u r : ByteArray) : Bool := decide (u.size ≤ 100) && decide (r.size ≤ 100)
def termB (t : TermD) : Bool := decide (t.name.size ≤ 60) && shortB t.up t.rv
def flatB (ts : List TermD) : Bool := decide (ts.length ≤ 40) && ts.all termB
def termsB (ls : List (List TermD)) : Bool := decide (ls.length ≤ 40) && ls.all flatB
def textsB (ss : List ByteArray) : Bool := decide (ss.length ≤ 40) && ss.all (fun s => decide (s.size ≤ 100))
def fileB (f : ByteArray × ByteArray) : Bool := decide (f.1.size ≤ 100) && decide (f.2.size ≤ 500)
def saysB (p : PackD) : Bool := decide (p.name.size ≤ 60) && (shortB p.up p.rv && (termsB p.depends && (termsB p.ahead && (flatB p.against && (flatB p.breaks && (flatB p.replaces && (flatB p.provides && (textsB p.settings && (textsB p.listens && (decide (p.files.length ≤ 30) && p.files.all fileB))))))))))

theorem all_step {α : Type} {p : α → Bool} {l : List α} {i : Nat} (d : α) (hi : i < l.length) (h : (l.take i).all p = true) (hp : p (l.getD i d) = true) : (l.take (i + 1)).all p = true := by
  rw [List.take_add_one, List.all_append, h, List.getElem?_eq_getElem hi]
  have : l.getD i d = l[i] := by simp [List.getD, List.getElem?_eq_getElem hi]
  rw [this] at hp
  simp [hp]
theorem all_no {α : Type} {p : α → Bool} {l : List α} {i : Nat} (d : α) (hi : i < l.length) (hp : p (l.getD i d) = false) : l.all p = false := by
  rw [List.all_eq_false]
  have : l.getD i d = l[i] := by simp [List.getD, List.getElem?_eq_getElem hi]
  rw [this] at hp
  exact ⟨l[i], List.getElem_mem hi, by simp [hp]⟩
theorem all_end {α : Type} {p : α → Bool} {l : List α} {i : Nat} (hi : l.length ≤ i) (h : (l.take i).all p = true) : l.all p = true := by
  rwa [List.take_of_length_le hi] at h
theorem mem_at {ts : List TermD} {i : Nat} (hi : i < ts.length) : TermD.at ts i ∈ ts := by
  unfold TermD.at
  rw [List.getD, List.getElem?_eq_getElem hi]
  exact List.getElem_mem hi
theorem mem_getD {α : Type} {l : List α} {i : Nat} (d : α) (hi : i < l.length) : l.getD i d ∈ l := by
  rw [List.getD, List.getElem?_eq_getElem hi]
  exact List.getElem_mem hi

set_option maxHeartbeats 2000000 in
theorem flat_calls (v : Value) (ts : List TermD) (w : World) (h : Terms w v ts) :
    Calls Tryz.prog 20 #[v] w fun e w' => e = .returned (.bool (flatB ts)) ∧ Below w.heap.size w w' := by
  obtain ⟨⟨a, cap, rfl, hcap, hmax, hcell⟩, hlen⟩ := h
  unfold maxLen at hmax hlen
  obtain ⟨n, hn⟩ : ∃ n, ts.length = n := ⟨_, rfl⟩
  have Hcell := Lib.hid hcell
  have Hlen := Lib.hid hlen
  clear hcell hlen
  rw [hn] at hcap Hcell ⊢
  have Hn := Lib.hid hn
  clear hn
  by_cases hl : n ≤ 40
  · have e40 : decide (40 < (n : Int)) = false := decide_eq_false (by omega)
    go_enter Tryz.func20, Tryz.ntmps20
    go_wp2_with fail
    go_loopg [3] n (fun k v3 wr => ∃ i : Nat, v3 = .int .i64 i ∧ i ≤ n ∧ k = n - i ∧ (ts.take i).all termB = true ∧ Below w.heap.size w wr)
    case atStart => exact ⟨0, rfl, Nat.zero_le _, rfl, rfl, Below.refl _ _⟩
    case round =>
      obtain ⟨i, rfl, hi, hk, hall, hB⟩ := hrel
      have Hk := Lib.hid hk
      have Hall := Lib.hid hall
      clear hk hall
      by_cases hlt : i < n
      · obtain ⟨b, o, rfl, hb, hc⟩ := Hcell.out.resolve_left (by omega)
        obtain ⟨t, ht⟩ : ∃ t, TermD.at ts i = t := ⟨_, rfl⟩
        have hmem := mem_at (ts := ts) (i := i) (by rw [Hn.out]; exact hlt)
        rw [ht] at hmem
        have hz := Hlen.out t hmem
        have c0 : wr.cell? ⟨b, o + i * 5, none⟩ = some (.string t.name) := (hB.cell (p := ⟨b, o + i * 5, none⟩) hb).trans (by have := hc i 0 hlt (by decide); rw [ht] at this; exact this)
        have c2 : wr.cell? ⟨b, o + i * 5 + 2, none⟩ = some (.int .i64 t.ep) := (hB.cell (p := ⟨b, o + i * 5 + 2, none⟩) hb).trans (by have := hc i 2 hlt (by decide); rw [ht] at this; exact this)
        have c3 : wr.cell? ⟨b, o + i * 5 + 3, none⟩ = some (.string t.up) := (hB.cell (p := ⟨b, o + i * 5 + 3, none⟩) hb).trans (by have := hc i 3 hlt (by decide); rw [ht] at this; exact this)
        have c4 : wr.cell? ⟨b, o + i * 5 + 4, none⟩ = some (.string t.rv) := (hB.cell (p := ⟨b, o + i * 5 + 4, none⟩) hb).trans (by have := hc i 4 hlt (by decide); rw [ht] at this; exact this)
        have HT := Lib.hid ht
        have HM := Lib.hid hmem
        have L1 := Lib.hid hz.2.1
        have L2 := Lib.hid hz.2.2
        have l0 := hz.1
        clear hc ht hmem hz hb
        have fin : Hid (termB t = false → flatB ts = false) := fun hf => by
          unfold flatB
          rw [all_no TermD.none (i := i) (by rw [Hn.out]; exact hlt) (show termB (TermD.at ts i) = false by rw [HT.out]; exact hf), Bool.and_false]
        by_cases h60 : t.name.size ≤ 60
        · have t60 : decide (60 < (t.name.size : Int)) = false := decide_eq_false (by omega)
          go_wp2_with fail
          refine (short_calls _ _ _ _ L1.out L2.out).mono ?_
          rintro e w1 ⟨rfl, hb1⟩
          cases hs : (decide (t.up.size ≤ 100) && decide (t.rv.size ≤ 100))
          · have HF := Lib.hid (fin.out (by unfold termB shortB; rw [hs, Bool.and_false]))
            clear hs
            go_wp2_with fail
            go_ret
            exact ⟨ret_bool HF.out.symm, hB.trans (hb1.mono hB.size)⟩
          · have HS : Hid ((ts.take (i + 1)).all termB = true) := all_step TermD.none (by rw [Hn.out]; exact hlt) Hall.out (show termB (TermD.at ts i) = true by rw [HT.out]; unfold termB shortB; rw [hs, decide_eq_true h60]; rfl)
            clear hs
            go_wp2_with fail
            go_roundg (n - (i + 1))
            case rel => exact ⟨i + 1, by go_num, by omega, rfl, HS.out, hB.trans (hb1.mono hB.size)⟩
            case measure => have := Hk.out; omega
        · have t60 : decide (60 < (t.name.size : Int)) = true := decide_eq_true (by omega)
          have HF := Lib.hid (fin.out (by unfold termB; rw [decide_eq_false h60]; rfl))
          go_wp2_with fail
          go_ret
          exact ⟨ret_bool HF.out.symm, hB⟩
      · have HF : Hid (flatB ts = true) := by
          show flatB ts = true
          unfold flatB
          rw [all_end (by rw [Hn.out]; omega) Hall.out, Hn.out, decide_eq_true hl]; rfl
        go_wp2_with fail
        go_ret
        exact ⟨ret_bool HF.out.symm, hB⟩
  · have e40 : decide (40 < (n : Int)) = true := decide_eq_true (by omega)
    have HF : Hid (flatB ts = false) := by
      show flatB ts = false
      unfold flatB
      rw [Hn.out, decide_eq_false hl]; rfl
    go_enter Tryz.func20, Tryz.ntmps20
    go_wp2_with fail
    go_ret
    exact ⟨ret_bool HF.out.symm, Below.refl _ _⟩

set_option maxHeartbeats 2000000 in
theorem terms_calls (v : Value) (ls : List (List TermD)) (w : World) (h : Lists w v ls) :
    Calls Tryz.prog 19 #[v] w fun e w' => e = .returned (.bool (termsB ls)) ∧ Below w.heap.size w w' := by
  obtain ⟨V, ⟨a, cap, rfl, hcap, hmax, hcell⟩, hT⟩ := h
  unfold maxLen at hmax
  obtain ⟨n, hn⟩ : ∃ n, ls.length = n := ⟨_, rfl⟩
  have Hcell := Lib.hid hcell
  have HT := Lib.hid hT
  clear hcell hT
  rw [hn] at hcap Hcell HT ⊢
  have Hn := Lib.hid hn
  clear hn
  by_cases hl : n ≤ 40
  · have e40 : decide (40 < (n : Int)) = false := decide_eq_false (by omega)
    go_enter Tryz.func19, Tryz.ntmps19
    go_wp2_with fail
    go_loopg [3] n (fun k v3 wr => ∃ i : Nat, v3 = .int .i64 i ∧ i ≤ n ∧ k = n - i ∧ (ls.take i).all flatB = true ∧ Below w.heap.size w wr)
    case atStart => exact ⟨0, rfl, Nat.zero_le _, rfl, rfl, Below.refl _ _⟩
    case round =>
      obtain ⟨i, rfl, hi, hk, hall, hB⟩ := hrel
      have Hk := Lib.hid hk
      have Hall := Lib.hid hall
      clear hk hall
      by_cases hlt : i < n
      · obtain ⟨b, o, rfl, hb, hc⟩ := Hcell.out.resolve_left (by omega)
        have c0 : wr.cell? ⟨b, o + i, none⟩ = some (V i) := (hB.cell (p := ⟨b, o + i, none⟩) hb).trans (by have := hc i 0 hlt (by decide); simpa using this)
        have HV := Lib.hid ((HT.out i hlt).below hB (Nat.le_refl _))
        clear hc hb
        go_wp2_with fail
        refine (flat_calls _ _ _ HV.out).mono ?_
        rintro e w1 ⟨rfl, hb1⟩
        cases hs : flatB (ls.getD i [])
        · have HF : Hid (termsB ls = false) := by
            show termsB ls = false
            unfold termsB
            rw [all_no [] (by rw [Hn.out]; exact hlt) hs, Bool.and_false]
          clear hs
          go_wp2_with fail
          go_ret
          exact ⟨ret_bool HF.out.symm, hB.trans (hb1.mono hB.size)⟩
        · have HS : Hid ((ls.take (i + 1)).all flatB = true) := all_step [] (by rw [Hn.out]; exact hlt) Hall.out hs
          clear hs
          go_wp2_with fail
          go_roundg (n - (i + 1))
          case rel => exact ⟨i + 1, by go_num, by omega, rfl, HS.out, hB.trans (hb1.mono hB.size)⟩
          case measure => have := Hk.out; omega
      · have HF : Hid (termsB ls = true) := by
          show termsB ls = true
          unfold termsB
          rw [all_end (by rw [Hn.out]; omega) Hall.out, Hn.out, decide_eq_true hl]; rfl
        go_wp2_with fail
        go_ret
        exact ⟨ret_bool HF.out.symm, hB⟩
  · have e40 : decide (40 < (n : Int)) = true := decide_eq_true (by omega)
    have HF : Hid (termsB ls = false) := by
      show termsB ls = false
      unfold termsB
      rw [Hn.out, decide_eq_false hl]; rfl
    go_enter Tryz.func19, Tryz.ntmps19
    go_wp2_with fail
    go_ret
    exact ⟨ret_bool HF.out.symm, Below.refl _ _⟩

set_option maxHeartbeats 2000000 in
theorem texts_calls (v : Value) (ss : List ByteArray) (w : World) (h : Strs w v ss) :
    Calls Tryz.prog 18 #[v] w fun e w' => e = .returned (.bool (textsB ss)) ∧ Below w.heap.size w w' := by
  obtain ⟨⟨a, cap, rfl, hcap, hmax, hcell⟩, hlen⟩ := h
  unfold maxLen at hmax hlen
  obtain ⟨n, hn⟩ : ∃ n, ss.length = n := ⟨_, rfl⟩
  have Hcell := Lib.hid hcell
  have Hlen := Lib.hid hlen
  clear hcell hlen
  rw [hn] at hcap Hcell ⊢
  have Hn := Lib.hid hn
  clear hn
  by_cases hl : n ≤ 40
  · have e40 : decide (40 < (n : Int)) = false := decide_eq_false (by omega)
    go_enter Tryz.func18, Tryz.ntmps18
    go_wp2_with fail
    go_loopg [3] n (fun k v3 wr => ∃ i : Nat, v3 = .int .i64 i ∧ i ≤ n ∧ k = n - i ∧ (ss.take i).all (fun s => decide (s.size ≤ 100)) = true ∧ Below w.heap.size w wr)
    case atStart => exact ⟨0, rfl, Nat.zero_le _, rfl, rfl, Below.refl _ _⟩
    case round =>
      obtain ⟨i, rfl, hi, hk, hall, hB⟩ := hrel
      have Hk := Lib.hid hk
      have Hall := Lib.hid hall
      clear hk hall
      by_cases hlt : i < n
      · obtain ⟨b, o, rfl, hb, hc⟩ := Hcell.out.resolve_left (by omega)
        obtain ⟨t, ht⟩ : ∃ t, ss.getD i ⟨#[]⟩ = t := ⟨_, rfl⟩
        have hmem := mem_getD (l := ss) (i := i) ⟨#[]⟩ (by rw [Hn.out]; exact hlt)
        rw [ht] at hmem
        have hz := Hlen.out t hmem
        have c0 : wr.cell? ⟨b, o + i, none⟩ = some (.string t) := (hB.cell (p := ⟨b, o + i, none⟩) hb).trans (by have := hc i 0 hlt (by decide); rw [ht] at this; simpa using this)
        have HT := Lib.hid ht
        clear hc ht hmem hb
        by_cases h60 : t.size ≤ 100
        · have t60 : decide (100 < (t.size : Int)) = false := decide_eq_false (by omega)
          have HS : Hid ((ss.take (i + 1)).all (fun s => decide (s.size ≤ 100)) = true) := all_step ⟨#[]⟩ (by rw [Hn.out]; exact hlt) Hall.out (by rw [HT.out]; exact decide_eq_true h60)
          go_wp2_with fail
          go_roundg (n - (i + 1))
          case rel => exact ⟨i + 1, by go_num, by omega, rfl, HS.out, hB⟩
          case measure => have := Hk.out; omega
        · have t60 : decide (100 < (t.size : Int)) = true := decide_eq_true (by omega)
          have HF : Hid (textsB ss = false) := by
            show textsB ss = false
            unfold textsB
            rw [all_no (⟨#[]⟩ : ByteArray) (by rw [Hn.out]; exact hlt) (by rw [HT.out]; exact decide_eq_false h60), Bool.and_false]
          go_wp2_with fail
          go_ret
          exact ⟨ret_bool HF.out.symm, hB⟩
      · have HF : Hid (textsB ss = true) := by
          show textsB ss = true
          unfold textsB
          rw [all_end (by rw [Hn.out]; omega) Hall.out, Hn.out, decide_eq_true hl]; rfl
        go_wp2_with fail
        go_ret
        exact ⟨ret_bool HF.out.symm, hB⟩
  · have e40 : decide (40 < (n : Int)) = true := decide_eq_true (by omega)
    have HF : Hid (textsB ss = false) := by
      show textsB ss = false
      unfold textsB
      rw [Hn.out, decide_eq_false hl]; rfl
    go_enter Tryz.func18, Tryz.ntmps18
    go_wp2_with fail
    go_ret
    exact ⟨ret_bool HF.out.symm, Below.refl _ _⟩

structure PackV (w : World) (p : PackD) (dv av gv bv rv pv sv lv : Value) (fa : Option Addr) (fn fc : Nat) : Prop where
  depends : Lists w dv p.depends
  ahead : Lists w av p.ahead
  against : Terms w gv p.against
  breaks : Terms w bv p.breaks
  replaces : Terms w rv p.replaces
  provides : Terms w pv p.provides
  settings : Strs w sv p.settings
  listens : Strs w lv p.listens
  files : Files w (.slice fa fn fc) p.files
  lens : p.name.size ≤ maxLen ∧ p.up.size ≤ maxLen ∧ p.rv.size ≤ maxLen

theorem PackV.below {w w' : World} {p : PackD} {dv av gv bv rv pv sv lv : Value} {fa : Option Addr} {fn fc : Nat} (h : PackV w p dv av gv bv rv pv sv lv fa fn fc) {B : Nat} (hb : Below B w w') (hB : w.heap.size ≤ B) : PackV w' p dv av gv bv rv pv sv lv fa fn fc :=
  ⟨h.depends.below hb hB, h.ahead.below hb hB, h.against.below hb hB, h.breaks.below hb hB, h.replaces.below hb hB, h.provides.below hb hB, h.settings.below hb hB, h.listens.below hb hB, h.files.below hb hB, h.lens⟩

/-- A package's cells, written out. -/
theorem PackOk.cells {w : World} {p : PackD} {R : Nat → Value} (h : PackOk w p R) : ∃ (dv av gv bv rv pv sv lv : Value) (fa : Option Addr) (fn fc : Nat),
    R 4 = dv ∧ R 5 = av ∧ R 6 = gv ∧ R 7 = bv ∧ R 8 = rv ∧ R 9 = pv ∧ R 10 = sv ∧ R 11 = lv ∧ R 12 = .slice fa fn fc ∧
    PackV w p dv av gv bv rv pv sv lv fa fn fc := by
  obtain ⟨⟨fa, fc, e12, g1, g2, g3⟩, g4⟩ := h.files
  exact ⟨R 4, R 5, R 6, R 7, R 8, R 9, R 10, R 11, fa, p.files.length, fc, rfl, rfl, rfl, rfl, rfl, rfl, rfl, rfl, e12, h.depends, h.ahead, h.against, h.breaks, h.replaces, h.provides, h.settings, h.listens, ⟨⟨fa, fc, rfl, g1, g2, g3⟩, g4⟩, h.lens⟩

set_option maxHeartbeats 4000000 in
theorem says_calls (p : PackD) (dv av gv bv rv pv sv lv : Value) (fa : Option Addr) (fn fc : Nat) (w : World) (h : PackV w p dv av gv bv rv pv sv lv fa fn fc) :
    Calls Tryz.prog 6 #[.agg #[.string p.name, .int .i64 p.ep, .string p.up, .string p.rv, dv, av, gv, bv, rv, pv, sv, lv, .slice fa fn fc]] w fun e w' => e = .returned (.bool (saysB p)) ∧ Below w.heap.size w w' := by
  obtain ⟨w0, hw0⟩ : ∃ w0 : World, w0 = w.alloc (.cells #[.string p.name, .int .i64 p.ep, .string p.up, .string p.rv, dv, av, gv, bv, rv, pv, sv, lv, .slice fa fn fc] 30) := ⟨_, rfl⟩
  have hB0 : Below w.heap.size w w0 := by rw [hw0]; go_grown
  have HV := Lib.hid (h.below hB0 (Nat.le_refl _))
  have hz0 : w0.heap.size = w.heap.size + 1 := by rw [hw0]; simp
  have HC : Hid (∀ w1, Below w0.heap.size w0 w1 → ∀ j x, (#[.string p.name, .int .i64 p.ep, .string p.up, .string p.rv, dv, av, gv, bv, rv, pv, sv, lv, .slice fa fn fc] : Array Value)[j]? = some x → w1.cell? ⟨w.heap.size, j, none⟩ = some x) := by
    intro w1 hb j x hx
    refine (hb.cell (p := ⟨w.heap.size, j, none⟩) (by show w.heap.size < _; omega)).trans ?_
    rw [hw0]
    simp only [World.cell?_alloc_new]
    simpa using hx
  have HF0 : Hid (∀ w1, Below w0.heap.size w0 w1 → Below w.heap.size w w1) := fun w1 hb => hB0.trans (hb.mono (by omega))
  obtain ⟨l0, l1, l2⟩ := h.lens
  obtain ⟨⟨_, _, hfe, hfcap, hfmax, hfcell⟩, hflen⟩ := HV.out.files
  injection hfe with e1 e2 e3
  subst e1 e3
  unfold maxLen at l0 l1 l2 hfmax hflen
  have Hfn := Lib.hid e2
  have Hfcell := Lib.hid hfcell
  have Hflen := Lib.hid hflen
  have L1 := Lib.hid l1
  have L2 := Lib.hid l2
  have c1 := HC.out w0 (Below.refl _ _) 0 _ rfl
  have c2 := HC.out w0 (Below.refl _ _) 1 _ rfl
  have c3 := HC.out w0 (Below.refl _ _) 2 _ rfl
  have c4 := HC.out w0 (Below.refl _ _) 3 _ rfl
  clear hB0 h hfcell hflen e2 hz0 l1 l2
  by_cases h60 : p.name.size ≤ 60
  · have t60 : decide (60 < (p.name.size : Int)) = false := decide_eq_false (by omega)
    go_enter Tryz.func6, Tryz.ntmps6
    go_wp2_with fail
    rw [← hw0]
    clear hw0
    go_wp2_with fail
    refine (short_calls _ _ _ _ L1.out L2.out).mono ?_
    rintro e w1 ⟨rfl, hb1⟩
    clear c1 c2 c3 c4
    cases hs : (decide (p.up.size ≤ 100) && decide (p.rv.size ≤ 100))
    · have HF : Hid (saysB p = false) := by show _ = _; unfold saysB shortB; rw [hs]; simp
      have hbf := HF0.out w1 hb1
      clear hs
      go_wp2_with fail
      go_ret
      exact ⟨ret_bool HF.out.symm, hbf⟩
    · have S0 := Lib.hid hs
      clear hs
      have ck := HC.out w1 hb1 4 _ rfl
      go_wp2_with fail
      refine (terms_calls _ _ _ (HV.out.depends.below hb1 (Nat.le_refl _))).mono ?_
      rintro e w2 ⟨rfl, hq⟩
      have hb2 := hb1.trans (hq.mono hb1.size)
      clear ck hq hb1
      cases hs : termsB p.depends
      · have HF : Hid (saysB p = false) := by show _ = _; unfold saysB; rw [hs]; simp
        have hbf := HF0.out w2 hb2
        clear hs
        go_wp2_with fail
        go_ret
        exact ⟨ret_bool HF.out.symm, hbf⟩
      · have S1 := Lib.hid hs
        clear hs
        have ck := HC.out w2 hb2 5 _ rfl
        go_wp2_with fail
        refine (terms_calls _ _ _ (HV.out.ahead.below hb2 (Nat.le_refl _))).mono ?_
        rintro e w3 ⟨rfl, hq⟩
        have hb3 := hb2.trans (hq.mono hb2.size)
        clear ck hq hb2
        cases hs : termsB p.ahead
        · have HF : Hid (saysB p = false) := by show _ = _; unfold saysB; rw [hs]; simp
          have hbf := HF0.out w3 hb3
          clear hs
          go_wp2_with fail
          go_ret
          exact ⟨ret_bool HF.out.symm, hbf⟩
        · have S2 := Lib.hid hs
          clear hs
          have ck := HC.out w3 hb3 6 _ rfl
          go_wp2_with fail
          refine (flat_calls _ _ _ (HV.out.against.below hb3 (Nat.le_refl _))).mono ?_
          rintro e w4 ⟨rfl, hq⟩
          have hb4 := hb3.trans (hq.mono hb3.size)
          clear ck hq hb3
          cases hs : flatB p.against
          · have HF : Hid (saysB p = false) := by show _ = _; unfold saysB; rw [hs]; simp
            have hbf := HF0.out w4 hb4
            clear hs
            go_wp2_with fail
            go_ret
            exact ⟨ret_bool HF.out.symm, hbf⟩
          · have S3 := Lib.hid hs
            clear hs
            have ck := HC.out w4 hb4 7 _ rfl
            go_wp2_with fail
            refine (flat_calls _ _ _ (HV.out.breaks.below hb4 (Nat.le_refl _))).mono ?_
            rintro e w5 ⟨rfl, hq⟩
            have hb5 := hb4.trans (hq.mono hb4.size)
            clear ck hq hb4
            cases hs : flatB p.breaks
            · have HF : Hid (saysB p = false) := by show _ = _; unfold saysB; rw [hs]; simp
              have hbf := HF0.out w5 hb5
              clear hs
              go_wp2_with fail
              go_ret
              exact ⟨ret_bool HF.out.symm, hbf⟩
            · have S4 := Lib.hid hs
              clear hs
              have ck := HC.out w5 hb5 8 _ rfl
              go_wp2_with fail
              refine (flat_calls _ _ _ (HV.out.replaces.below hb5 (Nat.le_refl _))).mono ?_
              rintro e w6 ⟨rfl, hq⟩
              have hb6 := hb5.trans (hq.mono hb5.size)
              clear ck hq hb5
              cases hs : flatB p.replaces
              · have HF : Hid (saysB p = false) := by show _ = _; unfold saysB; rw [hs]; simp
                have hbf := HF0.out w6 hb6
                clear hs
                go_wp2_with fail
                go_ret
                exact ⟨ret_bool HF.out.symm, hbf⟩
              · have S5 := Lib.hid hs
                clear hs
                have ck := HC.out w6 hb6 9 _ rfl
                go_wp2_with fail
                refine (flat_calls _ _ _ (HV.out.provides.below hb6 (Nat.le_refl _))).mono ?_
                rintro e w7 ⟨rfl, hq⟩
                have hb7 := hb6.trans (hq.mono hb6.size)
                clear ck hq hb6
                cases hs : flatB p.provides
                · have HF : Hid (saysB p = false) := by show _ = _; unfold saysB; rw [hs]; simp
                  have hbf := HF0.out w7 hb7
                  clear hs
                  go_wp2_with fail
                  go_ret
                  exact ⟨ret_bool HF.out.symm, hbf⟩
                · have S6 := Lib.hid hs
                  clear hs
                  have ck := HC.out w7 hb7 10 _ rfl
                  go_wp2_with fail
                  refine (texts_calls _ _ _ (HV.out.settings.below hb7 (Nat.le_refl _))).mono ?_
                  rintro e w8 ⟨rfl, hq⟩
                  have hb8 := hb7.trans (hq.mono hb7.size)
                  clear ck hq hb7
                  cases hs : textsB p.settings
                  · have HF : Hid (saysB p = false) := by show _ = _; unfold saysB; rw [hs]; simp
                    have hbf := HF0.out w8 hb8
                    clear hs
                    go_wp2_with fail
                    go_ret
                    exact ⟨ret_bool HF.out.symm, hbf⟩
                  · have S7 := Lib.hid hs
                    clear hs
                    have ck := HC.out w8 hb8 11 _ rfl
                    go_wp2_with fail
                    refine (texts_calls _ _ _ (HV.out.listens.below hb8 (Nat.le_refl _))).mono ?_
                    rintro e w9 ⟨rfl, hq⟩
                    have hb9 := hb8.trans (hq.mono hb8.size)
                    clear ck hq hb8
                    cases hs : textsB p.listens
                    · have HF : Hid (saysB p = false) := by show _ = _; unfold saysB; rw [hs]; simp
                      have hbf := HF0.out w9 hb9
                      clear hs
                      go_wp2_with fail
                      go_ret
                      exact ⟨ret_bool HF.out.symm, hbf⟩
                    · have S8 := Lib.hid hs
                      clear hs
                      have ck := HC.out w9 hb9 12 _ rfl
                      by_cases h30 : fn ≤ 30
                      · have t30 : decide (30 < (fn : Int)) = false := decide_eq_false (by omega)
                        have HH : Hid (saysB p = p.files.all fileB) := by
                          show _ = _
                          unfold saysB shortB
                          rw [S0.out, S1.out, S2.out, S3.out, S4.out, S5.out, S6.out, S7.out, S8.out, decide_eq_true h60, ← Hfn.out, decide_eq_true h30]
                          rfl
                        go_wp2_with fail
                        clear ck
                        go_loopg [3] fn (fun k v3 wr => ∃ i : Nat, v3 = .int .i64 i ∧ i ≤ fn ∧ k = fn - i ∧ (p.files.take i).all fileB = true ∧ Below w0.heap.size w0 wr)
                        case atStart => exact ⟨0, rfl, Nat.zero_le _, rfl, rfl, hb9⟩
                        case round =>
                          clear hb9
                          obtain ⟨i, rfl, hi, hk, hall, hB⟩ := hrel
                          have Hk := Lib.hid hk
                          have Hall := Lib.hid hall
                          have hbf := HF0.out wr hB
                          have ck := HC.out wr hB 12 _ rfl
                          clear hk hall
                          by_cases hlt : i < fn
                          · obtain ⟨b, o, rfl, hb, hc⟩ := Hfcell.out.resolve_left (by rw [← Hfn.out]; omega)
                            obtain ⟨f, hf⟩ : ∃ f, p.files.getD i (⟨#[]⟩, ⟨#[]⟩) = f := ⟨_, rfl⟩
                            have hmem := mem_getD (l := p.files) (i := i) (⟨#[]⟩, ⟨#[]⟩) (by rw [← Hfn.out]; exact hlt)
                            rw [hf] at hmem
                            obtain ⟨z1, z2⟩ := Hflen.out f hmem
                            have d0 : wr.cell? ⟨b, o + i * 2, none⟩ = some (.string f.1) := (hB.cell (p := ⟨b, o + i * 2, none⟩) hb).trans (by have := hc i 0 (by rw [← Hfn.out]; exact hlt) (by decide); rw [hf] at this; exact this)
                            have d1 : wr.cell? ⟨b, o + i * 2 + 1, none⟩ = some (.string f.2) := (hB.cell (p := ⟨b, o + i * 2 + 1, none⟩) hb).trans (by have := hc i 1 (by rw [← Hfn.out]; exact hlt) (by decide); rw [hf] at this; exact this)
                            have HFF := Lib.hid hf
                            clear hc hf hmem hb
                            have no : Hid (fileB f = false → saysB p = false) := fun h => by rw [HH.out]; exact all_no (⟨#[]⟩, ⟨#[]⟩) (by rw [← Hfn.out]; exact hlt) (by rw [HFF.out]; exact h)
                            by_cases g1 : f.1.size ≤ 100
                            · have q1 : decide (100 < (f.1.size : Int)) = false := decide_eq_false (by omega)
                              by_cases g2 : f.2.size ≤ 500
                              · have q2 : decide (500 < (f.2.size : Int)) = false := decide_eq_false (by omega)
                                have HS : Hid ((p.files.take (i + 1)).all fileB = true) := all_step (⟨#[]⟩, ⟨#[]⟩) (by rw [← Hfn.out]; exact hlt) Hall.out (by rw [HFF.out]; unfold fileB; rw [decide_eq_true g1, decide_eq_true g2]; rfl)
                                go_wp2_with fail
                                go_roundg (fn - (i + 1))
                                case rel => exact ⟨i + 1, by go_num, by omega, rfl, HS.out, hB⟩
                                case measure => have := Hk.out; omega
                              · have q2 : decide (500 < (f.2.size : Int)) = true := decide_eq_true (by omega)
                                have HF := Lib.hid (no.out (by unfold fileB; rw [decide_eq_false g2, Bool.and_false]))
                                go_wp2_with fail
                                go_ret
                                exact ⟨ret_bool HF.out.symm, hbf⟩
                            · have q1 : decide (100 < (f.1.size : Int)) = true := decide_eq_true (by omega)
                              have HF := Lib.hid (no.out (by unfold fileB; rw [decide_eq_false g1]; rfl))
                              go_wp2_with fail
                              go_ret
                              exact ⟨ret_bool HF.out.symm, hbf⟩
                          · have HF : Hid (saysB p = true) := by
                              show _ = _
                              rw [HH.out, all_end (by rw [← Hfn.out]; omega) Hall.out]
                            go_wp2_with fail
                            go_ret
                            exact ⟨ret_bool HF.out.symm, hbf⟩
                      · have t30 : decide (30 < (fn : Int)) = true := decide_eq_true (by omega)
                        have HF : Hid (saysB p = false) := by
                          show _ = _
                          unfold saysB shortB
                          rw [← Hfn.out, decide_eq_false h30]
                          simp
                        have hbf := HF0.out w9 hb9
                        go_wp2_with fail
                        go_ret
                        exact ⟨ret_bool HF.out.symm, hbf⟩
  · have t60 : decide (60 < (p.name.size : Int)) = true := decide_eq_true (by omega)
    have HF : Hid (saysB p = false) := by
      show saysB p = false
      unfold saysB
      rw [decide_eq_false h60]; rfl
    have hbf := HF0.out w0 (Below.refl _ _)
    go_enter Tryz.func6, Tryz.ntmps6
    go_wp2_with fail
    rw [← hw0]
    go_wp2_with fail
    go_ret
    exact ⟨ret_bool HF.out.symm, hbf⟩

end Go.Proofs.YtnfnebfioibndaaGreatDoor
namespace Go.Proofs.YtnfnebfioibndaaGreatDoor
open Go.RowKit
set_option maxRecDepth 100000
set_option maxHeartbeats 2000000

theorem any_step {α : Type} {p : α → Bool} {l : List α} {i : Nat} (d : α) (hi : i < l.length) (h : (l.take i).any p = false) (hp : p (l.getD i d) = false) : (l.take (i + 1)).any p = false := by
  rw [List.take_add_one, List.any_append, h, List.getElem?_eq_getElem hi]
  have : l.getD i d = l[i] := by simp [List.getD, List.getElem?_eq_getElem hi]
  rw [this] at hp
  simp [hp]

/-- What a package offers. -/
structure OffD where
  name : ByteArray
  ep : Int
  up : ByteArray
  rv : ByteArray
  pv : Value
  provides : List TermD
instance : Inhabited OffD := ⟨⟨⟨#[]⟩, 0, ⟨#[]⟩, ⟨#[]⟩, .nilFunc, []⟩⟩
def OffD.row (t : OffD) : Nat → Value
  | 0 => .string t.name
  | 1 => .int .i64 t.ep
  | 2 => .string t.up
  | 3 => .string t.rv
  | _ => t.pv
def Offs (w : World) (v : Value) (ts : List OffD) : Prop := Sl w v ts.length 5 (fun i j => (ts.getD i default).row j) ∧ True

def FoundTerm (ts : List TermD) (p : TermD → Bool) (w : World) (e : Ending) (w' : World) : Prop := ∃ k : Int, e = .returned (.int .i64 k) ∧ decide (0 ≤ k) = ts.any p ∧ Below w.heap.size w w'
def FoundOff (ts : List OffD) (p : OffD → Bool) (w : World) (e : Ending) (w' : World) : Prop := ∃ k : Int, e = .returned (.int .i64 k) ∧ decide (0 ≤ k) = ts.any p ∧ Below w.heap.size w w'

/-- slices.IndexFunc at Term: is there one, and where. -/
theorem indexTerm_calls (v : Value) (ts : List TermD) (g : FuncId) (caps : Array Value) (p : TermD → Bool) (w : World) (hT : Terms w v ts)
    (eg : ∀ args w, (callFunc g args).run Tryz.prog w = .ok (.enter g args) w)
    (hf : ∀ t ∈ ts, ∀ w', Below w.heap.size w w' → Calls Tryz.prog g (#[.agg #[.string t.name, .int .i64 t.op, .int .i64 t.ep, .string t.up, .string t.rv]] ++ caps) w' fun e w'' => e = .returned (.bool (p t)) ∧ Below w'.heap.size w' w'') :
    Calls Tryz.prog 67 #[v, .func (.func g) #[] caps] w fun e w' => ∃ k : Int, e = .returned (.int .i64 k) ∧ decide (0 ≤ k) = ts.any p ∧ Below w.heap.size w w' := by
  obtain ⟨⟨a, cap, rfl, hcap, hmax, hcell⟩, -⟩ := hT
  unfold maxLen at hmax
  obtain ⟨n, hn⟩ : ∃ n, ts.length = n := ⟨_, rfl⟩
  have Hcell := Lib.hid hcell
  have Hf := Lib.hid hf
  clear hcell hf
  rw [hn] at hcap Hcell ⊢
  have Hn := Lib.hid hn
  clear hn
  refine Calls.mono (?_ : Calls _ _ _ _ (FoundTerm ts p w)) (fun e w' h => h)
  go_enter Tryz.func67, Tryz.ntmps67
  go_wp2_with fail
  go_loopg [8] n (fun k v8 wr => ∃ i : Nat, v8 = .int .i64 i ∧ i ≤ n ∧ k = n - i ∧ (ts.take i).any p = false ∧ Below w.heap.size w wr)
  case atStart => exact ⟨0, rfl, Nat.zero_le _, rfl, rfl, Below.refl _ _⟩
  case round =>
    obtain ⟨i, rfl, hi, hk, hall, hB⟩ := hrel
    have Hk := Lib.hid hk
    have Hall := Lib.hid hall
    clear hk hall
    by_cases hlt : i < n
    · obtain ⟨b, o, rfl, hb, hc⟩ := Hcell.out.resolve_left (by omega)
      obtain ⟨t, ht⟩ : ∃ t, TermD.at ts i = t := ⟨_, rfl⟩
      have HM : Hid (t ∈ ts) := by
        show t ∈ ts
        rw [← ht]
        exact mem_at (by rw [Hn.out]; exact hlt)
      have c0 : wr.cell? ⟨b, o + i * 5, none⟩ = some (.string t.name) := (hB.cell (p := ⟨b, o + i * 5, none⟩) hb).trans (by have := hc i 0 hlt (by decide); rw [ht] at this; exact this)
      have c1 : wr.cell? ⟨b, o + i * 5 + 1, none⟩ = some (.int .i64 t.op) := (hB.cell (p := ⟨b, o + i * 5 + 1, none⟩) hb).trans (by have := hc i 1 hlt (by decide); rw [ht] at this; exact this)
      have c2 : wr.cell? ⟨b, o + i * 5 + 2, none⟩ = some (.int .i64 t.ep) := (hB.cell (p := ⟨b, o + i * 5 + 2, none⟩) hb).trans (by have := hc i 2 hlt (by decide); rw [ht] at this; exact this)
      have c3 : wr.cell? ⟨b, o + i * 5 + 3, none⟩ = some (.string t.up) := (hB.cell (p := ⟨b, o + i * 5 + 3, none⟩) hb).trans (by have := hc i 3 hlt (by decide); rw [ht] at this; exact this)
      have c4 : wr.cell? ⟨b, o + i * 5 + 4, none⟩ = some (.string t.rv) := (hB.cell (p := ⟨b, o + i * 5 + 4, none⟩) hb).trans (by have := hc i 4 hlt (by decide); rw [ht] at this; exact this)
      have HT := Lib.hid ht
      clear hc ht hb
      go_wp2_with fail
      refine (Hf.out t HM.out _ hB).mono ?_
      rintro e w1 ⟨rfl, hb1⟩
      have hB1 := hB.trans (hb1.mono hB.size)
      clear hB hb1
      cases hp : p t
      · have HS : Hid ((ts.take (i + 1)).any p = false) := by
          show _ = _
          exact any_step TermD.none (by rw [Hn.out]; exact hlt) Hall.out (by rw [show ts.getD i TermD.none = t from HT.out]; exact hp)
        clear hp
        go_wp2_with fail
        go_roundg (n - (i + 1))
        case rel => exact ⟨i + 1, by go_num, by omega, rfl, HS.out, hB1⟩
        case measure => have := Hk.out; omega
      · have HF : Hid (ts.any p = true) := by
          show _ = _
          rw [List.any_eq_true]
          exact ⟨t, HM.out, hp⟩
        clear hp
        go_wp2_with fail
        go_ret
        exact ⟨_, rfl, by rw [HF.out]; exact decide_eq_true (by omega), hB1⟩
    · have HF : Hid (ts.any p = false) := by
        have := Hall.out
        rwa [List.take_of_length_le (by rw [Hn.out]; omega)] at this
      go_wp2_with fail
      go_ret
      exact ⟨-1, rfl, by rw [HF.out]; rfl, hB⟩

/-- slices.ContainsFunc at Term. -/
theorem containsTerm_calls (v : Value) (ts : List TermD) (g : FuncId) (caps : Array Value) (p : TermD → Bool) (w : World) (hT : Terms w v ts)
    (eg : ∀ args w, (callFunc g args).run Tryz.prog w = .ok (.enter g args) w)
    (hf : ∀ t ∈ ts, ∀ w', Below w.heap.size w w' → Calls Tryz.prog g (#[.agg #[.string t.name, .int .i64 t.op, .int .i64 t.ep, .string t.up, .string t.rv]] ++ caps) w' fun e w'' => e = .returned (.bool (p t)) ∧ Below w'.heap.size w' w'') :
    Calls Tryz.prog 46 #[v, .func (.func g) #[] caps] w fun e w' => e = .returned (.bool (ts.any p)) ∧ Below w.heap.size w w' := by
  have HI := Lib.hid (indexTerm_calls v ts g caps p w hT eg hf)
  clear hf eg hT
  go_enter Tryz.func46, Tryz.ntmps46
  go_wp2_with fail
  refine HI.out.mono ?_
  rintro e w1 ⟨k, rfl, hk, hb⟩
  have HK := Lib.hid hk
  clear hk HI
  go_wp2_with fail
  go_ret
  exact ⟨ret_bool HK.out, hb⟩

/-- slices.IndexFunc at Off: is there one, and where. -/
theorem indexOff_calls (v : Value) (ts : List OffD) (g : FuncId) (caps : Array Value) (p : OffD → Bool) (w : World) (hT : Offs w v ts)
    (eg : ∀ args w, (callFunc g args).run Tryz.prog w = .ok (.enter g args) w)
    (hf : ∀ t ∈ ts, ∀ w', Below w.heap.size w w' → Calls Tryz.prog g (#[.agg #[.string t.name, .int .i64 t.ep, .string t.up, .string t.rv, t.pv]] ++ caps) w' fun e w'' => e = .returned (.bool (p t)) ∧ Below w'.heap.size w' w'') :
    Calls Tryz.prog 55 #[v, .func (.func g) #[] caps] w fun e w' => ∃ k : Int, e = .returned (.int .i64 k) ∧ decide (0 ≤ k) = ts.any p ∧ Below w.heap.size w w' := by
  obtain ⟨⟨a, cap, rfl, hcap, hmax, hcell⟩, -⟩ := hT
  unfold maxLen at hmax
  obtain ⟨n, hn⟩ : ∃ n, ts.length = n := ⟨_, rfl⟩
  have Hcell := Lib.hid hcell
  have Hf := Lib.hid hf
  clear hcell hf
  rw [hn] at hcap Hcell ⊢
  have Hn := Lib.hid hn
  clear hn
  refine Calls.mono (?_ : Calls _ _ _ _ (FoundOff ts p w)) (fun e w' h => h)
  go_enter Tryz.func55, Tryz.ntmps55
  go_wp2_with fail
  go_loopg [8] n (fun k v8 wr => ∃ i : Nat, v8 = .int .i64 i ∧ i ≤ n ∧ k = n - i ∧ (ts.take i).any p = false ∧ Below w.heap.size w wr)
  case atStart => exact ⟨0, rfl, Nat.zero_le _, rfl, rfl, Below.refl _ _⟩
  case round =>
    obtain ⟨i, rfl, hi, hk, hall, hB⟩ := hrel
    have Hk := Lib.hid hk
    have Hall := Lib.hid hall
    clear hk hall
    by_cases hlt : i < n
    · obtain ⟨b, o, rfl, hb, hc⟩ := Hcell.out.resolve_left (by omega)
      obtain ⟨t, ht⟩ : ∃ t, ts.getD i default = t := ⟨_, rfl⟩
      have HM : Hid (t ∈ ts) := by
        show t ∈ ts
        rw [← ht]
        exact mem_getD _ (by rw [Hn.out]; exact hlt)
      have c0 : wr.cell? ⟨b, o + i * 5, none⟩ = some (.string t.name) := (hB.cell (p := ⟨b, o + i * 5, none⟩) hb).trans (by have := hc i 0 hlt (by decide); rw [ht] at this; exact this)
      have c1 : wr.cell? ⟨b, o + i * 5 + 1, none⟩ = some (.int .i64 t.ep) := (hB.cell (p := ⟨b, o + i * 5 + 1, none⟩) hb).trans (by have := hc i 1 hlt (by decide); rw [ht] at this; exact this)
      have c2 : wr.cell? ⟨b, o + i * 5 + 2, none⟩ = some (.string t.up) := (hB.cell (p := ⟨b, o + i * 5 + 2, none⟩) hb).trans (by have := hc i 2 hlt (by decide); rw [ht] at this; exact this)
      have c3 : wr.cell? ⟨b, o + i * 5 + 3, none⟩ = some (.string t.rv) := (hB.cell (p := ⟨b, o + i * 5 + 3, none⟩) hb).trans (by have := hc i 3 hlt (by decide); rw [ht] at this; exact this)
      have c4 : wr.cell? ⟨b, o + i * 5 + 4, none⟩ = some (t.pv) := (hB.cell (p := ⟨b, o + i * 5 + 4, none⟩) hb).trans (by have := hc i 4 hlt (by decide); rw [ht] at this; exact this)
      have HT := Lib.hid ht
      clear hc ht hb
      go_wp2_with fail
      refine (Hf.out t HM.out _ hB).mono ?_
      rintro e w1 ⟨rfl, hb1⟩
      have hB1 := hB.trans (hb1.mono hB.size)
      clear hB hb1
      cases hp : p t
      · have HS : Hid ((ts.take (i + 1)).any p = false) := by
          show _ = _
          exact any_step default (by rw [Hn.out]; exact hlt) Hall.out (by rw [show ts.getD i default = t from HT.out]; exact hp)
        clear hp
        go_wp2_with fail
        go_roundg (n - (i + 1))
        case rel => exact ⟨i + 1, by go_num, by omega, rfl, HS.out, hB1⟩
        case measure => have := Hk.out; omega
      · have HF : Hid (ts.any p = true) := by
          show _ = _
          rw [List.any_eq_true]
          exact ⟨t, HM.out, hp⟩
        clear hp
        go_wp2_with fail
        go_ret
        exact ⟨_, rfl, by rw [HF.out]; exact decide_eq_true (by omega), hB1⟩
    · have HF : Hid (ts.any p = false) := by
        have := Hall.out
        rwa [List.take_of_length_le (by rw [Hn.out]; omega)] at this
      go_wp2_with fail
      go_ret
      exact ⟨-1, rfl, by rw [HF.out]; rfl, hB⟩

/-- slices.ContainsFunc at Off. -/
theorem containsOff_calls (v : Value) (ts : List OffD) (g : FuncId) (caps : Array Value) (p : OffD → Bool) (w : World) (hT : Offs w v ts)
    (eg : ∀ args w, (callFunc g args).run Tryz.prog w = .ok (.enter g args) w)
    (hf : ∀ t ∈ ts, ∀ w', Below w.heap.size w w' → Calls Tryz.prog g (#[.agg #[.string t.name, .int .i64 t.ep, .string t.up, .string t.rv, t.pv]] ++ caps) w' fun e w'' => e = .returned (.bool (p t)) ∧ Below w'.heap.size w' w'') :
    Calls Tryz.prog 57 #[v, .func (.func g) #[] caps] w fun e w' => e = .returned (.bool (ts.any p)) ∧ Below w.heap.size w w' := by
  have HI := Lib.hid (indexOff_calls v ts g caps p w hT eg hf)
  clear hf eg hT
  go_enter Tryz.func57, Tryz.ntmps57
  go_wp2_with fail
  refine HI.out.mono ?_
  rintro e w1 ⟨k, rfl, hk, hb⟩
  have HK := Lib.hid hk
  clear hk HI
  go_wp2_with fail
  go_ret
  exact ⟨ret_bool HK.out, hb⟩
end Go.Proofs.YtnfnebfioibndaaGreatDoor
