/- strings.ContainsAny(t, "\t\n") at every t: a tab or a line feed among its bytes. -/
import Derived.Test.YtodmnogoacghpaaGreatDoorM01
import Derived.Test.YtodmnogoacghpaaGreatDoorM02
import Derived.Lib.Hide
import Derived.Lib.IndexAny
import Derived.Deep.RegionHeld3
import Derived.Deep.QuietTactic
import Derived.BigQuiet
import Derived.LoopTactic
import Derived.Deep.LoopGhost
import Derived.Deep.CutBlock
import Derived.Deep.DeepCutAuto
import Derived.BigRegion
import Derived.Handy
import Derived.Outline
namespace Go.Proofs.YtodmnogoacghpaaGreatDoor
open Go.RowKit Go.Lib
set_option maxRecDepth 100000
set_option maxHeartbeats 4000000

def tl : ByteArray := ⟨#[9, 10]⟩
def hasTL (l : List UInt8) : Bool := l.any fun b => b == 9 || b == 10

/-! ### what is decoded, what is encoded -/
theorem encode_hi (r : Int) (h : 128 ≤ r) : (2 ≤ (Utf8.encode r).size ∧ (Utf8.encode r).size ≤ 4) ∧ ∀ (i : Nat) (hi : i < (Utf8.encode r).size), 128 ≤ ((Utf8.encode r)[i]'hi).toNat := by
  obtain ⟨c, hc⟩ : ∃ c, (if Utf8.valid r then r.toNat else Utf8.runeError) = c := ⟨_, rfl⟩
  have hc1 : 128 ≤ c := by
    rw [← hc]
    split
    · omega
    · decide
  have hc2 : c ≤ 1114111 := by
    rw [← hc]
    split
    · rename_i hv
      unfold Utf8.valid at hv
      simp at hv
      omega
    · decide
  have key : ∀ (n : Nat), 128 ≤ n → n < 256 → 128 ≤ (UInt8.ofNat n).toNat := fun n h1 h2 => by rw [UInt8.toNat_ofNat']; omega
  unfold Utf8.encode
  rw [hc]
  dsimp only
  rw [if_neg (by omega)]
  split
  · refine ⟨⟨Nat.le_refl _, (by decide : 2 ≤ 4)⟩, fun i hi => ?_⟩
    match i, hi with
    | 0, _ => exact key _ (by omega) (by omega)
    | 1, _ => exact key _ (by omega) (by omega)
  · split
    · refine ⟨⟨(by decide : 2 ≤ 3), (by decide : 3 ≤ 4)⟩, fun i hi => ?_⟩
      match i, hi with
      | 0, _ => exact key _ (by omega) (by omega)
      | 1, _ => exact key _ (by omega) (by omega)
      | 2, _ => exact key _ (by omega) (by omega)
    · refine ⟨⟨(by decide : 2 ≤ 4), Nat.le_refl _⟩, fun i hi => ?_⟩
      match i, hi with
      | 0, _ => exact key _ (by omega) (by omega)
      | 1, _ => exact key _ (by omega) (by omega)
      | 2, _ => exact key _ (by omega) (by omega)
      | 3, _ => exact key _ (by omega) (by omega)
/-- The bytes that one rune takes are none below 128, where its first is none. -/
theorem decode_span (s : ByteArray) (pos : Nat) (h : pos < s.size) (ha : 128 ≤ (s[pos]'h).toNat) : ∀ k, k < (Utf8.decode s pos).2 → ∃ hk : pos + k < s.size, 128 ≤ (s[pos + k]'hk).toNat := by
  have hget : ∀ (k : Nat) (hk : pos + k < s.size), s.get! (pos + k) = s[pos + k]'hk := fun k hk => by
    show s.get! _ = _
    simp only [ByteArray.get!]
    rw [getElem!_pos s.data (pos + k) hk]
    rfl
  have h0 : ∃ hk : pos + 0 < s.size, 128 ≤ (s[pos + 0]'hk).toNat := ⟨h, ha⟩
  have hcont : ∀ k, (decide (pos + k < s.size) && (s.get! (pos + k)).toNat / 64 == 2) = true → ∃ hk : pos + k < s.size, 128 ≤ (s[pos + k]'hk).toNat := fun k hc => by
    simp only [Bool.and_eq_true, decide_eq_true_eq, beq_iff_eq] at hc
    refine ⟨hc.1, ?_⟩
    rw [hget k hc.1] at hc
    omega
  have hn : ¬ (s[pos]'h).toNat < 128 := by omega
  have e0 : s.get! (pos + 0) = s[pos]'h := get_at s pos h
  intro k hk
  simp only [Utf8.decode, e0, hn, if_false] at hk
  split at hk
  · rename_i hc
    simp only [Bool.and_eq_true] at hc
    split at hk
    · match k, hk with
      | 0, _ => exact h0
      | 1, _ => exact hcont 1 (by simpa using hc.2)
    · match k, hk with
      | 0, _ => exact h0
  · split at hk
    · rename_i hc
      simp only [Bool.and_eq_true] at hc
      split at hk
      · match k, hk with
        | 0, _ => exact h0
        | 1, _ => exact hcont 1 (by simpa using hc.1.2)
        | 2, _ => exact hcont 2 (by simpa using hc.2)
      · match k, hk with
        | 0, _ => exact h0
    · split at hk
      · rename_i hc
        simp only [Bool.and_eq_true] at hc
        split at hk
        · match k, hk with
          | 0, _ => exact h0
          | 1, _ => exact hcont 1 (by simpa using hc.1.1.2)
          | 2, _ => exact hcont 2 (by simpa using hc.1.2)
          | 3, _ => exact hcont 3 (by simpa using hc.2)
        · match k, hk with
          | 0, _ => exact h0
      · match k, hk with
        | 0, _ => exact h0

/-! ### none of both among the first -/
def NoTL (s : ByteArray) (i : Nat) : Prop := ∀ j (hj : j < s.size), j < i → (s[j]'hj ≠ 9 ∧ s[j]'hj ≠ 10)
theorem NoTL.all {s : ByteArray} (h : NoTL s s.size) : hasTL s.data.toList = false := by
  unfold hasTL
  rw [List.any_eq_false]
  intro b hb
  obtain ⟨j, hj, rfl⟩ := List.mem_iff_getElem.1 hb
  have hj' : j < s.size := by simpa using hj
  have := h j hj' hj'
  simp only [Array.getElem_toList]
  have e : s[j]'hj' = s.data[j] := rfl
  rw [e] at this
  simp [this.1, this.2]
theorem hasTL_at {s : ByteArray} {i : Nat} (hi : i < s.size) (h : s[i]'hi = 9 ∨ s[i]'hi = 10) : hasTL s.data.toList = true := by
  unfold hasTL
  rw [List.any_eq_true]
  refine ⟨s[i]'hi, ?_, ?_⟩
  · have : s[i]'hi = s.data.toList[i]'(by simpa using hi) := by rw [Array.getElem_toList]; rfl
    rw [this]
    exact List.getElem_mem _
  · rcases h with h | h <;> rw [h] <;> decide
theorem indexAny_tl (l : List UInt8) : decide (0 ≤ Lib.indexAny l [9, 10]) = hasTL l := by
  induction l with
  | nil => rfl
  | cons b l ih =>
    unfold Lib.indexAny hasTL
    rw [List.any_cons]
    have e : ([9, 10] : List UInt8).contains b = (b == 9 || b == 10) := by simp only [List.contains_cons, List.contains_nil, Bool.or_false]
    rw [e]
    cases hb : (b == 9 || b == 10)
    · unfold hasTL at ih
      simp only [Bool.false_eq_true, if_false, Bool.false_or, ← ih]
      have hge := Lib.indexAny_ge [9, 10] l
      by_cases h1 : Lib.indexAny l [9, 10] = -1
      · simp [h1]
      · have : ((Lib.indexAny l [9, 10]) == -1) = false := beq_eq_false_iff_ne.2 h1
        rw [this]
        simp
        omega
    · simp

theorem iter_below (w : World) (s : ByteArray) (i : Nat) : Below w.heap.size w (w.iter s i) := ⟨rfl, rfl, rfl, by simp [World.iter], fun k hk => by simp [World.iter]; exact Below.heap_alloc w _ k hk⟩
theorem indexRune_hi (r : Int) (w : World) (h1 : 128 ≤ r) (h2 : r ≤ 2147483647) :
    Calls Tryz.prog 71 #[.string ⟨#[9, 10]⟩, .int .i32 r] w fun e w' => e = .returned (.int .i64 (-1)) ∧ Below w.heap.size w w' := by
  have t0 : decide ((0 : Int) ≤ r) = true := decide_eq_true (by omega)
  have t1 : decide (r < 128) = false := decide_eq_false (by omega)
  by_cases h3 : r = 65533
  · subst h3
    have hn0 := fun ty => run_next_ascii (P := Tryz.prog) w ⟨#[9, 10]⟩ 0 ty (by decide) (by decide)
    have hn1 := fun ty => run_next_ascii (P := Tryz.prog) w ⟨#[9, 10]⟩ 1 ty (by decide) (by decide)
    have hn2 := fun ty => run_next_end (P := Tryz.prog) w ⟨#[9, 10]⟩ 2 ty (by decide)
    go_enter Tryz.func71, Tryz.ntmps71
    go_wp2_with fail
    go_loopg [5, 6] 2 (fun k _ _ wx => ∃ i : Nat, i + k = 2 ∧ wx = w.iter ⟨#[9, 10]⟩ i)
    case atStart => exact ⟨0, rfl, rfl⟩
    case round =>
      obtain ⟨i, hig, rfl⟩ := hrel
      match gk, i, hig with
      | 2, 0, _ =>
        go_wp2_with fail
        go_roundg 1
        case rel => exact ⟨1, rfl, rfl⟩
        case measure => decide
      | 1, 1, _ =>
        go_wp2_with fail
        go_roundg 0
        case rel => exact ⟨2, rfl, rfl⟩
        case measure => decide
      | 0, 2, _ =>
        go_wp2_with fail
        go_ret
        exact ⟨rfl, iter_below w _ _⟩
  · have t3 : (r == 65533) = false := beq_eq_false_iff_ne.2 h3
    cases hv : Lib.validRune r
    · have HV := Lib.hid (Tryz.utf8_ValidRune r w)
      rw [hv] at HV
      clear hv h3
      go_enter Tryz.func71, Tryz.ntmps71
      go_wp2_with fail
      refine HV.out.mono ?_
      rintro e w1 ⟨rfl, rfl⟩
      go_wp2_with fail
      go_ret
      exact ⟨rfl, Below.refl _ _⟩
    · have HV := Lib.hid (Tryz.utf8_ValidRune r w)
      rw [hv] at HV
      clear hv h3
      obtain ⟨⟨hz1, hz2⟩, hE⟩ := encode_hi r h1
      obtain ⟨E, hEE⟩ : ∃ E, Utf8.encode r = E := ⟨_, rfl⟩
      have hE1 : ∀ (i : Nat) (hi : i < E.size), 128 ≤ (E[i]'hi).toNat := by subst hEE; exact hE
      rw [hEE] at hz1 hz2
      clear hE
      go_enter Tryz.func71, Tryz.ntmps71
      go_wp2_with fail
      refine HV.out.mono ?_
      rintro e w1 ⟨rfl, rfl⟩
      go_wp2_with fail
      go_step3
      go_wp2_with fail
      go_loopg [9, 10] 1 (fun _ v9 v10 wr => v9 = .int .i64 (((E.size : Nat) : Int) - 1) ∧ v10 = .int .i64 0 ∧ wr = w1)
      case atStart => exact ⟨rfl, rfl, rfl⟩
      case round =>
        obtain ⟨rfl, rfl, rfl⟩ := hrel
        by_cases h2 : E.size = 2
        · have hl1 : 1 < E.size := by omega
          obtain ⟨x, hx⟩ : ∃ x, E[1]'hl1 = x := ⟨_, rfl⟩
          have hx1 : 128 ≤ x.toNat := by rw [← hx]; exact hE1 1 hl1
          have hne : (((10 : Int)) == ((x.toNat : Nat) : Int)) = false := beq_eq_false_iff_ne.2 (by omega)
          rw [h2, show (((2 : Nat) : Int) - 1) = 1 from rfl]
          obtain ⟨w0, rfl⟩ : ∃ w0 : World, w0 = wr := ⟨_, rfl⟩
          go_wp2_with fail
          go_step3
          go_wp2_with fail
          refine wp_region_held_drew (S := fun w' => Below w0.heap.size w0 w') (by kernel_rfl) ?_ (fun hHeld => ?_)
          · exact (Below.refl _ _).drew
          refine wpAnyH_take (i := 0) (oi := _) (v := .string ⟨#[9, 10]⟩) rfl (by kernel_rfl) (by kernel_rfl) (by kernel_rfl) (fun _ _ _ h => h) (Or.inl ⟨by kernel_rfl, fun w hSw => ?_⟩) hHeld ?_
          · (try dsimp only at hSw); go_simp
          try simp only [Act.put, List.getElem_toArray, List.getElem_cons_zero, List.setIfInBounds_toArray, List.set_cons_zero, List.set_cons_succ]
          refine wpAnyH_take (i := 1) (oi := _) (v := .int .i64 1) rfl (by kernel_rfl) (by kernel_rfl) (by kernel_rfl) (fun _ _ _ h => h) (Or.inl ⟨by kernel_rfl, fun w hSw => ?_⟩) hHeld ?_
          · (try dsimp only at hSw); go_simp
          try simp only [Act.put, List.getElem_toArray, List.getElem_cons_succ, List.getElem_cons_zero, List.setIfInBounds_toArray, List.set_cons_zero, List.set_cons_succ]
          refine wpAnyH_take (i := 2) (oi := _) (v := .int .u8 10) rfl (by kernel_rfl) (by kernel_rfl) (by kernel_rfl) (fun _ _ _ h => h) (Or.inl ⟨by kernel_rfl, fun w hSw => ?_⟩) hHeld ?_
          · (try dsimp only at hSw); go_simp; rfl
          try simp only [Act.put, List.getElem_toArray, List.getElem_cons_succ, List.getElem_cons_zero, List.setIfInBounds_toArray, List.set_cons_zero, List.set_cons_succ]
          refine wpAnyH_take (i := 3) (oi := _) (v := .string E) rfl (by kernel_rfl) (by kernel_rfl) (by kernel_rfl) (fun _ _ _ h => h) (Or.inl ⟨by kernel_rfl, fun w hSw => ?_⟩) hHeld ?_
          · (try dsimp only at hSw); go_simp
          try simp only [Act.put, List.getElem_toArray, List.getElem_cons_succ, List.getElem_cons_zero, List.setIfInBounds_toArray, List.set_cons_zero, List.set_cons_succ]
          refine wpAnyH_take (i := 4) (oi := _) (v := .int .i64 1) rfl (by kernel_rfl) (by kernel_rfl) (by kernel_rfl) (fun _ _ _ h => h) (Or.inl ⟨by kernel_rfl, fun w hSw => ?_⟩) hHeld ?_
          · (try dsimp only at hSw); go_simp
          try simp only [Act.put, List.getElem_toArray, List.getElem_cons_succ, List.getElem_cons_zero, List.setIfInBounds_toArray, List.set_cons_zero, List.set_cons_succ]
          refine wpAnyH_take (i := 5) (oi := _) (v := .int .u8 ((x.toNat : Nat) : Int)) rfl (by kernel_rfl) (by kernel_rfl) (by kernel_rfl) (fun _ _ _ h => h) (Or.inl ⟨by kernel_rfl, fun w hSw => ?_⟩) hHeld ?_
          · (try dsimp only at hSw); go_simp
          try simp only [Act.put, List.getElem_toArray, List.getElem_cons_succ, List.getElem_cons_zero, List.setIfInBounds_toArray, List.set_cons_zero, List.set_cons_succ]
          refine wpAnyH_take (i := 6) (oi := _) (v := .bool true) rfl (by kernel_rfl) (by kernel_rfl) (by kernel_rfl) (fun _ _ _ h => h) (Or.inl ⟨by kernel_rfl, fun w hSw => ?_⟩) hHeld ?_
          · (try dsimp only at hSw); go_simp; omega
          try simp only [Act.put, List.getElem_toArray, List.getElem_cons_succ, List.getElem_cons_zero, List.setIfInBounds_toArray, List.set_cons_zero, List.set_cons_succ]
          refine wpAnyH_done (by kernel_rfl) ?_ _
          have HB1 := Lib.hid hHeld
          clear hHeld
          go_wp2_with fail
          refine wp_region_held_drew (S := fun w' => Below w0.heap.size w0 w') (by kernel_rfl) ?_ (fun hHeld => ?_)
          · exact HB1.out.drew
          refine wpAnyH_take (i := 0) (oi := _) (v := .string ⟨#[9, 10]⟩) rfl (by kernel_rfl) (by kernel_rfl) (by kernel_rfl) (fun _ _ _ h => h) (Or.inl ⟨by kernel_rfl, fun w hSw => ?_⟩) hHeld ?_
          · (try dsimp only at hSw); go_simp
          try simp only [Act.put, List.getElem_toArray, List.getElem_cons_zero, List.setIfInBounds_toArray, List.set_cons_zero, List.set_cons_succ]
          refine wpAnyH_take (i := 1) (oi := _) (v := .int .i64 1) rfl (by kernel_rfl) (by kernel_rfl) (by kernel_rfl) (fun _ _ _ h => h) (Or.inl ⟨by kernel_rfl, fun w hSw => ?_⟩) hHeld ?_
          · (try dsimp only at hSw); go_simp
          try simp only [Act.put, List.getElem_toArray, List.getElem_cons_succ, List.getElem_cons_zero, List.setIfInBounds_toArray, List.set_cons_zero, List.set_cons_succ]
          refine wpAnyH_take (i := 2) (oi := _) (v := .int .i64 2) rfl (by kernel_rfl) (by kernel_rfl) (by kernel_rfl) (fun _ _ _ h => h) (Or.inl ⟨by kernel_rfl, fun w hSw => ?_⟩) hHeld ?_
          · (try dsimp only at hSw); go_simp; rfl
          try simp only [Act.put, List.getElem_toArray, List.getElem_cons_succ, List.getElem_cons_zero, List.setIfInBounds_toArray, List.set_cons_zero, List.set_cons_succ]
          refine wpAnyH_take (i := 3) (oi := _) (v := .string (⟨#[]⟩ : ByteArray)) rfl (by kernel_rfl) (by kernel_rfl) (by kernel_rfl) (fun _ _ _ h => h) (Or.inl ⟨by kernel_rfl, fun w hSw => ?_⟩) hHeld ?_
          · (try dsimp only at hSw); go_simp; rfl
          try simp only [Act.put, List.getElem_toArray, List.getElem_cons_succ, List.getElem_cons_zero, List.setIfInBounds_toArray, List.set_cons_zero, List.set_cons_succ]
          refine wpAnyH_take (i := 4) (oi := _) (v := .string E) rfl (by kernel_rfl) (by kernel_rfl) (by kernel_rfl) (fun _ _ _ h => h) (Or.inl ⟨by kernel_rfl, fun w hSw => ?_⟩) hHeld ?_
          · (try dsimp only at hSw); go_simp
          try simp only [Act.put, List.getElem_toArray, List.getElem_cons_succ, List.getElem_cons_zero, List.setIfInBounds_toArray, List.set_cons_zero, List.set_cons_succ]
          refine wpAnyH_take (i := 5) (oi := _) (v := .int .i64 1) rfl (by kernel_rfl) (by kernel_rfl) (by kernel_rfl) (fun _ _ _ h => h) (Or.inl ⟨by kernel_rfl, fun w hSw => ?_⟩) hHeld ?_
          · (try dsimp only at hSw); go_simp
          try simp only [Act.put, List.getElem_toArray, List.getElem_cons_succ, List.getElem_cons_zero, List.setIfInBounds_toArray, List.set_cons_zero, List.set_cons_succ]
          refine wpAnyH_take (i := 6) (oi := _) (v := .int .u8 ((x.toNat : Nat) : Int)) rfl (by kernel_rfl) (by kernel_rfl) (by kernel_rfl) (fun _ _ _ h => h) (Or.inl ⟨by kernel_rfl, fun w hSw => ?_⟩) hHeld ?_
          · (try dsimp only at hSw); go_simp
          try simp only [Act.put, List.getElem_toArray, List.getElem_cons_succ, List.getElem_cons_zero, List.setIfInBounds_toArray, List.set_cons_zero, List.set_cons_succ]
          refine wpAnyH_ready (rs := [7]) (by kernel_rfl) (by simp) ?_
          refine AllReadyH.cons (o := _) rfl (fun K hK => ?_) AllReadyH.nil
          go_simp
          go_at_call 90
          refine (Tryz.strings_IndexByte ⟨#[]⟩ ((x.toNat : Nat) : Int) _).mono ?_
          rintro e w' ⟨rfl, rfl⟩
          refine hK.out _ _ hHeld (fun hHeld2 => ?_)
          clear hK K hHeld
          have hHeld := hHeld2
          clear hHeld2
          refine wpAnyH_take (i := 8) (oi := _) (v := .int .i64 (-1)) rfl (by kernel_rfl) (by kernel_rfl) (by kernel_rfl) (fun _ _ _ h => h) (Or.inl ⟨by kernel_rfl, fun w hSw => ?_⟩) hHeld ?_
          · (try dsimp only at hSw); rfl
          try simp only [Act.put, List.getElem_toArray, List.getElem_cons_succ, List.getElem_cons_zero, List.setIfInBounds_toArray, List.set_cons_zero, List.set_cons_succ]
          refine wpAnyH_done (by kernel_rfl) ?_ _
          have HB2 := Lib.hid hHeld
          clear hHeld
          go_wp2_with fail
          simp only [go_sem]
          go_ret
          exact ⟨rfl, HB2.out⟩
        · have t4 : decide (((E.size : Nat) : Int) - 1 < 2) = false := decide_eq_false (by omega)
          go_wp2_with fail
          rw [Exit.noGoto_ret]
          go_ret
          exact ⟨rfl, Below.refl _ _⟩

theorem ib_tl (x : UInt8) : Lib.indexByte [9, 10] x = if x = 9 then 0 else if x = 10 then 1 else -1 := by
  unfold Lib.indexByte
  by_cases h1 : x = 9
  · subst h1; rfl
  · have e1 : ((9 : UInt8) == x) = false := beq_eq_false_iff_ne.2 (fun e => h1 e.symm)
    rw [e1, if_neg h1]
    unfold Lib.indexByte
    by_cases h2 : x = 10
    · subst h2; rfl
    · have e2 : ((10 : UInt8) == x) = false := beq_eq_false_iff_ne.2 (fun e => h2 e.symm)
      rw [e2, if_neg h2]
      rfl
def IxR (l : List UInt8) (w : World) (e : Ending) (w' : World) : Prop := ∃ k : Int, e = .returned (.int .i64 k) ∧ decide (0 ≤ k) = hasTL l ∧ Below w.heap.size w w'
theorem NoTL.step {s : ByteArray} {i n : Nat} (h : NoTL s i) (hs : ∀ k, k < n → ∃ hk : i + k < s.size, s[i + k]'hk ≠ 9 ∧ s[i + k]'hk ≠ 10) : NoTL s (i + n) := by
  intro j hj hl
  by_cases hji : j < i
  · exact h j hj hji
  · obtain ⟨hk, h1⟩ := hs (j - i) (by omega)
    have e : i + (j - i) = j := by omega
    simp only [e] at h1
    exact h1
theorem iterAt_below {B : Nat} {a w : World} (h : Below B a w) {k : Nat} (hk : B ≤ k) (s : ByteArray) (p : Nat) : Below B a (w.iterAt k s p) :=
  ⟨h.os, h.tape, h.output, by simpa [World.iterAt] using h.size, fun j hj => by
    have : k ≠ j := by omega
    rw [← h.block j hj]
    simp [World.iterAt, this]⟩
theorem indexAny_short_tl (s : ByteArray) (w : World) (h8 : s.size ≤ 8) :
    Calls Tryz.prog 60 #[.string s, .string ⟨#[9, 10]⟩] w (IxR s.data.toList w) := by
  have h8z : decide ((8 : Int) < (s.size : Int)) = false := decide_eq_false (by omega)
  go_enter Tryz.func60, Tryz.ntmps60
  go_wp2_with (go_at_call 72; refine (Tryz.strings_shouldUseASCIISet _ _).mono ?_; rintro e w' ⟨rfl, hw⟩; rw [hw, h8z]; clear hw)
  obtain ⟨r, hr⟩ : ∃ r, w.heap.size = r := ⟨_, rfl⟩
  rw [hr]
  have Hr := Lib.hid hr
  have HB0 : Hid (Below w.heap.size w (w.iter s 0)) := iter_below w s 0
  have HK0 : Hid ((w.iter s 0).heap[r]? = some (.stringIter s 0)) := by show _ = _; rw [← hr]; exact World.iter_heap w s 0
  clear hr
  go_loopg [9, 10] s.size (fun g _ _ wx => ∃ i : Nat, i ≤ s.size ∧ g = s.size - i ∧ wx.heap[r]? = some (.stringIter s i) ∧ Below w.heap.size w wx ∧ NoTL s i)
  case atStart => exact ⟨0, Nat.zero_le _, rfl, HK0.out, HB0.out, fun j _ h => absurd h (Nat.not_lt_zero _)⟩
  case round =>
    obtain ⟨i, hi, hg, hk, hB, hno⟩ := hrel
    have Hg := Lib.hid hg
    have HB := Lib.hid hB
    have HN := Lib.hid hno
    have HK := Lib.hid hk
    clear hg hB hno hk
    by_cases hlt : i < s.size
    · obtain ⟨x, hx⟩ : ∃ x, s[i]'hlt = x := ⟨_, rfl⟩
      have Hx := Lib.hid hx
      have hrl : r < wr.heap.size := (Array.getElem?_eq_some_iff.1 HK.out).1
      have HBi : Hid (∀ p, Below w.heap.size w (wr.iterAt r s p)) := fun p => iterAt_below HB.out (Nat.le_of_eq Hr.out) s p
      have HKi : Hid (∀ p, (wr.iterAt r s p).heap[r]? = some (.stringIter s p)) := fun p => iterAt_heap wr r s i p HK.out
      by_cases hx8 : x.toNat < 128
      · have hnx := fun ty => run_next_ascii_at (P := Tryz.prog) wr r s i ty HK.out hlt (by rw [hx]; exact hx8)
        rw [hx] at hnx
        have IR := fun W => Tryz.strings_IndexRune_ascii ⟨#[9, 10]⟩ ((x.toNat : Nat) : Int) W (by omega) (by omega)
        have ev : Lib.indexByte (ByteArray.mk #[9, 10]).data.toList ((x.toNat : Nat) : Int).toNat.toUInt8 = if x = 9 then 0 else if x = 10 then 1 else -1 := by
          rw [show ((x.toNat : Nat) : Int).toNat.toUInt8 = x by simp]
          exact ib_tl x
        rw [ev] at IR
        clear hx ev
        by_cases h9 : x = 9
        · rw [if_pos h9] at IR
          have HE : Hid (hasTL s.data.toList = true) := hasTL_at hlt (Or.inl (by rw [Hx.out, h9]))
          have HIR := Lib.hid IR
          clear h9 IR
          go_wp2_with (go_at_call 71; refine (HIR.out _).mono ?_; rintro e w1 ⟨rfl, hw1⟩; rw [hw1]; clear hw1)
          go_ret
          exact ⟨_, rfl, by rw [HE.out]; exact decide_eq_true (by omega), HBi.out _⟩
        · rw [if_neg h9] at IR
          by_cases h10 : x = 10
          · rw [if_pos h10] at IR
            have HE : Hid (hasTL s.data.toList = true) := hasTL_at hlt (Or.inr (by rw [Hx.out, h10]))
            have HIR := Lib.hid IR
            clear h9 h10 IR
            go_wp2_with (go_at_call 71; refine (HIR.out _).mono ?_; rintro e w1 ⟨rfl, hw1⟩; rw [hw1]; clear hw1)
            go_ret
            exact ⟨_, rfl, by rw [HE.out]; exact decide_eq_true (by omega), HBi.out _⟩
          · rw [if_neg h10] at IR
            have HN1 : Hid (NoTL s (i + 1)) := HN.out.step (n := 1) (fun k hk => by
              have h0 : k = 0 := by omega
              subst h0
              exact ⟨hlt, by show s[i]'hlt ≠ 9; rw [Hx.out]; exact h9, by show s[i]'hlt ≠ 10; rw [Hx.out]; exact h10⟩)
            have HIR := Lib.hid IR
            clear h9 h10 IR
            go_wp2_with (go_at_call 71; refine (HIR.out _).mono ?_; rintro e w1 ⟨rfl, hw1⟩; rw [hw1]; clear hw1)
            go_roundg (s.size - (i + 1))
            case rel => exact ⟨i + 1, by omega, rfl, HKi.out _, HBi.out _, HN1.out⟩
            case measure => have := Hg.out; omega
      · have hx9 : 128 ≤ (s[i]'hlt).toNat := by rw [hx]; omega
        have hnx := fun ty => run_next_any_at (P := Tryz.prog) wr r s i ty HK.out hlt
        have hd := decode_high s i hlt hx9
        have hdl := decode_le s i
        have hsp := decode_span s i hlt hx9
        obtain ⟨c, hc⟩ : ∃ c, (Utf8.decode s i).1 = c := ⟨_, rfl⟩
        obtain ⟨n, hn⟩ : ∃ n, (Utf8.decode s i).2 = n := ⟨_, rfl⟩
        rw [hc, hn] at hnx hd
        rw [hc] at hdl
        rw [hn] at hsp
        have HIR := Lib.hid (fun W => indexRune_hi ((c : Nat) : Int) W (by omega) (by omega))
        have hend : i + n ≤ s.size := by
          obtain ⟨hk, _⟩ := hsp (n - 1) (by omega)
          omega
        have HN1 : Hid (NoTL s (i + n)) := HN.out.step fun k hk => by
          obtain ⟨h1, h2⟩ := hsp k hk
          refine ⟨h1, fun e => ?_, fun e => ?_⟩ <;> (rw [e] at h2; exact absurd h2 (by decide))
        have hn1 := hd.2
        clear hx hc hn hsp hd hdl hx9
        go_wp2_with fail
        refine (HIR.out _).mono ?_
        rintro e w1 ⟨rfl, hb1⟩
        have HB1 := Lib.hid ((HBi.out (i + n)).trans (hb1.mono (HBi.out (i + n)).size))
        have HK1 : Hid (w1.heap[r]? = some (.stringIter s (i + n))) := (hb1.block r (by simpa [World.iterAt] using hrl)).trans (HKi.out _)
        clear hb1 hnx
        go_wp2_with fail
        go_roundg (s.size - (i + n))
        case rel => exact ⟨i + n, by omega, rfl, HK1.out, HB1.out, HN1.out⟩
        case measure => have := Hg.out; omega
    · obtain rfl : i = s.size := by omega
      have hnx := fun ty => run_next_end_at (P := Tryz.prog) wr r s s.size ty HK.out hlt
      have HE : Hid (hasTL s.data.toList = false) := HN.out.all
      go_wp2_with fail
      go_ret
      exact ⟨_, rfl, by rw [HE.out]; rfl, HB.out⟩
theorem indexAny_tl_calls (s : ByteArray) (w : World) (hs : s.size ≤ 1000000) :
    Calls Tryz.prog 60 #[.string s, .string ⟨#[9, 10]⟩] w (IxR s.data.toList w) := by
  by_cases h8 : s.size ≤ 8
  · exact indexAny_short_tl s w h8
  · refine (Tryz.strings_IndexAny_long (fun w => by kernel_rfl) s ⟨#[9, 10]⟩ w (by decide) (by omega) (by omega) (by decide) (fun j b hb => ?_)).mono ?_
    · match j, hb with
      | 0, hb => injection hb with hb; rw [← hb]; decide
      | 1, hb => injection hb with hb; rw [← hb]; decide
    · rintro e w' ⟨rfl, rfl⟩
      exact ⟨_, rfl, indexAny_tl _, ((Below.refl _ _).alloc (Nat.le_refl _) _).alloc (by simp) _⟩
theorem containsTL_calls (s : ByteArray) (w : World) (hs : s.size ≤ 1000000) :
    Calls Tryz.prog 44 #[.string s, .string ⟨#[9, 10]⟩] w fun e w' => e = .returned (.bool (hasTL s.data.toList)) ∧ Below w.heap.size w w' := by
  have CT := Lib.hid (indexAny_tl_calls s w hs)
  go_enter Tryz.func44, Tryz.ntmps44
  go_wp2_with fail
  refine CT.out.mono ?_
  rintro e w1 ⟨k, rfl, hk, hb⟩
  have HK := Lib.hid hk
  have HB := Lib.hid hb
  clear hk hb
  go_wp2_with fail
  go_ret
  exact ⟨by rw [← HK.out]; rfl, HB.out⟩
end Go.Proofs.YtodmnogoacghpaaGreatDoor
