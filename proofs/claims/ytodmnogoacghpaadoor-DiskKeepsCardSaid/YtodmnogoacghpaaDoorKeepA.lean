/- DiskKeeps: pick, acts. (Written by gen_keepa.py.) -/
import Derived.Test.YtodmnogoacghpaaDoorKeepQ
import Derived.Test.YtodmnogoacghpaaDoorDiskT2
import Derived.Test.YtodmnogoacghpaaDoorShelf
import Derived.Laws.IdiomStrings
namespace Go.Proofs.YtodmnogoacghpaaDoor
open Go.RowKit
set_option maxRecDepth 100000
set_option maxHeartbeats 4000000

def pickI (a : Int) (n : Nat) : Nat := ((a % 18446744073709551616) % n).toNat
theorem pickI_lt (a : Int) {n : Nat} (hn : 0 < n) : pickI a n < n := by
  unfold pickI
  have h1 := Int.emod_nonneg (a % 18446744073709551616) (show (n : Int) ≠ 0 by omega)
  have h2 := Int.emod_lt_of_pos (a % 18446744073709551616) (show (0 : Int) < n by omega)
  omega
theorem pick_calls (a : Int) (n : Nat) (w : World) (ha : InI a) (hn : 1 ≤ n ∧ n ≤ 1000) :
    Calls Tryd.prog 27 #[.int .i64 a, .int .i64 ((n : Nat) : Int)] w fun e w' => e = .returned (.int .i64 ((pickI a n : Nat) : Int)) ∧ w = w' := by
  obtain ⟨h1, h2⟩ := ha
  obtain ⟨p, hp⟩ : ∃ p, pickI a n = p := ⟨_, rfl⟩
  rw [hp]
  unfold pickI at hp
  have e1 : IntKind.u64.wrap a = a % 18446744073709551616 := IntKind.wrap_u64 a
  have e2 : IntKind.u64.wrap ((n : Nat) : Int) = ((n : Nat) : Int) := by rw [IntKind.wrap_u64]; omega
  obtain ⟨u, hu⟩ : ∃ u, a % 18446744073709551616 = u := ⟨_, rfl⟩
  rw [hu] at e1 hp
  have hu1 : 0 ≤ u := by omega
  have hn0 : ((n : Nat) : Int) ≠ 0 := by omega
  have hq1 := Int.emod_nonneg u hn0
  have hq2 := Int.emod_lt_of_pos u (show (0 : Int) < n by omega)
  have hqp : u % ((n : Nat) : Int) = ((p : Nat) : Int) := by omega
  have ht : u.tmod ((n : Nat) : Int) = ((p : Nat) : Int) := by rw [Int.tmod_eq_emod_of_nonneg hu1]; exact hqp
  have hz : ((n : Nat) : Int) ≠ 0 := hn0
  have hzb : (((n : Nat) : Int) == 0) = false := beq_eq_false_iff_ne.2 hn0
  have e3 : IntKind.u64.wrap ((p : Nat) : Int) = ((p : Nat) : Int) := by rw [IntKind.wrap_u64]; omega
  have e4 : IntKind.i64.wrap ((p : Nat) : Int) = ((p : Nat) : Int) := by rw [IntKind.wrap_i64]; omega
  clear hq1 hq2 hu hp
  go_enter Tryd.func27, Tryd.ntmps27
  go_wp2_with fail
  go_ret
  exact ⟨rfl, rfl⟩

abbrev ActK := (Int × Int) × (Int × Int)
def actK (x : ActK) : Nat → Value
  | 0 => .int .i64 x.1.1
  | 1 => .int .i64 x.1.2
  | 2 => .int .i64 x.2.1
  | _ => .int .i64 x.2.2
def noK : ActK := ((0, 0), (0, 0))
def ActKOk (x : ActK) : Prop := InI x.1.1 ∧ InI x.1.2 ∧ InI x.2.1 ∧ InI x.2.2
def ActsK (w : World) (v : Value) (l : List ActK) : Prop := Sl w v l.length 4 (fun i j => actK (l.getD i noK) j) ∧ ∀ x ∈ l, ActKOk x
theorem noK_ok : ActKOk noK := ⟨⟨by decide, by decide⟩, ⟨by decide, by decide⟩, ⟨by decide, by decide⟩, ⟨by decide, by decide⟩⟩
theorem ActsK.get {l : List ActK} (h : ∀ x ∈ l, ActKOk x) (i : Nat) : ActKOk (l.getD i noK) := by
  rcases Nat.lt_or_ge i l.length with h' | h'
  · rw [List.getD_eq_getElem?_getD, List.getElem?_eq_getElem h']
    exact h _ (List.getElem_mem h')
  · rw [List.getD_eq_getElem?_getD, List.getElem?_eq_none h']
    exact noK_ok
def letX (x : Nat) : ByteArray := ⟨#[UInt8.ofNat (97 + x)]⟩
def letterI (a : Int) : ByteArray := letX (pickI a 6)
theorem conv_letter (x : Nat) (hx : x < 6) (W : World) (B : Nat) (hc : W.cell? ⟨B, 0, none⟩ = some (.int .u8 (97 + ((x : Nat) : Int)))) :
    (convert 80 9 (.slice (some ⟨B, 0, none⟩) 1 1)).run Tryd.prog W = .ok (.string (letX x)) W := by
  refine run_convert_bytes_back W 80 9 5 ⟨B, 0, none⟩ 1 [UInt8.ofNat (97 + x)] Tryd.underlying80 Tryd.underlying5 Tryd.underlying9 ?_
  intro j hj
  have h0 : j = 0 := by simpa using hj
  subst h0
  show W.cell? ⟨B, 0, none⟩ = _
  rw [hc]
  have e : (UInt8.ofNat (97 + x)).toNat = 97 + x := by rw [UInt8.toNat_ofNat']; omega
  simp only [List.getElem_cons_zero, e, Int.natCast_add, Int.cast_ofNat_Int]
theorem letterI_name (a : Int) : NameL (letterI a) := by
  refine ⟨_, rfl, ?_⟩
  have := pickI_lt a (show 0 < 6 by decide)
  unfold LowB
  rw [UInt8.toNat_ofNat']
  omega
theorem rep_mem (l : List UInt8) {b : UInt8} : ∀ c, b ∈ Lib.repeatL l c → b ∈ l
  | 0, h => by cases h
  | c + 1, h => by
    unfold Lib.repeatL at h
    rcases List.mem_append.1 h with h | h
    · exact h
    · exact rep_mem l c h
theorem rep_text {t : ByteArray} (h : NameL t) (c : Nat) : TextL ⟨(Lib.repeatL t.data.toList c).toArray⟩ := fun b hb => h.data b (rep_mem _ _ hb)
theorem rep_size {t : ByteArray} (h : NameL t) {c : Nat} (hc : c ≤ 20) : (⟨(Lib.repeatL t.data.toList c).toArray⟩ : ByteArray).size ≤ 20 := by
  show (Lib.repeatL t.data.toList c).toArray.size ≤ 20
  have h1 : t.data.toList.length = 1 := h.size
  rw [List.size_toArray, Lib.repeatL_length, h1]
  omega
def ActsR (B : Nat) (X : List Nat) (a : Nat) (l : List ActK) (d : DiskD) (w : World) (e : Ending) (w' : World) : Prop :=
  e = .returned (.tuple #[]) ∧ ∃ d', Steps (l.map (·.1.1)) d d' ∧ One w' B X a d' ∧ KeptX B X w w'
theorem take_snocK (l : List ActK) {i : Nat} (h : i < l.length) : (l.take (i + 1)).map (·.1.1) = (l.take i).map (·.1.1) ++ [(l.getD i noK).1.1] := by
  rw [List.take_succ_eq_append_getElem h, List.map_append]
  rw [List.getD_eq_getElem?_getD, List.getElem?_eq_getElem h]
  rfl
theorem acts_calls (W0 : World) (v : Value) (l : List ActK) (w : World) (X : List Nat) (a : Nat) (d : DiskD) (C : Nat) (hA : ActsK W0 v l) (hB0 : Below W0.heap.size W0 w) (hO : One w W0.heap.size X a d) (hP : PlainD d) (hG : GoodD C 200 d) (hC : C + l.length ≤ 1000) :
    Calls Tryd.prog 23 #[.pointer (some ⟨a, 0, none⟩), v] w (ActsR W0.heap.size X a l d w) := by
  obtain ⟨⟨aa, ca, rfl, hca, hma, hcella⟩, hok⟩ := hA
  unfold maxLen at hma
  obtain ⟨n, hn⟩ : ∃ n, l.length = n := ⟨_, rfl⟩
  rw [hn] at hca hcella hC ⊢
  have Ha := Lib.hid hcella
  have Hok := Lib.hid (ActsK.get hok)
  have Hn := Lib.hid hn
  have HB0 := Lib.hid hB0
  have hBw := hB0.size
  have HO := Lib.hid hO
  have HP := Lib.hid hP
  have HG := Lib.hid hG
  have HXl := Lib.hid hO.xlt
  clear hcella hok hn hB0 hO hP hG
  go_enter Tryd.func23, Tryd.ntmps23
  go_wp2_with fail
  try go_frame
  go_loopg [4] n (fun k v4 wr => ∃ (i : Nat) (d1 : DiskD), v4 = .int .i64 ((i : Nat) : Int) ∧ i ≤ n ∧ k = n - i ∧ Steps ((l.take i).map (·.1.1)) d d1 ∧ One wr W0.heap.size X a d1 ∧ KeptX W0.heap.size X w wr)
  case atStart => exact ⟨0, d, rfl, Nat.zero_le _, rfl, .nil, HO.out, KeptX.of_below (Below.refl _ _) hBw HXl.out⟩
  case round =>
    obtain ⟨i, d1, rfl, hi, hk, hSt, hO1, hK1⟩ := hrel
    have HSt := Lib.hid hSt
    have HO1 := Lib.hid hO1
    have HK1 := Lib.hid hK1
    have Hk := Lib.hid hk
    clear hSt hO1 hK1 hk
    by_cases hlt : i < n
    case' neg =>
      have HE : Hid (l.take i = l) := by show _ = _; rw [List.take_of_length_le]; rw [Hn.out]; omega
      go_wp2_with fail
      go_returns
      exact ⟨rfl, d1, by rw [← HE.out]; exact HSt.out, HO1.out, HK1.out⟩
    obtain ⟨b, o, rfl, hb, hc⟩ := Ha.out.resolve_left (by omega)
    obtain ⟨⟨⟨what, fi⟩, ti, num⟩, hx⟩ : ∃ x : ActK, l.getD i noK = x := ⟨_, rfl⟩
    have hox := Hok.out i
    rw [hx] at hox
    obtain ⟨hw, hf, ht, hnm⟩ := hox
    dsimp only at hw hf ht hnm
    have HBr : Hid (Below W0.heap.size W0 wr) := HB0.out.trans HK1.out.1
    have dc : ∀ j, j < 4 → wr.cell? ⟨b, o + i * 4 + j, none⟩ = some (actK ((what, fi), (ti, num)) j) := fun j hj => (HBr.out.cell (p := ⟨b, o + i * 4 + j, none⟩) hb).trans (by rw [hc i j hlt hj, hx])
    have d0 : wr.cell? ⟨b, o + i * 4, none⟩ = some (.int .i64 what) := dc 0 (by decide)
    have d1' : wr.cell? ⟨b, o + i * 4 + 1, none⟩ = some (.int .i64 fi) := dc 1 (by decide)
    have d2 : wr.cell? ⟨b, o + i * 4 + 2, none⟩ = some (.int .i64 ti) := dc 2 (by decide)
    have d3 : wr.cell? ⟨b, o + i * 4 + 3, none⟩ = some (.int .i64 num) := dc 3 (by decide)
    have HTS : Hid ((l.take (i + 1)).map (·.1.1) = (l.take i).map (·.1.1) ++ [what]) := by
      show _ = _
      rw [take_snocK l (by rw [Hn.out]; exact hlt), hx]
    obtain ⟨w5, hw5⟩ : ∃ w5 : World, w5 = wr.alloc (.cells #[.int .i64 what, .int .i64 fi, .int .i64 ti, .int .i64 num] 58) := ⟨_, rfl⟩
    obtain ⟨b5, hb5⟩ : ∃ b5, wr.heap.size = b5 := ⟨_, rfl⟩
    have HO5 : Hid (One w5 W0.heap.size (b5 :: X) a d1) := by rw [hw5, ← hb5]; exact HO1.out.push _
    have HK5 : Hid (KeptX W0.heap.size X w w5) := by rw [hw5]; exact HK1.out.trans (KeptX.of_below ((Below.refl _ _).alloc (Nat.le_refl _) _) HBr.out.size HO1.out.xlt)
    have c50 : w5.cell? ⟨b5, 0, none⟩ = some (.int .i64 what) := by rw [hw5, ← hb5]; simp
    have c51 : w5.cell? ⟨b5, 1, none⟩ = some (.int .i64 fi) := by rw [hw5, ← hb5]; simp
    have c52 : w5.cell? ⟨b5, 2, none⟩ = some (.int .i64 ti) := by rw [hw5, ← hb5]; simp
    have c53 : w5.cell? ⟨b5, 3, none⟩ = some (.int .i64 num) := by rw [hw5, ← hb5]; simp
    have h5 : b5 < w5.heap.size := by rw [hw5, ← hb5]; simp
    have hB5 : W0.heap.size ≤ w5.heap.size := Nat.le_trans HBr.out.size (by rw [hw5]; simp)
    have Hw5 := Lib.hid hw5
    have Hb5 := Lib.hid hb5
    clear hw5 hx dc hc
    go_upto_region 4 with fail
    rw [← Hw5.out]
    clear Ha d0 d1' d2 d3
    go_cut [6, 7] (fun v6 v7 wx => v6 = .string (letterI fi) ∧ v7 = .string (letterI ti) ∧ Below w5.heap.size w5 wx)
    case first =>
      have p1 := pickI_lt fi (show 0 < 6 by decide)
      have p2 := pickI_lt ti (show 0 < 6 by decide)
      have HL1 : Hid (letterI fi = letX (pickI fi 6)) := rfl
      have HL2 : Hid (letterI ti = letX (pickI ti 6)) := rfl
      obtain ⟨x1, hx1⟩ : ∃ x, pickI fi 6 = x := ⟨_, rfl⟩
      obtain ⟨x2, hx2⟩ : ∃ x, pickI ti 6 = x := ⟨_, rfl⟩
      have P1 := Lib.hid (fun w => pick_calls fi 6 w hf (by decide))
      have P2 := Lib.hid (fun w => pick_calls ti 6 w ht (by decide))
      rw [hx1] at p1 HL1 P1
      rw [hx2] at p2 HL2 P2
      have q1 : IntKind.i64.wrap (97 + ((x1 : Nat) : Int)) = 97 + ((x1 : Nat) : Int) := by rw [IntKind.wrap_i64]; omega
      have q2 : IntKind.i64.wrap (97 + ((x2 : Nat) : Int)) = 97 + ((x2 : Nat) : Int) := by rw [IntKind.wrap_i64]; omega
      have r1 : IntKind.u8.wrap (97 + ((x1 : Nat) : Int)) = 97 + ((x1 : Nat) : Int) := by rw [IntKind.wrap_u8]; omega
      have r2 : IntKind.u8.wrap (97 + ((x2 : Nat) : Int)) = 97 + ((x2 : Nat) : Int) := by rw [IntKind.wrap_u8]; omega
      have HH : Hid (∀ w', Below w5.heap.size w5 w' → Below w5.heap.size w5 w' ∧ w'.cell? ⟨b5, 1, none⟩ = some (.int .i64 fi) ∧ w'.cell? ⟨b5, 2, none⟩ = some (.int .i64 ti)) := fun w' hb => ⟨hb, (hb.cell (p := ⟨b5, 1, none⟩) h5).trans c51, (hb.cell (p := ⟨b5, 2, none⟩) h5).trans c52⟩
      clear c50 c51 c52 c53 Hw5 HO5 HK5 Hb5 HTS
      refine wp_region_held_drew (S := (fun w' => Below w5.heap.size w5 w' ∧ w'.cell? ⟨b5, 1, none⟩ = some (.int .i64 fi) ∧ w'.cell? ⟨b5, 2, none⟩ = some (.int .i64 ti))) (by kernel_rfl) ?_ (fun hHeld => ?_)
      · exact HH.out _ (Below.refl _ _).drew
      obtain ⟨q0, hq0⟩ : ∃ wn, World.drew w5 = wn := ⟨_, rfl⟩
      rw [hq0] at hHeld ⊢
      have HBq0 : Hid (Below w5.heap.size w5 q0) := hHeld.1
      clear hq0
      refine wpAnyH_take (i := 0) (oi := _) (v := .pointer (some ⟨b5, 1, none⟩)) rfl (by kernel_rfl) (by kernel_rfl) (by kernel_rfl) (fun _ _ _ h => h) (Or.inl ⟨by kernel_rfl, fun w hSw => ?_⟩) hHeld ?_
      · (try dsimp only at hSw); go_simp
      try simp only [Act.put, List.getElem_toArray, List.getElem_cons_zero, List.setIfInBounds_toArray, List.set_cons_zero, List.set_cons_succ]
      refine wpAnyH_take (i := 1) (oi := _) (v := .int .i64 fi) rfl (by kernel_rfl) (by kernel_rfl) (by kernel_rfl) (fun _ _ _ h => h) (Or.inl ⟨by kernel_rfl, fun w hSw => ?_⟩) hHeld ?_
      · (try dsimp only at hSw); go_simp
      try simp only [Act.put, List.getElem_toArray, List.getElem_cons_succ, List.getElem_cons_zero, List.setIfInBounds_toArray, List.set_cons_zero, List.set_cons_succ]
      refine wpAnyH_take (i := 7) (oi := _) (v := .pointer (some ⟨b5, 2, none⟩)) rfl (by kernel_rfl) (by kernel_rfl) (by kernel_rfl) (fun _ _ _ h => h) (Or.inl ⟨by kernel_rfl, fun w hSw => ?_⟩) hHeld ?_
      · (try dsimp only at hSw); go_simp
      try simp only [Act.put, List.getElem_toArray, List.getElem_cons_succ, List.getElem_cons_zero, List.setIfInBounds_toArray, List.set_cons_zero, List.set_cons_succ]
      refine wpAnyH_take (i := 8) (oi := _) (v := .int .i64 ti) rfl (by kernel_rfl) (by kernel_rfl) (by kernel_rfl) (fun _ _ _ h => h) (Or.inl ⟨by kernel_rfl, fun w hSw => ?_⟩) hHeld ?_
      · (try dsimp only at hSw); go_simp
      try simp only [Act.put, List.getElem_toArray, List.getElem_cons_succ, List.getElem_cons_zero, List.setIfInBounds_toArray, List.set_cons_zero, List.set_cons_succ]
      refine wpAnyH_ready (rs := [2]) (by kernel_rfl) (by simp) ?_
      refine AllReadyH.cons (o := _) rfl (fun K hK => ?_) AllReadyH.nil
      go_simp
      go_at_call 27
      refine (P1.out _).mono ?_
      rintro e w' ⟨rfl, rfl⟩
      refine hK.out _ _ hHeld (fun hHeld2 => ?_)
      clear hK K hHeld
      have hHeld := hHeld2
      clear hHeld2
      try simp only [Act.put, List.getElem_toArray, List.getElem_cons_succ, List.getElem_cons_zero, List.setIfInBounds_toArray, List.set_cons_zero, List.set_cons_succ]
      refine wpAnyH_take (i := 3) (oi := _) (v := .int .i64 (97 + ((x1 : Nat) : Int))) rfl (by kernel_rfl) (by kernel_rfl) (by kernel_rfl) (fun _ _ _ h => h) (Or.inl ⟨by kernel_rfl, fun w hSw => ?_⟩) hHeld ?_
      · (try dsimp only at hSw); go_simp
      try simp only [Act.put, List.getElem_toArray, List.getElem_cons_succ, List.getElem_cons_zero, List.setIfInBounds_toArray, List.set_cons_zero, List.set_cons_succ]
      refine wpAnyH_take (i := 4) (oi := _) (v := .int .u8 (97 + ((x1 : Nat) : Int))) rfl (by kernel_rfl) (by kernel_rfl) (by kernel_rfl) (fun _ _ _ h => h) (Or.inl ⟨by kernel_rfl, fun w hSw => ?_⟩) hHeld ?_
      · (try dsimp only at hSw); go_simp
      try simp only [Act.put, List.getElem_toArray, List.getElem_cons_succ, List.getElem_cons_zero, List.setIfInBounds_toArray, List.set_cons_zero, List.set_cons_succ]
      refine wpAnyH_ready (rs := [5, 9]) (by kernel_rfl) (by simp) ?_
      refine AllReadyH.cons (o := _) rfl (fun K hK => ?_) (AllReadyH.cons (o := _) rfl (fun K hK => ?_) AllReadyH.nil)
      · go_simp
        obtain ⟨q1, hq1⟩ : ∃ wn, World.alloc q0 (.cells #[.int .u8 (97 + ((x1 : Nat) : Int))] 5) = wn := ⟨_, rfl⟩
        rw [hq1]
        have HBq1 : Hid (Below w5.heap.size w5 q1) := by rw [← hq1]; exact HBq0.out.alloc HBq0.out.size _
        have HCq1x5 : Hid (q1.cell? ⟨q0.heap.size, 0, none⟩ = some (.int .u8 (97 + ((x1 : Nat) : Int)))) := by show _ = _; rw [← hq1]; simp
        clear hq1
        refine hK.out _ _ (HH.out _ HBq1.out) (fun hHeld2 => ?_)
        clear hK K hHeld
        have hHeld := hHeld2
        clear hHeld2
        try simp only [Act.put, List.getElem_toArray, List.getElem_cons_succ, List.getElem_cons_zero, List.setIfInBounds_toArray, List.set_cons_zero, List.set_cons_succ]
        refine wpAnyH_ready (rs := [6, 9]) (by kernel_rfl) (by simp) ?_
        refine AllReadyH.cons (o := _) rfl (fun K hK => ?_) (AllReadyH.cons (o := _) rfl (fun K hK => ?_) AllReadyH.nil)
        · have kc := conv_letter x1 p1 q1 (q0.heap.size) HCq1x5.out
          go_simp
          refine hK.out _ _ hHeld (fun hHeld2 => ?_)
          clear kc
          clear hK K hHeld
          have hHeld := hHeld2
          clear hHeld2
          try simp only [Act.put, List.getElem_toArray, List.getElem_cons_succ, List.getElem_cons_zero, List.setIfInBounds_toArray, List.set_cons_zero, List.set_cons_succ]
          refine wpAnyH_ready (rs := [9]) (by kernel_rfl) (by simp) ?_
          refine AllReadyH.cons (o := _) rfl (fun K hK => ?_) AllReadyH.nil
          go_simp
          go_at_call 27
          refine (P2.out _).mono ?_
          rintro e w' ⟨rfl, rfl⟩
          refine hK.out _ _ hHeld (fun hHeld2 => ?_)
          clear hK K hHeld
          have hHeld := hHeld2
          clear hHeld2
          try simp only [Act.put, List.getElem_toArray, List.getElem_cons_succ, List.getElem_cons_zero, List.setIfInBounds_toArray, List.set_cons_zero, List.set_cons_succ]
          refine wpAnyH_take (i := 10) (oi := _) (v := .int .i64 (97 + ((x2 : Nat) : Int))) rfl (by kernel_rfl) (by kernel_rfl) (by kernel_rfl) (fun _ _ _ h => h) (Or.inl ⟨by kernel_rfl, fun w hSw => ?_⟩) hHeld ?_
          · (try dsimp only at hSw); go_simp
          try simp only [Act.put, List.getElem_toArray, List.getElem_cons_succ, List.getElem_cons_zero, List.setIfInBounds_toArray, List.set_cons_zero, List.set_cons_succ]
          refine wpAnyH_take (i := 11) (oi := _) (v := .int .u8 (97 + ((x2 : Nat) : Int))) rfl (by kernel_rfl) (by kernel_rfl) (by kernel_rfl) (fun _ _ _ h => h) (Or.inl ⟨by kernel_rfl, fun w hSw => ?_⟩) hHeld ?_
          · (try dsimp only at hSw); go_simp
          try simp only [Act.put, List.getElem_toArray, List.getElem_cons_succ, List.getElem_cons_zero, List.setIfInBounds_toArray, List.set_cons_zero, List.set_cons_succ]
          refine wpAnyH_take (i := 14) (oi := _) (v := .string (letX x1)) rfl (by kernel_rfl) (by kernel_rfl) (by kernel_rfl) (fun _ _ _ h => h) (Or.inl ⟨by kernel_rfl, fun w hSw => ?_⟩) hHeld ?_
          · (try dsimp only at hSw); go_simp
          try simp only [Act.put, List.getElem_toArray, List.getElem_cons_succ, List.getElem_cons_zero, List.setIfInBounds_toArray, List.set_cons_zero, List.set_cons_succ]
          refine wpAnyH_ready (rs := [12]) (by kernel_rfl) (by simp) ?_
          refine AllReadyH.cons (o := _) rfl (fun K hK => ?_) AllReadyH.nil
          go_simp
          obtain ⟨q2, hq2⟩ : ∃ wn, World.alloc q1 (.cells #[.int .u8 (97 + ((x2 : Nat) : Int))] 5) = wn := ⟨_, rfl⟩
          rw [hq2]
          have HBq2 : Hid (Below w5.heap.size w5 q2) := by rw [← hq2]; exact HBq1.out.alloc HBq1.out.size _
          have HCq2x12 : Hid (q2.cell? ⟨q1.heap.size, 0, none⟩ = some (.int .u8 (97 + ((x2 : Nat) : Int)))) := by show _ = _; rw [← hq2]; simp
          have HCq2x5 : Hid (q2.cell? ⟨q0.heap.size, 0, none⟩ = some (.int .u8 (97 + ((x1 : Nat) : Int)))) := by show _ = _; rw [← hq2, World.cell?_alloc_lt _ _ _ (World.block_lt_of_cell? _ _ HCq1x5.out)]; exact HCq1x5.out
          clear hq2
          refine hK.out _ _ (HH.out _ HBq2.out) (fun hHeld2 => ?_)
          clear hK K hHeld
          have hHeld := hHeld2
          clear hHeld2
          try simp only [Act.put, List.getElem_toArray, List.getElem_cons_succ, List.getElem_cons_zero, List.setIfInBounds_toArray, List.set_cons_zero, List.set_cons_succ]
          refine wpAnyH_ready (rs := [13]) (by kernel_rfl) (by simp) ?_
          refine AllReadyH.cons (o := _) rfl (fun K hK => ?_) AllReadyH.nil
          have kc := conv_letter x2 p2 q2 (q1.heap.size) HCq2x12.out
          go_simp
          refine hK.out _ _ hHeld (fun hHeld2 => ?_)
          clear kc
          clear hK K hHeld
          have hHeld := hHeld2
          clear hHeld2
          try simp only [Act.put, List.getElem_toArray, List.getElem_cons_succ, List.getElem_cons_zero, List.setIfInBounds_toArray, List.set_cons_zero, List.set_cons_succ]
          refine wpAnyH_take (i := 15) (oi := _) (v := .string (letX x2)) rfl (by kernel_rfl) (by kernel_rfl) (by kernel_rfl) (fun _ _ _ h => h) (Or.inl ⟨by kernel_rfl, fun w hSw => ?_⟩) hHeld ?_
          · (try dsimp only at hSw); go_simp
          try simp only [Act.put, List.getElem_toArray, List.getElem_cons_succ, List.getElem_cons_zero, List.setIfInBounds_toArray, List.set_cons_zero, List.set_cons_succ]
          refine wpAnyH_done (by kernel_rfl) ?_ _
          go_wp2_with fail
          go_meet
          case rel => exact ⟨by rw [HL1.out], by rw [HL2.out], HBq2.out⟩
        · go_simp
          go_at_call 27
          refine (P2.out _).mono ?_
          rintro e w' ⟨rfl, rfl⟩
          refine hK.out _ _ hHeld (fun hHeld2 => ?_)
          clear hK K hHeld
          have hHeld := hHeld2
          clear hHeld2
          try simp only [Act.put, List.getElem_toArray, List.getElem_cons_succ, List.getElem_cons_zero, List.setIfInBounds_toArray, List.set_cons_zero, List.set_cons_succ]
          refine wpAnyH_take (i := 10) (oi := _) (v := .int .i64 (97 + ((x2 : Nat) : Int))) rfl (by kernel_rfl) (by kernel_rfl) (by kernel_rfl) (fun _ _ _ h => h) (Or.inl ⟨by kernel_rfl, fun w hSw => ?_⟩) hHeld ?_
          · (try dsimp only at hSw); go_simp
          try simp only [Act.put, List.getElem_toArray, List.getElem_cons_succ, List.getElem_cons_zero, List.setIfInBounds_toArray, List.set_cons_zero, List.set_cons_succ]
          refine wpAnyH_take (i := 11) (oi := _) (v := .int .u8 (97 + ((x2 : Nat) : Int))) rfl (by kernel_rfl) (by kernel_rfl) (by kernel_rfl) (fun _ _ _ h => h) (Or.inl ⟨by kernel_rfl, fun w hSw => ?_⟩) hHeld ?_
          · (try dsimp only at hSw); go_simp
          try simp only [Act.put, List.getElem_toArray, List.getElem_cons_succ, List.getElem_cons_zero, List.setIfInBounds_toArray, List.set_cons_zero, List.set_cons_succ]
          refine wpAnyH_ready (rs := [6, 12]) (by kernel_rfl) (by simp) ?_
          refine AllReadyH.cons (o := _) rfl (fun K hK => ?_) (AllReadyH.cons (o := _) rfl (fun K hK => ?_) AllReadyH.nil)
          · have kc := conv_letter x1 p1 q1 (q0.heap.size) HCq1x5.out
            go_simp
            refine hK.out _ _ hHeld (fun hHeld2 => ?_)
            clear kc
            clear hK K hHeld
            have hHeld := hHeld2
            clear hHeld2
            try simp only [Act.put, List.getElem_toArray, List.getElem_cons_succ, List.getElem_cons_zero, List.setIfInBounds_toArray, List.set_cons_zero, List.set_cons_succ]
            refine wpAnyH_take (i := 14) (oi := _) (v := .string (letX x1)) rfl (by kernel_rfl) (by kernel_rfl) (by kernel_rfl) (fun _ _ _ h => h) (Or.inl ⟨by kernel_rfl, fun w hSw => ?_⟩) hHeld ?_
            · (try dsimp only at hSw); go_simp
            try simp only [Act.put, List.getElem_toArray, List.getElem_cons_succ, List.getElem_cons_zero, List.setIfInBounds_toArray, List.set_cons_zero, List.set_cons_succ]
            refine wpAnyH_ready (rs := [12]) (by kernel_rfl) (by simp) ?_
            refine AllReadyH.cons (o := _) rfl (fun K hK => ?_) AllReadyH.nil
            go_simp
            obtain ⟨q3, hq3⟩ : ∃ wn, World.alloc q1 (.cells #[.int .u8 (97 + ((x2 : Nat) : Int))] 5) = wn := ⟨_, rfl⟩
            rw [hq3]
            have HBq3 : Hid (Below w5.heap.size w5 q3) := by rw [← hq3]; exact HBq1.out.alloc HBq1.out.size _
            have HCq3x12 : Hid (q3.cell? ⟨q1.heap.size, 0, none⟩ = some (.int .u8 (97 + ((x2 : Nat) : Int)))) := by show _ = _; rw [← hq3]; simp
            have HCq3x5 : Hid (q3.cell? ⟨q0.heap.size, 0, none⟩ = some (.int .u8 (97 + ((x1 : Nat) : Int)))) := by show _ = _; rw [← hq3, World.cell?_alloc_lt _ _ _ (World.block_lt_of_cell? _ _ HCq1x5.out)]; exact HCq1x5.out
            clear hq3
            refine hK.out _ _ (HH.out _ HBq3.out) (fun hHeld2 => ?_)
            clear hK K hHeld
            have hHeld := hHeld2
            clear hHeld2
            try simp only [Act.put, List.getElem_toArray, List.getElem_cons_succ, List.getElem_cons_zero, List.setIfInBounds_toArray, List.set_cons_zero, List.set_cons_succ]
            refine wpAnyH_ready (rs := [13]) (by kernel_rfl) (by simp) ?_
            refine AllReadyH.cons (o := _) rfl (fun K hK => ?_) AllReadyH.nil
            have kc := conv_letter x2 p2 q3 (q1.heap.size) HCq3x12.out
            go_simp
            refine hK.out _ _ hHeld (fun hHeld2 => ?_)
            clear kc
            clear hK K hHeld
            have hHeld := hHeld2
            clear hHeld2
            try simp only [Act.put, List.getElem_toArray, List.getElem_cons_succ, List.getElem_cons_zero, List.setIfInBounds_toArray, List.set_cons_zero, List.set_cons_succ]
            refine wpAnyH_take (i := 15) (oi := _) (v := .string (letX x2)) rfl (by kernel_rfl) (by kernel_rfl) (by kernel_rfl) (fun _ _ _ h => h) (Or.inl ⟨by kernel_rfl, fun w hSw => ?_⟩) hHeld ?_
            · (try dsimp only at hSw); go_simp
            try simp only [Act.put, List.getElem_toArray, List.getElem_cons_succ, List.getElem_cons_zero, List.setIfInBounds_toArray, List.set_cons_zero, List.set_cons_succ]
            refine wpAnyH_done (by kernel_rfl) ?_ _
            go_wp2_with fail
            go_meet
            case rel => exact ⟨by rw [HL1.out], by rw [HL2.out], HBq3.out⟩
          · go_simp
            obtain ⟨q4, hq4⟩ : ∃ wn, World.alloc q1 (.cells #[.int .u8 (97 + ((x2 : Nat) : Int))] 5) = wn := ⟨_, rfl⟩
            rw [hq4]
            have HBq4 : Hid (Below w5.heap.size w5 q4) := by rw [← hq4]; exact HBq1.out.alloc HBq1.out.size _
            have HCq4x12 : Hid (q4.cell? ⟨q1.heap.size, 0, none⟩ = some (.int .u8 (97 + ((x2 : Nat) : Int)))) := by show _ = _; rw [← hq4]; simp
            have HCq4x5 : Hid (q4.cell? ⟨q0.heap.size, 0, none⟩ = some (.int .u8 (97 + ((x1 : Nat) : Int)))) := by show _ = _; rw [← hq4, World.cell?_alloc_lt _ _ _ (World.block_lt_of_cell? _ _ HCq1x5.out)]; exact HCq1x5.out
            clear hq4
            refine hK.out _ _ (HH.out _ HBq4.out) (fun hHeld2 => ?_)
            clear hK K hHeld
            have hHeld := hHeld2
            clear hHeld2
            try simp only [Act.put, List.getElem_toArray, List.getElem_cons_succ, List.getElem_cons_zero, List.setIfInBounds_toArray, List.set_cons_zero, List.set_cons_succ]
            refine wpAnyH_ready (rs := [6, 13]) (by kernel_rfl) (by simp) ?_
            refine AllReadyH.cons (o := _) rfl (fun K hK => ?_) (AllReadyH.cons (o := _) rfl (fun K hK => ?_) AllReadyH.nil)
            · have kc := conv_letter x1 p1 q4 (q0.heap.size) HCq4x5.out
              go_simp
              refine hK.out _ _ hHeld (fun hHeld2 => ?_)
              clear kc
              clear hK K hHeld
              have hHeld := hHeld2
              clear hHeld2
              try simp only [Act.put, List.getElem_toArray, List.getElem_cons_succ, List.getElem_cons_zero, List.setIfInBounds_toArray, List.set_cons_zero, List.set_cons_succ]
              refine wpAnyH_take (i := 14) (oi := _) (v := .string (letX x1)) rfl (by kernel_rfl) (by kernel_rfl) (by kernel_rfl) (fun _ _ _ h => h) (Or.inl ⟨by kernel_rfl, fun w hSw => ?_⟩) hHeld ?_
              · (try dsimp only at hSw); go_simp
              try simp only [Act.put, List.getElem_toArray, List.getElem_cons_succ, List.getElem_cons_zero, List.setIfInBounds_toArray, List.set_cons_zero, List.set_cons_succ]
              refine wpAnyH_ready (rs := [13]) (by kernel_rfl) (by simp) ?_
              refine AllReadyH.cons (o := _) rfl (fun K hK => ?_) AllReadyH.nil
              have kc := conv_letter x2 p2 q4 (q1.heap.size) HCq4x12.out
              go_simp
              refine hK.out _ _ hHeld (fun hHeld2 => ?_)
              clear kc
              clear hK K hHeld
              have hHeld := hHeld2
              clear hHeld2
              try simp only [Act.put, List.getElem_toArray, List.getElem_cons_succ, List.getElem_cons_zero, List.setIfInBounds_toArray, List.set_cons_zero, List.set_cons_succ]
              refine wpAnyH_take (i := 15) (oi := _) (v := .string (letX x2)) rfl (by kernel_rfl) (by kernel_rfl) (by kernel_rfl) (fun _ _ _ h => h) (Or.inl ⟨by kernel_rfl, fun w hSw => ?_⟩) hHeld ?_
              · (try dsimp only at hSw); go_simp
              try simp only [Act.put, List.getElem_toArray, List.getElem_cons_succ, List.getElem_cons_zero, List.setIfInBounds_toArray, List.set_cons_zero, List.set_cons_succ]
              refine wpAnyH_done (by kernel_rfl) ?_ _
              go_wp2_with fail
              go_meet
              case rel => exact ⟨by rw [HL1.out], by rw [HL2.out], HBq4.out⟩
            · have kc := conv_letter x2 p2 q4 (q1.heap.size) HCq4x12.out
              go_simp
              refine hK.out _ _ hHeld (fun hHeld2 => ?_)
              clear kc
              clear hK K hHeld
              have hHeld := hHeld2
              clear hHeld2
              try simp only [Act.put, List.getElem_toArray, List.getElem_cons_succ, List.getElem_cons_zero, List.setIfInBounds_toArray, List.set_cons_zero, List.set_cons_succ]
              refine wpAnyH_ready (rs := [6]) (by kernel_rfl) (by simp) ?_
              refine AllReadyH.cons (o := _) rfl (fun K hK => ?_) AllReadyH.nil
              have kc := conv_letter x1 p1 q4 (q0.heap.size) HCq4x5.out
              go_simp
              refine hK.out _ _ hHeld (fun hHeld2 => ?_)
              clear kc
              clear hK K hHeld
              have hHeld := hHeld2
              clear hHeld2
              try simp only [Act.put, List.getElem_toArray, List.getElem_cons_succ, List.getElem_cons_zero, List.setIfInBounds_toArray, List.set_cons_zero, List.set_cons_succ]
              refine wpAnyH_take (i := 14) (oi := _) (v := .string (letX x1)) rfl (by kernel_rfl) (by kernel_rfl) (by kernel_rfl) (fun _ _ _ h => h) (Or.inl ⟨by kernel_rfl, fun w hSw => ?_⟩) hHeld ?_
              · (try dsimp only at hSw); go_simp
              try simp only [Act.put, List.getElem_toArray, List.getElem_cons_succ, List.getElem_cons_zero, List.setIfInBounds_toArray, List.set_cons_zero, List.set_cons_succ]
              refine wpAnyH_take (i := 15) (oi := _) (v := .string (letX x2)) rfl (by kernel_rfl) (by kernel_rfl) (by kernel_rfl) (fun _ _ _ h => h) (Or.inl ⟨by kernel_rfl, fun w hSw => ?_⟩) hHeld ?_
              · (try dsimp only at hSw); go_simp
              try simp only [Act.put, List.getElem_toArray, List.getElem_cons_succ, List.getElem_cons_zero, List.setIfInBounds_toArray, List.set_cons_zero, List.set_cons_succ]
              refine wpAnyH_done (by kernel_rfl) ?_ _
              go_wp2_with fail
              go_meet
              case rel => exact ⟨by rw [HL1.out], by rw [HL2.out], HBq4.out⟩
      · go_simp
        go_at_call 27
        refine (P2.out _).mono ?_
        rintro e w' ⟨rfl, rfl⟩
        refine hK.out _ _ hHeld (fun hHeld2 => ?_)
        clear hK K hHeld
        have hHeld := hHeld2
        clear hHeld2
        try simp only [Act.put, List.getElem_toArray, List.getElem_cons_succ, List.getElem_cons_zero, List.setIfInBounds_toArray, List.set_cons_zero, List.set_cons_succ]
        refine wpAnyH_take (i := 10) (oi := _) (v := .int .i64 (97 + ((x2 : Nat) : Int))) rfl (by kernel_rfl) (by kernel_rfl) (by kernel_rfl) (fun _ _ _ h => h) (Or.inl ⟨by kernel_rfl, fun w hSw => ?_⟩) hHeld ?_
        · (try dsimp only at hSw); go_simp
        try simp only [Act.put, List.getElem_toArray, List.getElem_cons_succ, List.getElem_cons_zero, List.setIfInBounds_toArray, List.set_cons_zero, List.set_cons_succ]
        refine wpAnyH_take (i := 11) (oi := _) (v := .int .u8 (97 + ((x2 : Nat) : Int))) rfl (by kernel_rfl) (by kernel_rfl) (by kernel_rfl) (fun _ _ _ h => h) (Or.inl ⟨by kernel_rfl, fun w hSw => ?_⟩) hHeld ?_
        · (try dsimp only at hSw); go_simp
        try simp only [Act.put, List.getElem_toArray, List.getElem_cons_succ, List.getElem_cons_zero, List.setIfInBounds_toArray, List.set_cons_zero, List.set_cons_succ]
        refine wpAnyH_ready (rs := [5, 12]) (by kernel_rfl) (by simp) ?_
        refine AllReadyH.cons (o := _) rfl (fun K hK => ?_) (AllReadyH.cons (o := _) rfl (fun K hK => ?_) AllReadyH.nil)
        · go_simp
          obtain ⟨q5, hq5⟩ : ∃ wn, World.alloc q0 (.cells #[.int .u8 (97 + ((x1 : Nat) : Int))] 5) = wn := ⟨_, rfl⟩
          rw [hq5]
          have HBq5 : Hid (Below w5.heap.size w5 q5) := by rw [← hq5]; exact HBq0.out.alloc HBq0.out.size _
          have HCq5x5 : Hid (q5.cell? ⟨q0.heap.size, 0, none⟩ = some (.int .u8 (97 + ((x1 : Nat) : Int)))) := by show _ = _; rw [← hq5]; simp
          clear hq5
          refine hK.out _ _ (HH.out _ HBq5.out) (fun hHeld2 => ?_)
          clear hK K hHeld
          have hHeld := hHeld2
          clear hHeld2
          try simp only [Act.put, List.getElem_toArray, List.getElem_cons_succ, List.getElem_cons_zero, List.setIfInBounds_toArray, List.set_cons_zero, List.set_cons_succ]
          refine wpAnyH_ready (rs := [6, 12]) (by kernel_rfl) (by simp) ?_
          refine AllReadyH.cons (o := _) rfl (fun K hK => ?_) (AllReadyH.cons (o := _) rfl (fun K hK => ?_) AllReadyH.nil)
          · have kc := conv_letter x1 p1 q5 (q0.heap.size) HCq5x5.out
            go_simp
            refine hK.out _ _ hHeld (fun hHeld2 => ?_)
            clear kc
            clear hK K hHeld
            have hHeld := hHeld2
            clear hHeld2
            try simp only [Act.put, List.getElem_toArray, List.getElem_cons_succ, List.getElem_cons_zero, List.setIfInBounds_toArray, List.set_cons_zero, List.set_cons_succ]
            refine wpAnyH_take (i := 14) (oi := _) (v := .string (letX x1)) rfl (by kernel_rfl) (by kernel_rfl) (by kernel_rfl) (fun _ _ _ h => h) (Or.inl ⟨by kernel_rfl, fun w hSw => ?_⟩) hHeld ?_
            · (try dsimp only at hSw); go_simp
            try simp only [Act.put, List.getElem_toArray, List.getElem_cons_succ, List.getElem_cons_zero, List.setIfInBounds_toArray, List.set_cons_zero, List.set_cons_succ]
            refine wpAnyH_ready (rs := [12]) (by kernel_rfl) (by simp) ?_
            refine AllReadyH.cons (o := _) rfl (fun K hK => ?_) AllReadyH.nil
            go_simp
            obtain ⟨q6, hq6⟩ : ∃ wn, World.alloc q5 (.cells #[.int .u8 (97 + ((x2 : Nat) : Int))] 5) = wn := ⟨_, rfl⟩
            rw [hq6]
            have HBq6 : Hid (Below w5.heap.size w5 q6) := by rw [← hq6]; exact HBq5.out.alloc HBq5.out.size _
            have HCq6x12 : Hid (q6.cell? ⟨q5.heap.size, 0, none⟩ = some (.int .u8 (97 + ((x2 : Nat) : Int)))) := by show _ = _; rw [← hq6]; simp
            have HCq6x5 : Hid (q6.cell? ⟨q0.heap.size, 0, none⟩ = some (.int .u8 (97 + ((x1 : Nat) : Int)))) := by show _ = _; rw [← hq6, World.cell?_alloc_lt _ _ _ (World.block_lt_of_cell? _ _ HCq5x5.out)]; exact HCq5x5.out
            clear hq6
            refine hK.out _ _ (HH.out _ HBq6.out) (fun hHeld2 => ?_)
            clear hK K hHeld
            have hHeld := hHeld2
            clear hHeld2
            try simp only [Act.put, List.getElem_toArray, List.getElem_cons_succ, List.getElem_cons_zero, List.setIfInBounds_toArray, List.set_cons_zero, List.set_cons_succ]
            refine wpAnyH_ready (rs := [13]) (by kernel_rfl) (by simp) ?_
            refine AllReadyH.cons (o := _) rfl (fun K hK => ?_) AllReadyH.nil
            have kc := conv_letter x2 p2 q6 (q5.heap.size) HCq6x12.out
            go_simp
            refine hK.out _ _ hHeld (fun hHeld2 => ?_)
            clear kc
            clear hK K hHeld
            have hHeld := hHeld2
            clear hHeld2
            try simp only [Act.put, List.getElem_toArray, List.getElem_cons_succ, List.getElem_cons_zero, List.setIfInBounds_toArray, List.set_cons_zero, List.set_cons_succ]
            refine wpAnyH_take (i := 15) (oi := _) (v := .string (letX x2)) rfl (by kernel_rfl) (by kernel_rfl) (by kernel_rfl) (fun _ _ _ h => h) (Or.inl ⟨by kernel_rfl, fun w hSw => ?_⟩) hHeld ?_
            · (try dsimp only at hSw); go_simp
            try simp only [Act.put, List.getElem_toArray, List.getElem_cons_succ, List.getElem_cons_zero, List.setIfInBounds_toArray, List.set_cons_zero, List.set_cons_succ]
            refine wpAnyH_done (by kernel_rfl) ?_ _
            go_wp2_with fail
            go_meet
            case rel => exact ⟨by rw [HL1.out], by rw [HL2.out], HBq6.out⟩
          · go_simp
            obtain ⟨q7, hq7⟩ : ∃ wn, World.alloc q5 (.cells #[.int .u8 (97 + ((x2 : Nat) : Int))] 5) = wn := ⟨_, rfl⟩
            rw [hq7]
            have HBq7 : Hid (Below w5.heap.size w5 q7) := by rw [← hq7]; exact HBq5.out.alloc HBq5.out.size _
            have HCq7x12 : Hid (q7.cell? ⟨q5.heap.size, 0, none⟩ = some (.int .u8 (97 + ((x2 : Nat) : Int)))) := by show _ = _; rw [← hq7]; simp
            have HCq7x5 : Hid (q7.cell? ⟨q0.heap.size, 0, none⟩ = some (.int .u8 (97 + ((x1 : Nat) : Int)))) := by show _ = _; rw [← hq7, World.cell?_alloc_lt _ _ _ (World.block_lt_of_cell? _ _ HCq5x5.out)]; exact HCq5x5.out
            clear hq7
            refine hK.out _ _ (HH.out _ HBq7.out) (fun hHeld2 => ?_)
            clear hK K hHeld
            have hHeld := hHeld2
            clear hHeld2
            try simp only [Act.put, List.getElem_toArray, List.getElem_cons_succ, List.getElem_cons_zero, List.setIfInBounds_toArray, List.set_cons_zero, List.set_cons_succ]
            refine wpAnyH_ready (rs := [6, 13]) (by kernel_rfl) (by simp) ?_
            refine AllReadyH.cons (o := _) rfl (fun K hK => ?_) (AllReadyH.cons (o := _) rfl (fun K hK => ?_) AllReadyH.nil)
            · have kc := conv_letter x1 p1 q7 (q0.heap.size) HCq7x5.out
              go_simp
              refine hK.out _ _ hHeld (fun hHeld2 => ?_)
              clear kc
              clear hK K hHeld
              have hHeld := hHeld2
              clear hHeld2
              try simp only [Act.put, List.getElem_toArray, List.getElem_cons_succ, List.getElem_cons_zero, List.setIfInBounds_toArray, List.set_cons_zero, List.set_cons_succ]
              refine wpAnyH_take (i := 14) (oi := _) (v := .string (letX x1)) rfl (by kernel_rfl) (by kernel_rfl) (by kernel_rfl) (fun _ _ _ h => h) (Or.inl ⟨by kernel_rfl, fun w hSw => ?_⟩) hHeld ?_
              · (try dsimp only at hSw); go_simp
              try simp only [Act.put, List.getElem_toArray, List.getElem_cons_succ, List.getElem_cons_zero, List.setIfInBounds_toArray, List.set_cons_zero, List.set_cons_succ]
              refine wpAnyH_ready (rs := [13]) (by kernel_rfl) (by simp) ?_
              refine AllReadyH.cons (o := _) rfl (fun K hK => ?_) AllReadyH.nil
              have kc := conv_letter x2 p2 q7 (q5.heap.size) HCq7x12.out
              go_simp
              refine hK.out _ _ hHeld (fun hHeld2 => ?_)
              clear kc
              clear hK K hHeld
              have hHeld := hHeld2
              clear hHeld2
              try simp only [Act.put, List.getElem_toArray, List.getElem_cons_succ, List.getElem_cons_zero, List.setIfInBounds_toArray, List.set_cons_zero, List.set_cons_succ]
              refine wpAnyH_take (i := 15) (oi := _) (v := .string (letX x2)) rfl (by kernel_rfl) (by kernel_rfl) (by kernel_rfl) (fun _ _ _ h => h) (Or.inl ⟨by kernel_rfl, fun w hSw => ?_⟩) hHeld ?_
              · (try dsimp only at hSw); go_simp
              try simp only [Act.put, List.getElem_toArray, List.getElem_cons_succ, List.getElem_cons_zero, List.setIfInBounds_toArray, List.set_cons_zero, List.set_cons_succ]
              refine wpAnyH_done (by kernel_rfl) ?_ _
              go_wp2_with fail
              go_meet
              case rel => exact ⟨by rw [HL1.out], by rw [HL2.out], HBq7.out⟩
            · have kc := conv_letter x2 p2 q7 (q5.heap.size) HCq7x12.out
              go_simp
              refine hK.out _ _ hHeld (fun hHeld2 => ?_)
              clear kc
              clear hK K hHeld
              have hHeld := hHeld2
              clear hHeld2
              try simp only [Act.put, List.getElem_toArray, List.getElem_cons_succ, List.getElem_cons_zero, List.setIfInBounds_toArray, List.set_cons_zero, List.set_cons_succ]
              refine wpAnyH_ready (rs := [6]) (by kernel_rfl) (by simp) ?_
              refine AllReadyH.cons (o := _) rfl (fun K hK => ?_) AllReadyH.nil
              have kc := conv_letter x1 p1 q7 (q0.heap.size) HCq7x5.out
              go_simp
              refine hK.out _ _ hHeld (fun hHeld2 => ?_)
              clear kc
              clear hK K hHeld
              have hHeld := hHeld2
              clear hHeld2
              try simp only [Act.put, List.getElem_toArray, List.getElem_cons_succ, List.getElem_cons_zero, List.setIfInBounds_toArray, List.set_cons_zero, List.set_cons_succ]
              refine wpAnyH_take (i := 14) (oi := _) (v := .string (letX x1)) rfl (by kernel_rfl) (by kernel_rfl) (by kernel_rfl) (fun _ _ _ h => h) (Or.inl ⟨by kernel_rfl, fun w hSw => ?_⟩) hHeld ?_
              · (try dsimp only at hSw); go_simp
              try simp only [Act.put, List.getElem_toArray, List.getElem_cons_succ, List.getElem_cons_zero, List.setIfInBounds_toArray, List.set_cons_zero, List.set_cons_succ]
              refine wpAnyH_take (i := 15) (oi := _) (v := .string (letX x2)) rfl (by kernel_rfl) (by kernel_rfl) (by kernel_rfl) (fun _ _ _ h => h) (Or.inl ⟨by kernel_rfl, fun w hSw => ?_⟩) hHeld ?_
              · (try dsimp only at hSw); go_simp
              try simp only [Act.put, List.getElem_toArray, List.getElem_cons_succ, List.getElem_cons_zero, List.setIfInBounds_toArray, List.set_cons_zero, List.set_cons_succ]
              refine wpAnyH_done (by kernel_rfl) ?_ _
              go_wp2_with fail
              go_meet
              case rel => exact ⟨by rw [HL1.out], by rw [HL2.out], HBq7.out⟩
        · go_simp
          obtain ⟨q8, hq8⟩ : ∃ wn, World.alloc q0 (.cells #[.int .u8 (97 + ((x2 : Nat) : Int))] 5) = wn := ⟨_, rfl⟩
          rw [hq8]
          have HBq8 : Hid (Below w5.heap.size w5 q8) := by rw [← hq8]; exact HBq0.out.alloc HBq0.out.size _
          have HCq8x12 : Hid (q8.cell? ⟨q0.heap.size, 0, none⟩ = some (.int .u8 (97 + ((x2 : Nat) : Int)))) := by show _ = _; rw [← hq8]; simp
          clear hq8
          refine hK.out _ _ (HH.out _ HBq8.out) (fun hHeld2 => ?_)
          clear hK K hHeld
          have hHeld := hHeld2
          clear hHeld2
          try simp only [Act.put, List.getElem_toArray, List.getElem_cons_succ, List.getElem_cons_zero, List.setIfInBounds_toArray, List.set_cons_zero, List.set_cons_succ]
          refine wpAnyH_ready (rs := [5, 13]) (by kernel_rfl) (by simp) ?_
          refine AllReadyH.cons (o := _) rfl (fun K hK => ?_) (AllReadyH.cons (o := _) rfl (fun K hK => ?_) AllReadyH.nil)
          · go_simp
            obtain ⟨q9, hq9⟩ : ∃ wn, World.alloc q8 (.cells #[.int .u8 (97 + ((x1 : Nat) : Int))] 5) = wn := ⟨_, rfl⟩
            rw [hq9]
            have HBq9 : Hid (Below w5.heap.size w5 q9) := by rw [← hq9]; exact HBq8.out.alloc HBq8.out.size _
            have HCq9x5 : Hid (q9.cell? ⟨q8.heap.size, 0, none⟩ = some (.int .u8 (97 + ((x1 : Nat) : Int)))) := by show _ = _; rw [← hq9]; simp
            have HCq9x12 : Hid (q9.cell? ⟨q0.heap.size, 0, none⟩ = some (.int .u8 (97 + ((x2 : Nat) : Int)))) := by show _ = _; rw [← hq9, World.cell?_alloc_lt _ _ _ (World.block_lt_of_cell? _ _ HCq8x12.out)]; exact HCq8x12.out
            clear hq9
            refine hK.out _ _ (HH.out _ HBq9.out) (fun hHeld2 => ?_)
            clear hK K hHeld
            have hHeld := hHeld2
            clear hHeld2
            try simp only [Act.put, List.getElem_toArray, List.getElem_cons_succ, List.getElem_cons_zero, List.setIfInBounds_toArray, List.set_cons_zero, List.set_cons_succ]
            refine wpAnyH_ready (rs := [6, 13]) (by kernel_rfl) (by simp) ?_
            refine AllReadyH.cons (o := _) rfl (fun K hK => ?_) (AllReadyH.cons (o := _) rfl (fun K hK => ?_) AllReadyH.nil)
            · have kc := conv_letter x1 p1 q9 (q8.heap.size) HCq9x5.out
              go_simp
              refine hK.out _ _ hHeld (fun hHeld2 => ?_)
              clear kc
              clear hK K hHeld
              have hHeld := hHeld2
              clear hHeld2
              try simp only [Act.put, List.getElem_toArray, List.getElem_cons_succ, List.getElem_cons_zero, List.setIfInBounds_toArray, List.set_cons_zero, List.set_cons_succ]
              refine wpAnyH_take (i := 14) (oi := _) (v := .string (letX x1)) rfl (by kernel_rfl) (by kernel_rfl) (by kernel_rfl) (fun _ _ _ h => h) (Or.inl ⟨by kernel_rfl, fun w hSw => ?_⟩) hHeld ?_
              · (try dsimp only at hSw); go_simp
              try simp only [Act.put, List.getElem_toArray, List.getElem_cons_succ, List.getElem_cons_zero, List.setIfInBounds_toArray, List.set_cons_zero, List.set_cons_succ]
              refine wpAnyH_ready (rs := [13]) (by kernel_rfl) (by simp) ?_
              refine AllReadyH.cons (o := _) rfl (fun K hK => ?_) AllReadyH.nil
              have kc := conv_letter x2 p2 q9 (q0.heap.size) HCq9x12.out
              go_simp
              refine hK.out _ _ hHeld (fun hHeld2 => ?_)
              clear kc
              clear hK K hHeld
              have hHeld := hHeld2
              clear hHeld2
              try simp only [Act.put, List.getElem_toArray, List.getElem_cons_succ, List.getElem_cons_zero, List.setIfInBounds_toArray, List.set_cons_zero, List.set_cons_succ]
              refine wpAnyH_take (i := 15) (oi := _) (v := .string (letX x2)) rfl (by kernel_rfl) (by kernel_rfl) (by kernel_rfl) (fun _ _ _ h => h) (Or.inl ⟨by kernel_rfl, fun w hSw => ?_⟩) hHeld ?_
              · (try dsimp only at hSw); go_simp
              try simp only [Act.put, List.getElem_toArray, List.getElem_cons_succ, List.getElem_cons_zero, List.setIfInBounds_toArray, List.set_cons_zero, List.set_cons_succ]
              refine wpAnyH_done (by kernel_rfl) ?_ _
              go_wp2_with fail
              go_meet
              case rel => exact ⟨by rw [HL1.out], by rw [HL2.out], HBq9.out⟩
            · have kc := conv_letter x2 p2 q9 (q0.heap.size) HCq9x12.out
              go_simp
              refine hK.out _ _ hHeld (fun hHeld2 => ?_)
              clear kc
              clear hK K hHeld
              have hHeld := hHeld2
              clear hHeld2
              try simp only [Act.put, List.getElem_toArray, List.getElem_cons_succ, List.getElem_cons_zero, List.setIfInBounds_toArray, List.set_cons_zero, List.set_cons_succ]
              refine wpAnyH_ready (rs := [6]) (by kernel_rfl) (by simp) ?_
              refine AllReadyH.cons (o := _) rfl (fun K hK => ?_) AllReadyH.nil
              have kc := conv_letter x1 p1 q9 (q8.heap.size) HCq9x5.out
              go_simp
              refine hK.out _ _ hHeld (fun hHeld2 => ?_)
              clear kc
              clear hK K hHeld
              have hHeld := hHeld2
              clear hHeld2
              try simp only [Act.put, List.getElem_toArray, List.getElem_cons_succ, List.getElem_cons_zero, List.setIfInBounds_toArray, List.set_cons_zero, List.set_cons_succ]
              refine wpAnyH_take (i := 14) (oi := _) (v := .string (letX x1)) rfl (by kernel_rfl) (by kernel_rfl) (by kernel_rfl) (fun _ _ _ h => h) (Or.inl ⟨by kernel_rfl, fun w hSw => ?_⟩) hHeld ?_
              · (try dsimp only at hSw); go_simp
              try simp only [Act.put, List.getElem_toArray, List.getElem_cons_succ, List.getElem_cons_zero, List.setIfInBounds_toArray, List.set_cons_zero, List.set_cons_succ]
              refine wpAnyH_take (i := 15) (oi := _) (v := .string (letX x2)) rfl (by kernel_rfl) (by kernel_rfl) (by kernel_rfl) (fun _ _ _ h => h) (Or.inl ⟨by kernel_rfl, fun w hSw => ?_⟩) hHeld ?_
              · (try dsimp only at hSw); go_simp
              try simp only [Act.put, List.getElem_toArray, List.getElem_cons_succ, List.getElem_cons_zero, List.setIfInBounds_toArray, List.set_cons_zero, List.set_cons_succ]
              refine wpAnyH_done (by kernel_rfl) ?_ _
              go_wp2_with fail
              go_meet
              case rel => exact ⟨by rw [HL1.out], by rw [HL2.out], HBq9.out⟩
          · have kc := conv_letter x2 p2 q8 (q0.heap.size) HCq8x12.out
            go_simp
            refine hK.out _ _ hHeld (fun hHeld2 => ?_)
            clear kc
            clear hK K hHeld
            have hHeld := hHeld2
            clear hHeld2
            try simp only [Act.put, List.getElem_toArray, List.getElem_cons_succ, List.getElem_cons_zero, List.setIfInBounds_toArray, List.set_cons_zero, List.set_cons_succ]
            refine wpAnyH_ready (rs := [5]) (by kernel_rfl) (by simp) ?_
            refine AllReadyH.cons (o := _) rfl (fun K hK => ?_) AllReadyH.nil
            go_simp
            obtain ⟨q10, hq10⟩ : ∃ wn, World.alloc q8 (.cells #[.int .u8 (97 + ((x1 : Nat) : Int))] 5) = wn := ⟨_, rfl⟩
            rw [hq10]
            have HBq10 : Hid (Below w5.heap.size w5 q10) := by rw [← hq10]; exact HBq8.out.alloc HBq8.out.size _
            have HCq10x5 : Hid (q10.cell? ⟨q8.heap.size, 0, none⟩ = some (.int .u8 (97 + ((x1 : Nat) : Int)))) := by show _ = _; rw [← hq10]; simp
            have HCq10x12 : Hid (q10.cell? ⟨q0.heap.size, 0, none⟩ = some (.int .u8 (97 + ((x2 : Nat) : Int)))) := by show _ = _; rw [← hq10, World.cell?_alloc_lt _ _ _ (World.block_lt_of_cell? _ _ HCq8x12.out)]; exact HCq8x12.out
            clear hq10
            refine hK.out _ _ (HH.out _ HBq10.out) (fun hHeld2 => ?_)
            clear hK K hHeld
            have hHeld := hHeld2
            clear hHeld2
            try simp only [Act.put, List.getElem_toArray, List.getElem_cons_succ, List.getElem_cons_zero, List.setIfInBounds_toArray, List.set_cons_zero, List.set_cons_succ]
            refine wpAnyH_ready (rs := [6]) (by kernel_rfl) (by simp) ?_
            refine AllReadyH.cons (o := _) rfl (fun K hK => ?_) AllReadyH.nil
            have kc := conv_letter x1 p1 q10 (q8.heap.size) HCq10x5.out
            go_simp
            refine hK.out _ _ hHeld (fun hHeld2 => ?_)
            clear kc
            clear hK K hHeld
            have hHeld := hHeld2
            clear hHeld2
            try simp only [Act.put, List.getElem_toArray, List.getElem_cons_succ, List.getElem_cons_zero, List.setIfInBounds_toArray, List.set_cons_zero, List.set_cons_succ]
            refine wpAnyH_take (i := 14) (oi := _) (v := .string (letX x1)) rfl (by kernel_rfl) (by kernel_rfl) (by kernel_rfl) (fun _ _ _ h => h) (Or.inl ⟨by kernel_rfl, fun w hSw => ?_⟩) hHeld ?_
            · (try dsimp only at hSw); go_simp
            try simp only [Act.put, List.getElem_toArray, List.getElem_cons_succ, List.getElem_cons_zero, List.setIfInBounds_toArray, List.set_cons_zero, List.set_cons_succ]
            refine wpAnyH_take (i := 15) (oi := _) (v := .string (letX x2)) rfl (by kernel_rfl) (by kernel_rfl) (by kernel_rfl) (fun _ _ _ h => h) (Or.inl ⟨by kernel_rfl, fun w hSw => ?_⟩) hHeld ?_
            · (try dsimp only at hSw); go_simp
            try simp only [Act.put, List.getElem_toArray, List.getElem_cons_succ, List.getElem_cons_zero, List.setIfInBounds_toArray, List.set_cons_zero, List.set_cons_succ]
            refine wpAnyH_done (by kernel_rfl) ?_ _
            go_wp2_with fail
            go_meet
            case rel => exact ⟨by rw [HL1.out], by rw [HL2.out], HBq10.out⟩
    case rest =>
      obtain ⟨rfl, rfl, hbc⟩ := hcut
      have HOc : Hid (One wc W0.heap.size (b5 :: X) a d1) := HO5.out.other hbc
      have HKc : Hid (KeptX W0.heap.size X w wc) := HK5.out.trans (KeptX.of_below hbc hB5 (fun k hk => HO5.out.xlt k (by simp [hk])))
      have e0 : wc.cell? ⟨b5, 0, none⟩ = some (.int .i64 what) := (hbc.cell (p := ⟨b5, 0, none⟩) h5).trans c50
      have e3 : wc.cell? ⟨b5, 3, none⟩ = some (.int .i64 num) := (hbc.cell (p := ⟨b5, 3, none⟩) h5).trans c53
      have hBc : W0.heap.size ≤ wc.heap.size := Nat.le_trans hB5 hbc.size
      have HG1 : Hid (GoodD 1000 30000 d1) := (HSt.out.good HG.out).mono (by rw [List.length_map, List.length_take]; omega) (by decide)
      have hfz : (letterI fi).size ≤ 200 := by rw [(letterI_name fi).size]; decide
      have htz : (letterI ti).size ≤ 200 := by rw [(letterI_name ti).size]; decide
      have hsub : ∀ k ∈ X, k ∈ b5 :: X := fun k hk => by simp [hk]
      have Hsub := Lib.hid hsub
      clear hbc c50 c51 c52 c53 Hw5 HO5 HK5 hsub
      by_cases h0 : what = 0
      case' pos =>
        subst h0
        have hp := pickI_lt num (show 0 < 20 by decide)
        have PK := Lib.hid (fun w => pick_calls num 20 w hnm (by decide))
        have RP := Lib.hid (fun w => Tryd.strings_Repeat (letterI ti) (pickI num 20) w (by omega) (by rw [(letterI_name ti).size]; omega))
        go_wp2_with fail
        refine (PK.out _).mono ?_
        rintro e w' ⟨rfl, rfl⟩
        go_wp2_with fail
        refine (RP.out _).mono ?_
        rintro e9 w9 ⟨rfl, hb9⟩
        obtain ⟨s9, hs9⟩ : ∃ s : ByteArray, (⟨(Lib.repeatL (letterI ti).data.toList (pickI num 20)).toArray⟩ : ByteArray) = s := ⟨_, rfl⟩
        rw [hs9]
        have HT9 : Hid (TextL s9) := by rw [← hs9]; exact rep_text (letterI_name ti) _
        have hz9 : s9.size ≤ 20 := by rw [← hs9]; exact rep_size (letterI_name ti) (by omega)
        have HB9 := Lib.hid hb9
        clear hb9 hs9 PK RP
        go_wp2_with fail
        refine (one_write w9 _ (b5 :: X) a d1 (letterI fi) s9 (Nat.le_trans hBc HB9.out.size) (HOc.out.other HB9.out) HG1.out hfz (by omega)).mono ?_
        rintro e10 w10 ⟨rfl, hO10, hK10⟩
        have HO10 := Lib.hid hO10
        have HK10 := Lib.hid ((KeptX.of_below HB9.out hBc (fun k hk => HOc.out.xlt k (Hsub.out k hk))).trans (hK10.less Hsub.out))
        clear hO10 hK10 e0 e3
        go_wp2_with fail
        go_roundg (n - (i + 1))
        case rel => exact ⟨i + 1, _, by go_num, by omega, rfl, by rw [HTS.out]; exact HSt.out.snoc (.write (letterI_name fi) HT9.out (by omega)), HO10.out.less Hsub.out, HKc.out.trans HK10.out⟩
        case measure => have := Hk.out; omega
      have t0 : (what == 0) = false := beq_eq_false_iff_ne.2 h0
      have H0 := Lib.hid h0
      clear h0
      by_cases h1 : what = 1
      case' pos =>
        subst h1
        go_wp2_with fail
        refine (one_sync wc _ (b5 :: X) a d1 (letterI fi) hBc HOc.out HG1.out hfz).mono ?_
        rintro e10 w10 ⟨rfl, hO10, hK10⟩
        have HO10 := Lib.hid hO10
        have HK10 := Lib.hid (hK10.less Hsub.out)
        clear hO10 hK10 e0 e3
        go_wp2_with fail
        go_roundg (n - (i + 1))
        case rel => exact ⟨i + 1, _, by go_num, by omega, rfl, by rw [HTS.out]; exact HSt.out.snoc (.sync (letterI_name fi)), HO10.out.less Hsub.out, HKc.out.trans HK10.out⟩
        case measure => have := Hk.out; omega
      have t1 : (what == 1) = false := beq_eq_false_iff_ne.2 h1
      have H1 := Lib.hid h1
      clear h1
      by_cases h2 : what = 2
      case' pos =>
        subst h2
        go_wp2_with fail
        refine (one_move wc _ (b5 :: X) a d1 (letterI fi) (letterI ti) hBc HOc.out HG1.out hfz htz).mono ?_
        rintro e10 w10 ⟨rfl, hO10, hK10⟩
        have HO10 := Lib.hid hO10
        have HK10 := Lib.hid (hK10.less Hsub.out)
        clear hO10 hK10 e0 e3
        go_wp2_with fail
        go_roundg (n - (i + 1))
        case rel => exact ⟨i + 1, _, by go_num, by omega, rfl, by rw [HTS.out]; exact HSt.out.snoc (.move (letterI_name fi) (letterI_name ti)), HO10.out.less Hsub.out, HKc.out.trans HK10.out⟩
        case measure => have := Hk.out; omega
      have t2 : (what == 2) = false := beq_eq_false_iff_ne.2 h2
      have H2 := Lib.hid h2
      clear h2
      by_cases h3 : what = 3
      case' pos =>
        subst h3
        go_wp2_with fail
        refine (one_remove wc _ (b5 :: X) a d1 (letterI fi) hBc HOc.out HG1.out hfz).mono ?_
        rintro e10 w10 ⟨rfl, hO10, hK10⟩
        have HO10 := Lib.hid hO10
        have HK10 := Lib.hid (hK10.less Hsub.out)
        clear hO10 hK10 e0 e3
        go_wp2_with fail
        go_roundg (n - (i + 1))
        case rel => exact ⟨i + 1, _, by go_num, by omega, rfl, by rw [HTS.out]; exact HSt.out.snoc (.remove (letterI_name fi)), HO10.out.less Hsub.out, HKc.out.trans HK10.out⟩
        case measure => have := Hk.out; omega
      have t3 : (what == 3) = false := beq_eq_false_iff_ne.2 h3
      have H3 := Lib.hid h3
      clear h3
      go_wp2_with fail
      go_roundg (n - (i + 1))
      case rel => exact ⟨i + 1, _, by go_num, by omega, rfl, by rw [HTS.out]; exact HSt.out.snoc (.none H0.out H1.out H2.out H3.out), HOc.out.less Hsub.out, HKc.out⟩
      case measure => have := Hk.out; omega
end Go.Proofs.YtodmnogoacghpaaDoor
