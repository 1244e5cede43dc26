/- A book in memory; right, whole, read. -/
import Derived.Test.YtodmnogoacghpaaGreatDoorM25
namespace Go.Proofs.YtodmnogoacghpaaGreatDoor
open Go.RowKit
set_option maxRecDepth 100000
set_option maxHeartbeats 4000000

/-- The book in block bb, on the disk in block a; F: all blocks of both. -/
structure BkAt (w : World) (a bb bl : Nat) (m : FS) (t : ByteArray) (dn : Bool) : Prop where
  blk : w.heap[bb]? = some (.cells #[.pointer (some ⟨a, 0, none⟩), .map (some bl), .string t, .bool dn] 64)
  map : MapV Tryz.prog 9 w bl m.length (nowM m)
  nodup : NodupK m
  ne : bb ≠ bl
def BkF (w : World) (F : List Nat) (a bb : Nat) (d : DiskD) (m : FS) (t : ByteArray) (dn : Bool) : Prop :=
  ∃ FD bl, PDisk w a FD d ∧ BkAt w a bb bl m t dn ∧ F = bb :: bl :: FD ∧ bb ∉ FD ∧ bl ∉ FD
def BStep (w : World) (F : List Nat) (a bb : Nat) (d : DiskD) (m : FS) (t : ByteArray) (dn : Bool) (w' : World) : Prop :=
  ∃ F', BkF w' F' a bb d m t dn ∧ (∀ k ∈ F', k ∈ F ∨ w.heap.size ≤ k) ∧ Turn F w w'
section
variable {w w' : World} {F : List Nat} {a bb bl : Nat} {d d' : DiskD} {m m' : FS} {t t' : ByteArray} {dn dn' : Bool}
theorem BkAt.lt (h : BkAt w a bb bl m t dn) : bb < w.heap.size := by
  rcases Nat.lt_or_ge bb w.heap.size with h' | h'
  · exact h'
  · have := h.blk
    rw [Array.getElem?_eq_none h'] at this; cases this
theorem BkAt.cell (h : BkAt w a bb bl m t dn) : w.cell? ⟨bb, 0, none⟩ = some (.pointer (some ⟨a, 0, none⟩)) ∧ w.cell? ⟨bb, 1, none⟩ = some (.map (some bl)) ∧ w.cell? ⟨bb, 2, none⟩ = some (.string t) ∧ w.cell? ⟨bb, 3, none⟩ = some (.bool dn) := by
  refine ⟨?_, ?_, ?_, ?_⟩ <;> simp [World.cell?, h.blk]
theorem BkAt.free (h : BkAt w a bb bl m t dn) (i : Nat) : w.frozen? ⟨bb, i, none⟩ = false := by simp [World.frozen?, h.blk]
theorem BkAt.keep (h : BkAt w a bb bl m t dn) (h1 : w'.heap[bb]? = w.heap[bb]?) (h2 : w'.heap[bl]? = w.heap[bl]?) : BkAt w' a bb bl m t dn := ⟨h1.trans h.blk, h.map.keep h2, h.nodup, h.ne⟩
theorem BkF.lt (h : BkF w F a bb d m t dn) : ∀ k ∈ F, k < w.heap.size := by
  obtain ⟨FD, bl, hP, hA, rfl, -, -⟩ := h
  intro k hk
  rcases List.mem_cons.1 hk with rfl | hk
  · exact hA.lt
  · rcases List.mem_cons.1 hk with rfl | hk
    · exact hA.map.lt
    · exact hP.lt k hk
theorem BkF.keep (h : BkF w F a bb d m t dn) (hk : ∀ k ∈ F, w'.heap[k]? = w.heap[k]?) : BkF w' F a bb d m t dn := by
  obtain ⟨FD, bl, hP, hA, rfl, h1, h2⟩ := h
  exact ⟨FD, bl, hP.keep (fun k hk' => hk k (by simp [hk'])), hA.keep (hk bb (by simp)) (hk bl (by simp)), rfl, h1, h2⟩
theorem BkF.other {G : List Nat} (h : BkF w F a bb d m t dn) (ht : Turn G w w') (hd : ∀ k ∈ F, k ∉ G) : BkF w' F a bb d m t dn := h.keep fun k hk => ht.block k (h.lt k hk) (hd k hk)
theorem BkF.below (h : BkF w F a bb d m t dn) (hb : Below w.heap.size w w') : BkF w' F a bb d m t dn := h.keep fun k hk => hb.block k (h.lt k hk)
theorem BStep.refl (h : BkF w F a bb d m t dn) : BStep w F a bb d m t dn w := ⟨F, h, fun _ hk => Or.inl hk, Turn.refl F w⟩
theorem BStep.trans {w'' : World} (h : BStep w F a bb d m t dn w') (k : ∀ F', BkF w' F' a bb d m t dn → BStep w' F' a bb d' m' t' dn' w'') : BStep w F a bb d' m' t' dn' w'' := by
  obtain ⟨F', hF, hs, hT⟩ := h
  obtain ⟨F2, hF2, hs2, hT2⟩ := k F' hF
  refine ⟨F2, hF2, fun j hj => ?_, hT.trans hT2 hs⟩
  rcases hs2 j hj with hj | hj
  · exact hs j hj
  · exact Or.inr (Nat.le_trans hT.size hj)
theorem BStep.andBelow {w'' : World} (h : BStep w F a bb d m t dn w') (hb : Below w'.heap.size w' w'') : BStep w F a bb d m t dn w'' := by
  obtain ⟨F', hF, hs, hT⟩ := h
  exact ⟨F', hF.below hb, hs, hT.andBelow hb⟩
theorem BStep.ofBelow (h : BkF w F a bb d m t dn) (hb : Below w.heap.size w w') : BStep w F a bb d m t dn w' := (BStep.refl h).andBelow hb
/-- The disk's own step. -/
theorem BkF.disk {FD : List Nat} (hA : BkAt w a bb bl m t dn) (h1 : bb ∉ FD) (h2 : bl ∉ FD) (hs : DStep w a FD d' w') : BStep w (bb :: bl :: FD) a bb d' m t dn w' := by
  obtain ⟨FD', hP', hF', hT⟩ := hs
  have e1 : w'.heap[bb]? = w.heap[bb]? := hT.block bb hA.lt h1
  have e2 : w'.heap[bl]? = w.heap[bl]? := hT.block bl hA.map.lt h2
  have f1 : ∀ k, k < w.heap.size → k ∉ FD → k ∉ FD' := fun k hk hn hf => by
    rcases hF' k hf with h | h
    · exact hn h
    · omega
  refine ⟨bb :: bl :: FD', ⟨FD', bl, hP', hA.keep e1 e2, rfl, f1 bb hA.lt h1, f1 bl hA.map.lt h2⟩, fun k hk => ?_, hT.os, hT.tape, hT.output, hT.size, fun k hk hn => hT.block k hk (fun hf => hn (by simp [hf]))⟩
  rcases List.mem_cons.1 hk with rfl | hk
  · exact Or.inl (by simp)
  · rcases List.mem_cons.1 hk with rfl | hk
    · exact Or.inl (by simp)
    · rcases hF' k hk with h | h
      · exact Or.inl (by simp [h])
      · exact Or.inr h
/-- The book's own block, or its map, is written. -/
theorem BkF.own {FD : List Nat} (hP : PDisk w a FD d) (h1 : bb ∉ FD) (h2 : bl ∉ FD) (hA' : BkAt w' a bb bl m' t' dn') (hT : Turn [bb, bl] w w') : BStep w (bb :: bl :: FD) a bb d m' t' dn' w' := by
  refine ⟨bb :: bl :: FD, ⟨FD, bl, hP.other hT (fun k hk hm => ?_), hA', rfl, h1, h2⟩, fun k hk => Or.inl hk, hT.os, hT.tape, hT.output, hT.size, fun k hk hn => hT.block k hk (fun hf => hn ?_)⟩
  · simp only [List.mem_cons, List.not_mem_nil, or_false] at hm
    rcases hm with rfl | rfl
    · exact h1 hk
    · exact h2 hk
  · simp only [List.mem_cons, List.not_mem_nil, or_false] at hf
    rcases hf with rfl | rfl <;> simp
end
theorem nowM_len {m : FS} {w : World} {bl n : Nat} (hn : NodupK m) (h : MapV Tryz.prog 9 w bl n (nowM m)) : MapV Tryz.prog 9 w bl m.length (nowM m) :=
  h.fit Tryz.underlying9 (nowM_keys hn) (by rw [List.length_map]; exact Nat.le_refl _)

theorem right_calls (n v : ByteArray) (w : World) (hn : n.size ≤ 1000000) (hv : v.size ≤ 1000000) :
    Calls Tryz.prog 29 #[.string n, .string v] w fun e w' => e = .returned (.bool (rightB n v)) ∧ Below w.heap.size w w' := by
  obtain ⟨R, hR⟩ : ∃ R, rightB n v = R := ⟨_, rfl⟩
  have HR : Hid (rightB n v = R) := hR
  rw [hR]
  clear hR
  by_cases h1 : n.size = 0
  · have HE : Hid (R = false) := by show R = false; rw [← HR.out]; unfold rightB; rw [h1]; rfl
    have hl : n.toList = [] := by rw [Lib.toList_data]; exact List.length_eq_zero_iff.1 h1
    have hl2 : n.toList.isEmpty = true := by rw [hl]; rfl
    clear h1
    go_enter Tryz.func29, Tryz.ntmps29
    go_wp2_with fail
    go_ret
    exact ⟨by rw [HE.out]; rfl, Below.refl _ _⟩
  · have hl : ¬ n.toList = [] := fun e => h1 (by rw [Lib.toList_data] at e; exact congrArg List.length e)
    have hl2 : n.toList.isEmpty = false := by
      cases h : n.toList with
      | nil => exact absurd h hl
      | cons _ _ => rfl
    by_cases h2 : n.size ≤ 24
    · have e2 : decide ((n.size : Int) ≤ 24) = true := decide_eq_true (by omega)
      by_cases h3 : v.size ≤ 300
      · have e3 : decide ((v.size : Int) ≤ 300) = true := decide_eq_true (by omega)
        have CT := Lib.hid (containsTL_calls (n ++ v) w (by rw [ByteArray.size_append]; omega))
        have HE : Hid (R = !hasTL (n ++ v).data.toList) := by
          show R = _
          rw [← HR.out]
          unfold rightB
          rw [decide_eq_true (show 1 ≤ n.size by omega), decide_eq_true h2, decide_eq_true h3]
          rfl
        go_enter Tryz.func29, Tryz.ntmps29
        go_wp2_with fail
        refine CT.out.mono ?_
        rintro e w1 ⟨rfl, hb⟩
        have HB := Lib.hid hb
        clear hb
        go_wp2_with fail
        go_ret
        exact ⟨by rw [HE.out]; rfl, HB.out⟩
      · have e3 : decide ((v.size : Int) ≤ 300) = false := decide_eq_false (by omega)
        have HE : Hid (R = false) := by show R = false; rw [← HR.out]; unfold rightB; rw [decide_eq_false h3]; simp
        go_enter Tryz.func29, Tryz.ntmps29
        go_wp2_with fail
        go_ret
        exact ⟨by rw [HE.out]; rfl, Below.refl _ _⟩
    · have e2 : decide ((n.size : Int) ≤ 24) = false := decide_eq_false (by omega)
      have HE : Hid (R = false) := by show R = false; rw [← HR.out]; unfold rightB; rw [decide_eq_false h2]; simp
      go_enter Tryz.func29, Tryz.ntmps29
      go_wp2_with fail
      go_ret
      exact ⟨by rw [HE.out]; rfl, Below.refl _ _⟩
theorem whole_spec (s : ByteArray) : ∃ k : Nat, Lib.lastIndexByte s 10 + 1 = (k : Int) ∧ k ≤ s.size ∧ (s.extract 0 k).data.toList = wholeL s.data.toList := by
  have hex : ∀ k, (s.extract 0 k).data.toList = s.data.toList.take k := fun k => by rw [ByteArray.data_extract, Array.toList_extract]; simp
  have hget : ∀ j, j < s.size → s.data.toList[j]? = some (s.data[j]!) := fun j hj => by
    have hj' : j < s.data.size := hj
    rw [Array.getElem?_toList, Array.getElem?_eq_getElem hj', getElem!_pos s.data j hj']
  have hlen : s.data.toList.length = s.size := rfl
  unfold Lib.lastIndexByte
  rcases Lib.lastIdx_spec s 10 s.size with ⟨h1, h2⟩ | ⟨i, hi, h1, h2, h3⟩
  · refine ⟨0, by rw [h1]; rfl, Nat.zero_le _, ?_⟩
    rw [hex, List.take_zero, wholeL_no]
    intro hm
    obtain ⟨j, hj⟩ := List.mem_iff_getElem?.1 hm
    have hjl : j < s.size := by have := (List.getElem?_eq_some_iff.1 hj).1; omega
    rw [hget j hjl] at hj
    injection hj with hj
    exact h2 j hjl (by rw [hj]; rfl)
  · refine ⟨i + 1, by rw [h1]; rfl, hi, ?_⟩
    rw [hex, wholeL_take s.data.toList i (by omega) ?_ ?_]
    · rw [hget i hi]
      have : (s.data[i]!).toNat = 10 := by omega
      rw [show s.data[i]! = UInt8.ofNat (s.data[i]!).toNat by simp, this]
      rfl
    · intro j hij hj
      have hjl : j < s.size := by have := (List.getElem?_eq_some_iff.1 hj).1; omega
      rw [hget j hjl] at hj
      injection hj with hj
      exact h3 j hij hjl (by rw [hj]; rfl)
theorem whole_calls (s : ByteArray) (w : World) (hs : s.size ≤ 1000000) :
    Calls Tryz.prog 26 #[.string s] w fun e w' => e = .returned (.string (ofL (wholeL s.data.toList))) ∧ w = w' := by
  obtain ⟨k, hk, hks, hw⟩ := whole_spec s
  have HE : Hid (s.extract 0 k = ofL (wholeL s.data.toList)) := by
    show _ = _
    rw [← hw, ofL_eta]
  have LB := Lib.hid (Tryz.strings_LastIndexByte s 10 (by omega) w)
  obtain ⟨x, hx⟩ : ∃ x, Lib.lastIndexByte s 10 = x := ⟨_, rfl⟩
  rw [hx] at LB hk
  have hw1 : IntKind.i64.wrap (x + 1) = ((k : Nat) : Int) := by rw [IntKind.wrap_i64]; omega
  have hk2 : x + 1 = ((k : Nat) : Int) := hk
  clear hw hx hk
  go_enter Tryz.func26, Tryz.ntmps26
  go_wp2_with fail
  refine LB.out.mono ?_
  rintro e w1 ⟨rfl, hw1⟩
  subst hw1
  go_wp2_with fail
  go_ret
  exact ⟨by rw [← HE.out]; rfl, rfl⟩

/-! ### what the variable bytealg.MaxLen holds is some number -/
def MaxV (w : World) : Prop := ∃ M0 : Int, w.cell? ⟨1, 0, none⟩ = some (.int .i64 M0)
def OffG (F : List Nat) : Prop := ∀ k ∈ F, 1 < k
theorem MaxV.lt {w : World} (h : MaxV w) : 1 < w.heap.size := by
  obtain ⟨M0, h⟩ := h
  exact World.block_lt_of_cell? w _ h
theorem MaxV.turn {F : List Nat} {w w' : World} (h : MaxV w) (ht : Turn F w w') (hF : OffG F) : MaxV w' := by
  have hlt := h.lt
  obtain ⟨M0, h⟩ := h
  exact ⟨M0, (World.cell?_of_block (a := ⟨1, 0, none⟩) (ht.block _ hlt (fun hm => Nat.lt_irrefl _ (hF _ hm)))).trans h⟩
theorem MaxV.below {w w' : World} (h : MaxV w) (hb : Below w.heap.size w w') : MaxV w' := by
  have hlt := h.lt
  obtain ⟨M0, h⟩ := h
  exact ⟨M0, (hb.cell (p := ⟨1, 0, none⟩) hlt).trans h⟩
theorem cutB_calls (s : ByteArray) (c : UInt8) (w : World) (hs : s.size ≤ 1000000) (hm : MaxV w) :
    Calls Tryz.prog 41 #[.string s, .string ⟨#[c]⟩] w fun e w' => e = .returned (.tuple #[.string (ofL (Lib.cut s.data.toList [c]).1), .string (ofL (Lib.cut s.data.toList [c]).2.1), .bool (Lib.cut s.data.toList [c]).2.2]) ∧ ∃ n, w' = w.drewN n := by
  obtain ⟨M0, hm⟩ := hm
  exact Tryz.strings_Cut s ⟨#[c]⟩ M0 w (by omega) hm
theorem cut_len (p : List UInt8) (c : UInt8) : (Lib.cut p [c]).1.length + (Lib.cut p [c]).2.1.length ≤ p.length := by
  rcases parts1 c p with ⟨h, _⟩ | ⟨a, b, h1, h2, _⟩
  · rw [cut_no h]; simp
  · rw [h1, cut_hit h2]; simp
def ReadR (w : World) (bb bl a : Nat) (m : FS) (s : ByteArray) (t : ByteArray) (dn : Bool) (e : Ending) (w' : World) : Prop :=
  e = .returned (.tuple #[]) ∧ BkAt w' a bb bl (readS m s.data.toList) t dn ∧ Turn [bl] w w'
theorem toList_ne {s : ByteArray} (h : s.size ≠ 0) : ¬ s.toList = [] ∧ s.toList.isEmpty = false := by
  have h1 : ¬ s.toList = [] := fun e => h (by rw [Lib.toList_data] at e; exact congrArg List.length e)
  refine ⟨h1, ?_⟩
  cases e : s.toList with
  | nil => exact absurd e h1
  | cons _ _ => rfl
theorem toList_eq {s : ByteArray} (h : s.size = 0) : s.toList = [] ∧ s.toList.isEmpty = true := by
  have h1 : s.toList = [] := by rw [Lib.toList_data]; exact List.length_eq_zero_iff.1 h
  exact ⟨h1, by rw [h1]; rfl⟩
theorem readAt_calls (w : World) (a bb bl : Nat) (m : FS) (s0 t : ByteArray) (dn : Bool) (h : BkAt w a bb bl m t dn) (hg : 1 < bl) (hm : MaxV w) (hs : s0.size ≤ 1000000) (hl : m.length ≤ 1000000) :
    Calls Tryz.prog 25 #[.pointer (some ⟨bb, 0, none⟩), .string s0] w (ReadR w bb bl a m s0 t dn) := by
  have HA := Lib.hid h
  have HM := Lib.hid hm
  have HG : Hid (OffG [bl]) := fun k hk => by rw [List.mem_singleton.1 hk]; exact hg
  have hne := h.ne
  clear h hm hg
  go_enter Tryz.func25, Tryz.ntmps25
  go_wp2_with fail
  go_loopg [1] s0.size (fun k v1 wr => ∃ (s : ByteArray) (m1 : FS), v1 = .string s ∧ k = s.size ∧ readS m1 s.data.toList = readS m s0.data.toList ∧ BkAt wr a bb bl m1 t dn ∧ Turn [bl] w wr ∧ s.size ≤ s0.size ∧ m1.length + s.size ≤ m.length + s0.size)
  case atStart => exact ⟨s0, m, rfl, rfl, rfl, HA.out, Turn.refl _ _, Nat.le_refl _, Nat.le_refl _⟩
  case round =>
    obtain ⟨s, m1, rfl, hk, hrd, hA, hT, hss, hlen⟩ := hrel
    have Hk := Lib.hid hk
    have HRd := Lib.hid hrd
    have HA1 := Lib.hid hA
    have HT := Lib.hid hT
    clear hk hrd hA hT
    by_cases h0 : s.size = 0
    · obtain ⟨q1, q2⟩ := toList_eq h0
      have HE : Hid (m1 = readS m s0.data.toList) := by
        have h := HRd.out
        rw [show s.data.toList = [] from List.length_eq_zero_iff.1 h0] at h
        exact h
      clear h0
      go_wp2_with fail
      go_returns
      exact ⟨rfl, by rw [← HE.out]; exact HA1.out, HT.out⟩
    · obtain ⟨q1, q2⟩ := toList_ne h0
      have hsl : s.data.toList.length = s.size := rfl
      have HMr : Hid (MaxV wr) := HM.out.turn HT.out HG.out
      have CT := Lib.hid (cutB_calls s 10 wr (by omega) HMr.out)
      rcases parts1 10 s.data.toList with ⟨hno, _⟩ | ⟨p, r, hpr, hno, _⟩
      · rw [cut_no hno] at CT
        have HE : Hid (m1 = readS m s0.data.toList) := by
          have h := HRd.out
          rw [readS_no m1 hno] at h
          exact h
        have CU := Lib.hid (fun W (hW : MaxV W) => cutB_calls (ofL s.data.toList) 9 W (by rw [ofL_size]; omega) hW)
        obtain ⟨x1, x2, x3, hx⟩ : ∃ x1 x2 x3, Lib.cut s.data.toList [9] = (x1, x2, x3) := ⟨_, _, _, rfl⟩
        rw [show (ofL s.data.toList).data.toList = s.data.toList from rfl, hx] at CU
        clear h0 hno hx
        go_wp2_with fail
        refine CT.out.mono ?_
        rintro e1 w1 ⟨rfl, nn, rfl⟩
        have HMn : Hid (MaxV (wr.drewN nn)) := HMr.out
        clear CT
        go_wp2_with fail
        refine (CU.out _ HMn.out).mono ?_
        rintro e2 w2 ⟨rfl, n2, rfl⟩
        clear CU
        go_wp2_with fail
        go_returns
        exact ⟨rfl, by rw [← HE.out]; exact HA1.out.keep rfl rfl, HT.out.drewN (nn + n2)⟩
      · rw [hpr, cut_hit hno] at CT
        have hpl : p.length + r.length + 1 = s.size := by rw [← hsl, hpr]; simp; omega
        have HRL : Hid (readS m s0.data.toList = match parseL p with | none => m1 | some x => readS (lineSet m1 x.1 x.2) r) := by
          have h := HRd.out
          rw [hpr, readS_line m1 hno] at h
          exact h.symm
        have CU := Lib.hid (fun W (hW : MaxV W) => cutB_calls (ofL p) 9 W (by rw [ofL_size]; omega) hW)
        obtain ⟨x1, x2, x3, hx⟩ : ∃ x1 x2 x3, Lib.cut p [9] = (x1, x2, x3) := ⟨_, _, _, rfl⟩
        have hxl := cut_len p 9
        have HPL : Hid (parseL p = if x3 && rightB (ofL x1) (ofL x2) then some (ofL x1, ofL x2) else none) := by
          show _ = _
          unfold parseL
          rw [hx]
        rw [show (ofL p).data.toList = p from rfl, hx] at CU
        rw [hx] at hxl
        dsimp only at hxl
        clear hno hx hpr
        cases x3
        · have HE : Hid (m1 = readS m s0.data.toList) := by
            have h := HRL.out
            rw [HPL.out] at h
            exact h.symm
          go_wp2_with fail
          refine CT.out.mono ?_
          rintro e1 w1 ⟨rfl, nn, rfl⟩
          have HMn : Hid (MaxV (wr.drewN nn)) := HMr.out
          clear CT
          go_wp2_with fail
          refine (CU.out _ HMn.out).mono ?_
          rintro e2 w2 ⟨rfl, n2, rfl⟩
          clear CU
          go_wp2_with fail
          go_returns
          exact ⟨rfl, by rw [← HE.out]; exact HA1.out.keep rfl rfl, HT.out.drewN (nn + n2)⟩
        · have RC := Lib.hid (fun W => right_calls (ofL x1) (ofL x2) W (by rw [ofL_size]; omega) (by rw [ofL_size]; omega))
          obtain ⟨n, hn⟩ : ∃ n, ofL x1 = n := ⟨_, rfl⟩
          obtain ⟨v, hv⟩ : ∃ v, ofL x2 = v := ⟨_, rfl⟩
          have hnz : n.size + v.size ≤ p.length := by rw [← hn, ← hv, ofL_size, ofL_size]; exact hxl
          rw [hn, hv] at RC HPL CU
          clear hn hv hxl
          go_wp2_with fail
          refine CT.out.mono ?_
          rintro e1 w1 ⟨rfl, nn, rfl⟩
          have HMn : Hid (MaxV (wr.drewN nn)) := HMr.out
          clear CT
          go_wp2_with fail
          refine (CU.out _ HMn.out).mono ?_
          rintro e2 w2 ⟨rfl, n2, rfl⟩
          clear CU
          go_wp2_with fail
          refine (RC.out _).mono ?_
          rintro e3 w3 ⟨rfl, hb3⟩
          have HT3 : Hid (Turn [bl] w w3) := (HT.out.drewN (nn + n2)).andBelow hb3
          have HA3 : Hid (BkAt w3 a bb bl m1 t dn) := (HA1.out.keep (w' := wr.drewN (nn + n2)) rfl rfl).keep (hb3.block bb HA1.out.lt) (hb3.block bl HA1.out.map.lt)
          clear hb3 RC
          cases hR : rightB n v
          · have HE : Hid (m1 = readS m s0.data.toList) := by
              have h := HRL.out
              rw [HPL.out, hR] at h
              exact h.symm
            clear hR
            go_wp2_with fail
            go_returns
            exact ⟨rfl, by rw [← HE.out]; exact HA3.out, HT3.out⟩
          · have HE : Hid (readS (lineSet m1 n v) (ofL r).data.toList = readS m s0.data.toList) := by
              have h := HRL.out
              rw [HPL.out, hR] at h
              exact h.symm
            obtain ⟨c0, c1, c2, c3⟩ := HA3.out.cell
            have hbl3 := HA3.out.lt
            have Hnz : Hid (n.size ≤ maxLen) := by show n.size ≤ maxLen; unfold maxLen; omega
            have hrl : (ofL r).size = r.length := rfl
            have HMP : Hid (MapV Tryz.prog 9 w3 bl m1.length (nowM m1)) := HA3.out.map
            clear hR
            by_cases hv0 : v.size = 0
            · obtain ⟨q3, q4⟩ := toList_eq hv0
              have HLS : Hid (lineSet m1 n v = fdel m1 n) := by show _ = _; unfold lineSet; rw [if_pos hv0]
              clear hv0
              go_wp2_with (at_delete; refine wpList_delV _ rfl _ _ 24 9 rfl 9 Tryz.underlying9 Tryz.underlying24 bl m1.length _ rfl HMP.out n rfl Hnz.out ?_)
              intro w4 hm4 hg4
              have hk4 : w4.heap[bb]? = w3.heap[bb]? := hg4.block bb HA3.out.lt (fun e => by injection e with e; exact hne e)
              have HA4 : Hid (BkAt w4 a bb bl (lineSet m1 n v) t dn) := ⟨hk4.trans HA3.out.blk, by rw [HLS.out]; exact nowM_len (HA3.out.nodup.del n) (hm4.congr fun f => (nowM_del m1 n f).symm), lineSet_nodup HA3.out.nodup n v, hne⟩
              have HT4 := Lib.hid (HT3.out.grown hg4 (fun k e => by injection e with e; exact Or.inl (by simp [e])))
              have hln : (lineSet m1 n v).length ≤ m1.length := by rw [HLS.out]; exact fdel_len _ _
              clear hm4 hg4 hk4 c0 c1 c2 c3
              go_wp2_with fail
              go_roundg r.length
              case rel => exact ⟨ofL r, lineSet m1 n v, rfl, rfl, HE.out, HA4.out, HT4.out, by omega, by omega⟩
              case measure => have := Hk.out; omega
            · obtain ⟨q3, q4⟩ := toList_ne hv0
              have HLS : Hid (lineSet m1 n v = fput m1 n ⟨v, none⟩) := by show _ = _; unfold lineSet; rw [if_neg hv0]
              clear hv0
              go_wp2_with (at_mapUpdate; refine wpList_storeV _ rfl _ _ _ 24 rfl 9 9 Tryz.underlying9 Tryz.underlying24 bl m1.length _ rfl HMP.out (by unfold maxLen; omega) n rfl Hnz.out (.string v) rfl ?_)
              intro w4 hm4 hg4
              have hk4 : w4.heap[bb]? = w3.heap[bb]? := hg4.block bb HA3.out.lt (fun e => by injection e with e; exact hne e)
              have HA4 : Hid (BkAt w4 a bb bl (lineSet m1 n v) t dn) := ⟨hk4.trans HA3.out.blk, by rw [HLS.out]; exact nowM_len (HA3.out.nodup.put n _) (hm4.congr fun f => (nowM_put m1 n ⟨v, none⟩ f).symm), lineSet_nodup HA3.out.nodup n v, hne⟩
              have HT4 := Lib.hid (HT3.out.grown hg4 (fun k e => by injection e with e; exact Or.inl (by simp [e])))
              have hln : (lineSet m1 n v).length ≤ m1.length + 1 := by rw [HLS.out]; exact fput_len _ _ _
              clear hm4 hg4 hk4 c0 c1 c2 c3
              go_wp2_with fail
              go_roundg r.length
              case rel => exact ⟨ofL r, lineSet m1 n v, rfl, rfl, HE.out, HA4.out, HT4.out, by omega, by omega⟩
              case measure => have := Hk.out; omega
end Go.Proofs.YtodmnogoacghpaaGreatDoor
