/- Stanzas: which fields may be one: the program's Right and Print. -/
import Derived.Test.YtpiobckemlkomaaDoorStanD
namespace Go.Proofs.YtpiobckemlkomaaDoor
open Go.RowKit
set_option maxRecDepth 100000
set_option maxHeartbeats 4000000

theorem linesOk_iff (v : ByteArray) : linesOk v = true ↔ ∀ k, k < (linesB v).length → lineS ((linesB v).getD k ⟨#[]⟩) = true ∧ (0 < k → (linesB v).getD k ⟨#[]⟩ ≠ ⟨#[]⟩) := by
  unfold linesOk linesB
  cases e : splitC 10 v.data.toList with
  | nil => exact absurd e (splitC_ne 10 _)
  | cons a ps =>
    simp only [List.headD_cons, List.tail_cons, Bool.and_eq_true, List.all_eq_true, List.map_cons, List.length_cons, List.length_map]
    constructor
    · rintro ⟨h1, h2⟩ k hk
      cases k with
      | zero => exact ⟨h1, fun h => absurd h (by decide)⟩
      | succ k =>
        have hk' : k < ps.length := by omega
        have e1 : (ofL a :: ps.map ofL).getD (k + 1) ⟨#[]⟩ = ofL ps[k] := by simp [List.getD_eq_getElem?_getD, hk']
        rw [e1]
        obtain ⟨h3, h4⟩ := h2 ps[k] (List.getElem_mem hk')
        refine ⟨h3, fun _ h5 => ?_⟩
        have h6 : ps[k] = [] := by
          have := congrArg (fun b : ByteArray => b.data.toList) h5
          exact this
        simp [h6] at h4
    · intro h
      refine ⟨(h 0 (by omega)).1, fun x hx => ?_⟩
      obtain ⟨k, hk, rfl⟩ := List.getElem_of_mem hx
      have e1 : (ofL a :: ps.map ofL).getD (k + 1) ⟨#[]⟩ = ofL ps[k] := by simp [List.getD_eq_getElem?_getD, hk]
      have := h (k + 1) (by omega)
      rw [e1] at this
      refine ⟨this.1, ?_⟩
      rw [decide_eq_true_iff]
      intro h0
      exact this.2 (by omega) (by rw [h0]; rfl)
theorem linesOk_no {v : ByteArray} {k : Nat} (hk : k < (linesB v).length) (h : lineS ((linesB v).getD k ⟨#[]⟩) = false ∨ (0 < k ∧ (linesB v).getD k ⟨#[]⟩ = ⟨#[]⟩)) : linesOk v = false := by
  rw [Bool.eq_false_iff]
  intro h0
  obtain ⟨h1, h2⟩ := (linesOk_iff v).1 h0 k hk
  rcases h with h | ⟨h3, h4⟩
  · rw [h1] at h; cases h
  · exact h2 h3 h4
theorem rightOne_eq {l : List FieldD} {i : Nat} {x y : ByteArray} (h : l.getD i default = (x, y)) : rightOne l i = (nameS x && !(l.take i).any (sameN x) && linesOk y) := by
  unfold rightOne
  rw [h]
theorem rightF_len {l : List FieldD} (h : ¬ (1 ≤ l.length ∧ l.length ≤ 40)) : rightF l = false := by
  unfold rightF
  have : (decide (1 ≤ l.length) && decide (l.length ≤ 40)) = false := by
    rw [Bool.and_eq_false_iff, decide_eq_false_iff_not, decide_eq_false_iff_not]
    omega
  rw [this]
  rfl
theorem rightF_no {l : List FieldD} {i : Nat} (hi : i < l.length) (h : rightOne l i = false) : rightF l = false := by
  unfold rightF
  have : (List.range l.length).all (rightOne l) = false := by
    rw [List.all_eq_false]
    exact ⟨i, List.mem_range.2 hi, by simp [h]⟩
  rw [this]
  simp
theorem rightF_end {l : List FieldD} (h : 1 ≤ l.length ∧ l.length ≤ 40) (h2 : ∀ j, j < l.length → rightOne l j = true) : rightF l = decide ((textL l).length ≤ 4000) := by
  unfold rightF
  have : (List.range l.length).all (rightOne l) = true := by
    rw [List.all_eq_true]
    exact fun j hj => h2 j (List.mem_range.1 hj)
  rw [this, decide_eq_true h.1, decide_eq_true h.2]
  rfl
theorem rightOne_lines {l : List FieldD} {i : Nat} (h : rightOne l i = true) : linesOk (l.getD i default).2 = true := by
  unfold rightOne at h
  rw [Bool.and_eq_true] at h
  exact h.2
theorem tailOk_of {l : List FieldD} (h : ∀ j, j < l.length → rightOne l j = true) : TailOk l := by
  intro f hf x hx
  obtain ⟨j, hj, rfl⟩ := List.getElem_of_mem hf
  have h1 := rightOne_lines (h j hj)
  have e : l.getD j default = l[j] := by simp [List.getD, List.getElem?_eq_getElem hj]
  rw [e] at h1
  unfold linesOk at h1
  rw [Bool.and_eq_true, List.all_eq_true] at h1
  have := h1.2 x hx
  rw [Bool.and_eq_true] at this
  exact of_decide_eq_true this.2
theorem Flds.take {w : World} {b : Nat} {o m cap : Nat} {l : List FieldD} (h : Flds w (.slice (some ⟨b, o, none⟩) m cap) l) (i : Nat) (hi : i ≤ l.length) : Flds w (.slice (some ⟨b, o, none⟩) i cap) (l.take i) := by
  obtain ⟨⟨a, cap', e, h1, h2, h3⟩, hs⟩ := h
  cases e
  have hl : (l.take i).length = i := by rw [List.length_take]; omega
  refine ⟨⟨_, _, by rw [hl], by omega, h2, ?_⟩, fun f hf => hs f (List.mem_of_mem_take hf)⟩
  rcases h3 with h3 | ⟨b', o', e, hb, hc⟩
  · left; omega
  · cases e
    refine Or.inr ⟨b, o, rfl, hb, fun j k hj hk => ?_⟩
    rw [hl] at hj
    have e1 : (l.take i).getD j default = l.getD j default := by
      rw [List.getD_eq_getElem?_getD, List.getD_eq_getElem?_getD, List.getElem?_take_of_lt hj]
    dsimp only
    rw [e1]
    exact hc j k (by omega) hk
theorem rightF_all {l : List FieldD} (h : rightF l = true) : ∀ j, j < l.length → rightOne l j = true := by
  unfold rightF at h
  simp only [Bool.and_eq_true] at h
  intro j hj
  exact List.all_eq_true.1 h.1.2 j (List.mem_range.2 hj)
theorem linesB_le (s : ByteArray) {n : Nat} (h : s.size ≤ n) : (linesB s).length ≤ n + 1 := by
  unfold linesB
  rw [List.length_map]
  have e : s.size = s.data.toList.length := rfl
  rw [e] at h
  generalize s.data.toList = l at h
  induction l generalizing n with
  | nil => simp [splitC]
  | cons c l ih =>
    rw [List.length_cons] at h
    have := ih (n := n - 1) (by omega)
    unfold splitC
    split
    · rw [List.length_cons]; omega
    · have e2 : ∀ q : List (List UInt8), q ≠ [] → (consHead c q).length = q.length := fun q hq => by
        cases q with
        | nil => exact absurd rfl hq
        | cons _ _ => rfl
      rw [e2 _ (splitC_ne 10 l)]
      omega
theorem linesB_size (s : ByteArray) (j : Nat) : ((linesB s).getD j ⟨#[]⟩).size ≤ s.size := by
  rcases Nat.lt_or_ge j (linesB s).length with h | h
  · have hm := mem_getD (⟨#[]⟩ : ByteArray) h
    obtain ⟨x, hx, hxe⟩ := List.mem_map.1 hm
    rw [← hxe]
    have : ∀ (l : List UInt8) (x : List UInt8), x ∈ splitC 10 l → x.length ≤ l.length := by
      intro l
      induction l with
      | nil =>
        intro x hx
        have : x = [] := by simpa [splitC] using hx
        rw [this]
        exact Nat.le_refl _
      | cons c l ih =>
        intro x hx
        unfold splitC at hx
        split at hx
        · rcases List.mem_cons.1 hx with h | h
          · rw [h]; simp
          · have := ih x h; rw [List.length_cons]; omega
        · cases e : splitC 10 l with
          | nil => exact absurd e (splitC_ne 10 l)
          | cons p ps =>
            rw [e] at hx
            rcases List.mem_cons.1 hx with h | h
            · have := ih p (by rw [e]; exact List.mem_cons_self ..)
              rw [h, List.length_cons, List.length_cons]
              omega
            · have := ih x (by rw [e]; exact List.mem_cons_of_mem _ h)
              rw [List.length_cons]
              omega
    exact this _ x hx
  · rw [List.getD_eq_getElem?_getD, List.getElem?_eq_none h]
    exact Nat.zero_le _

theorem right_calls (v : Value) (l : List FieldD) (w : World) (hT : Flds w v l) (hm : MaxV w) (hl : l.length ≤ 60) :
    Calls Tryd.prog 16 #[v] w fun e w' => e = .returned (.bool (rightF l)) ∧ Below w.heap.size w w' := by
  have TXT : Hid (∀ w', Below w.heap.size w w' → (∀ j, j < l.length → rightOne l j = true) → Calls Tryd.prog 39 #[v] w' fun e w'' => e = .returned (.string (ofL (textL l))) ∧ Below w'.heap.size w' w'') := fun w' hb h => text_calls v l w' (hT.below hb (Nat.le_refl _)) (hm.below hb hm.lt) hl (tailOk_of h)
  have HFl := Lib.hid hT
  have hlen := textL_len l hT.2
  obtain ⟨⟨a, cap, rfl, hcap, hmax, hcell⟩, hsz⟩ := hT
  unfold maxLen at hmax
  obtain ⟨m, hm'⟩ : ∃ m, l.length = m := ⟨_, rfl⟩
  have Hcell := Lib.hid hcell
  have Hsz := Lib.hid hsz
  have HMax := Lib.hid hm
  clear hcell hsz hm
  rw [hm'] at hcap Hcell hl TXT HFl hlen
  have HTLn : Hid ((textL l).length ≤ 36000000) := by show _ ≤ _; omega
  have Hm := Lib.hid hm'
  clear hlen
  rw [hm']
  clear hm'
  obtain ⟨z, hz⟩ : ∃ z, w.heap.size = z := ⟨_, rfl⟩
  have Hz := Lib.hid hz
  rw [hz] at TXT ⊢
  clear hz
  by_cases h0 : m = 0
  · have HF : Hid (rightF l = false) := rightF_len (by rw [Hm.out]; omega)
    have q1 : ((m : Int) == 0) = true := by rw [beq_iff_eq]; omega
    clear TXT
    go_enter Tryd.func16, Tryd.ntmps16
    go_wp2_with fail
    go_ret
    rw [HF.out]
    exact ⟨rfl, Below.refl _ _⟩
  have q1 : ((m : Int) == 0) = false := by rw [beq_eq_false_iff_ne]; omega
  by_cases h1 : 40 < m
  · have HF : Hid (rightF l = false) := rightF_len (by rw [Hm.out]; omega)
    have q2 : decide ((40 : Int) < m) = true := decide_eq_true (by omega)
    clear TXT
    go_enter Tryd.func16, Tryd.ntmps16
    go_wp2_with fail
    go_ret
    rw [HF.out]
    exact ⟨rfl, Below.refl _ _⟩
  have q2 : decide ((40 : Int) < m) = false := decide_eq_false (by omega)
  go_enter Tryd.func16, Tryd.ntmps16
  go_wp2_with fail
  go_loopg [17] m (fun k vk wr => ∃ i : Nat, vk = .int .i64 i ∧ i ≤ m ∧ k = m - i ∧ (∀ j, j < i → rightOne l j = true) ∧ Below z w wr)
  case atStart => exact ⟨0, rfl, Nat.zero_le _, rfl, fun j hj => absurd hj (Nat.not_lt_zero _), Below.refl _ _⟩
  case round =>
    obtain ⟨i, rfl, hi, hk, hall, hB⟩ := hrel
    have Hk := Lib.hid hk
    have HAll := Lib.hid hall
    have HB := Lib.hid hB
    clear hk hall hB
    by_cases hlt : i < m
    · obtain ⟨b, o, rfl, hb, hc⟩ := Hcell.out.resolve_left (by omega)
      rw [Hz.out] at hb
      obtain ⟨t, ht⟩ : ∃ t, l.getD i default = t := ⟨_, rfl⟩
      have hs := SzF.at_ Hsz.out i
      have c0 : wr.cell? ⟨b, o + i * 2, none⟩ = some (.string t.1) := (HB.out.cell (p := ⟨b, o + i * 2, none⟩) hb).trans (by have := hc i 0 hlt (by decide); rw [ht] at this; exact this)
      have c1 : wr.cell? ⟨b, o + i * 2 + 1, none⟩ = some (.string t.2) := (HB.out.cell (p := ⟨b, o + i * 2 + 1, none⟩) hb).trans (by have := hc i 1 hlt (by decide); rw [ht] at this; exact this)
      rw [ht] at hs
      obtain ⟨x, y⟩ := t
      have HT : Hid (l.getD i default = (x, y)) := ht
      dsimp only at c0 c1
      obtain ⟨hs1, hs2⟩ := hs
      dsimp only at hs1 hs2
      have Hs1 := Lib.hid hs1
      have Hs2 := Lib.hid hs2
      have hzr : z ≤ wr.heap.size := by have := HB.out.size; rw [Hz.out] at this; exact this
      have HB0 : Hid (Below z w (wr.alloc (.cells #[.string x, .string y] 48))) := HB.out.alloc hzr _
      have HA0 : Hid ((wr.alloc (.cells #[.string x, .string y] 48)).heap[wr.heap.size]? = some (.cells #[.string x, .string y] 48)) := heap_alloc_new wr _
      obtain ⟨r, hr⟩ : ∃ r, wr.heap.size = r := ⟨_, rfl⟩
      clear hc ht
      go_wp2_with fail
      obtain ⟨w0, hw0⟩ : ∃ w0 : World, wr.alloc (.cells #[.string x, .string y] 48) = w0 := ⟨_, rfl⟩
      rw [hw0] at HB0 HA0 ⊢
      have hw0z : w0.heap.size = r + 1 := by rw [← hw0, ← hr]; simp
      rw [hr] at HA0 hzr
      clear hw0 hr
      have d0 : w0.cell? ⟨r, 0, none⟩ = some (.string x) := by simp [World.cell?, HA0.out]
      have d1 : w0.cell? ⟨r, 1, none⟩ = some (.string y) := by simp [World.cell?, HA0.out]
      have NC := Lib.hid (name_calls x w0 (by omega))
      cases hnm : nameS x
      · rw [hnm] at NC
        have HF : Hid (rightF l = false) := by
          show _ = _
          refine rightF_no (i := i) (by rw [Hm.out]; exact hlt) ?_
          rw [rightOne_eq HT.out, hnm]
          rfl
        clear hnm
        refine NC.out.mono ?_
        rintro e1 w1 ⟨rfl, rfl⟩
        go_wp2_with fail
        go_ret
        rw [HF.out]
        exact ⟨rfl, HB0.out⟩
      rw [hnm] at NC
      have HNM := Lib.hid hnm
      clear hnm
      refine NC.out.mono ?_
      rintro e1 w0' ⟨rfl, hw⟩
      subst hw
      clear NC
      have CF : Hid (Calls Tryd.prog 35 #[.slice (some ⟨b, o, none⟩) i cap, .func (.func 41) #[] #[.pointer (some ⟨r, 0, none⟩)]] w0 fun e w' => e = .returned (.bool ((l.take i).any (sameN x))) ∧ Below w0.heap.size w0 w') := by
        refine containsFld_calls _ (l.take i) _ _ (sameN x) w0 ((HFl.out.take i (by rw [Hm.out]; exact hi)).below (B := z) HB0.out (by rw [Hz.out]; exact Nat.le_refl _)) right1_enters ?_
        intro g hg w' hb'
        exact right1_calls g r x w' (Hsz.out g (List.mem_of_mem_take hg)) Hs1.out (by have := hb'.size; omega) ((hb'.cell (p := ⟨r, 0, none⟩) (by show r < _; omega)).trans d0)
      have hcapi : i ≤ cap := by omega
      cases han : (l.take i).any (sameN x)
      case' true =>
        rw [han] at CF
        have HF : Hid (rightF l = false) := by
          show _ = _
          refine rightF_no (i := i) (by rw [Hm.out]; exact hlt) ?_
          rw [rightOne_eq HT.out, han]
          simp
        clear han
        go_wp2_with fail
        refine CF.out.mono ?_
        rintro e2 w1 ⟨rfl, hb1⟩
        have HB1 : Hid (Below z w w1) := HB0.out.trans (hb1.mono (by omega))
        clear hb1 CF
        go_wp2_with fail
        go_ret
        rw [HF.out]
        exact ⟨rfl, HB1.out⟩
      rw [han] at CF
      have HAN := Lib.hid han
      clear han
      go_wp2_with fail
      refine CF.out.mono ?_
      rintro e2 w1 ⟨rfl, hb1⟩
      have HB1 : Hid (Below z w w1) := HB0.out.trans (hb1.mono (by omega))
      have d1' : w1.cell? ⟨r, 1, none⟩ = some (.string y) := (hb1.cell (p := ⟨r, 1, none⟩) (by show r < _; omega)).trans d1
      have hr1 : r < w1.heap.size := by have := hb1.size; omega
      clear hb1 CF d0 d1 c0 c1
      have SP := Lib.hid (split_calls y w1 (by omega) (HMax.out.below HB1.out (by rw [← Hz.out]; exact HMax.out.lt)))
      obtain ⟨ls, hls⟩ : ∃ ls, linesB y = ls := ⟨_, rfl⟩
      obtain ⟨nl, hnl⟩ : ∃ nl, ls.length = nl := ⟨_, rfl⟩
      rw [hls, hnl] at SP
      have hnle : nl ≤ 100001 := by
        rw [← hnl, ← hls]
        exact linesB_le y Hs2.out
      have HLC : Hid (∀ j, j < nl → (w1.alloc (.cells (ls.map Value.string).toArray 9)).cell? ⟨w1.heap.size, j, none⟩ = some (.string (ls.getD j ⟨#[]⟩))) := fun j hj => by
        rw [← hls]
        exact linesB_cell y w1 (by rw [hls, hnl]; exact hj)
      have HB2 : Hid (Below z w (w1.alloc (.cells (ls.map Value.string).toArray 9))) := HB1.out.alloc (by have := HB1.out.size; rw [Hz.out] at this; exact this) _
      obtain ⟨q, hq⟩ : ∃ q, w1.heap.size = q := ⟨_, rfl⟩
      have HLS := Lib.hid (And.intro hls hnl)
      rw [hq] at SP HLC
      have hq2 : (w1.alloc (.cells (ls.map Value.string).toArray 9)).heap.size = q + 1 := by simp [hq]
      obtain ⟨w2, hw2⟩ : ∃ w2 : World, w1.alloc (.cells (ls.map Value.string).toArray 9) = w2 := ⟨_, rfl⟩
      rw [hw2] at SP HLC HB2 hq2
      have Hq2 := Lib.hid hq2
      clear hls hnl hq hq2 hw2
      go_wp2_with fail
      refine SP.out.mono ?_
      rintro e4 w3 ⟨rfl, rfl⟩
      obtain ⟨w2, rfl⟩ : ∃ w2, w2 = w3 := ⟨_, rfl⟩
      clear SP
      clear d1' hr1
      go_wp2_with fail
      go_loopg [37] nl (fun k vk wi => ∃ j : Nat, vk = .int .i64 j ∧ j ≤ nl ∧ k = nl - j ∧ (∀ p, p < j → lineS (ls.getD p ⟨#[]⟩) = true ∧ (0 < p → ls.getD p ⟨#[]⟩ ≠ ⟨#[]⟩)) ∧ Below (q + 1) w2 wi)
      case atStart => exact ⟨0, rfl, Nat.zero_le _, rfl, fun p hp => absurd hp (Nat.not_lt_zero _), Below.refl _ _⟩
      case round =>
        obtain ⟨j, rfl, hj, hkj, hdone, hBi⟩ := hrel
        have Hkj := Lib.hid hkj
        have HD := Lib.hid hdone
        have HBi := Lib.hid hBi
        clear hkj hdone hBi
        have HZI : Hid (Below z w wr) := HB2.out.trans (HBi.out.mono (by have := HB2.out.size; rw [Hz.out, Hq2.out] at this; exact this))
        by_cases hjl : j < nl
        · have hcell := (HBi.out.cell (p := ⟨q, j, none⟩) (Nat.lt_succ_self q)).trans (HLC.out j hjl)
          have hql : q < wr.heap.size := by have := HBi.out.size; rw [Hq2.out] at this; omega
          obtain ⟨t, ht⟩ : ∃ t, ls.getD j ⟨#[]⟩ = t := ⟨_, rfl⟩
          rw [ht] at hcell
          have htl : t.size ≤ 100000 := by
            rw [← ht, ← HLS.out.1]
            exact Nat.le_trans (linesB_size y j) Hs2.out
          have HT' := Lib.hid ht
          clear ht
          have LC := Lib.hid (line_calls t wr (by omega))
          cases hlt' : lineS t
          · rw [hlt'] at LC
            have HF : Hid (rightF l = false) := by
              show _ = _
              refine rightF_no (i := i) (by rw [Hm.out]; exact hlt) ?_
              rw [rightOne_eq HT.out, linesOk_no (v := y) (k := j) (by rw [HLS.out.1, HLS.out.2]; exact hjl) (Or.inl (by rw [HLS.out.1, HT'.out]; exact hlt'))]
              simp
            clear hlt'
            go_wp2_with fail
            refine LC.out.mono ?_
            rintro e5 w5 ⟨rfl, hb5⟩
            have HB5 : Hid (Below z w w5) := HZI.out.trans (hb5.mono (by have := HZI.out.size; rw [Hz.out] at this; exact this))
            clear hb5 LC
            go_wp2_with fail
            go_ret
            rw [HF.out]
            exact ⟨rfl, HB5.out⟩
          · rw [hlt'] at LC
            have HLT := Lib.hid hlt'
            clear hlt'
            by_cases hj0 : j = 0
            · have HDN : Hid (∀ p, p < j + 1 → lineS (ls.getD p ⟨#[]⟩) = true ∧ (0 < p → ls.getD p ⟨#[]⟩ ≠ ⟨#[]⟩)) := fun p hp => by
                rcases Nat.lt_or_ge p j with h | h
                · exact HD.out p h
                · have : p = j := by omega
                  rw [this, HT'.out]
                  exact ⟨HLT.out, fun h => by omega⟩
              have hj1 : decide ((j : Int) > 0) = false := decide_eq_false (by omega)
              have hj2 : decide ((0 : Int) < j) = false := decide_eq_false (by omega)
              have hj3 : decide (0 < j) = false := decide_eq_false (by omega)
              have hj4 : ¬ 0 < j := by omega
              clear hj0
              go_wp2_with fail
              refine LC.out.mono ?_
              rintro e5 w5 ⟨rfl, hb5⟩
              have HB5 : Hid (Below (q + 1) w2 w5) := HBi.out.trans (hb5.mono (by have := HBi.out.size; rw [Hq2.out] at this; exact this))
              clear hb5 LC
              go_wp2_with fail
              go_roundg (nl - (j + 1))
              case rel => exact ⟨j + 1, by go_num, by omega, rfl, HDN.out, HB5.out⟩
              case measure => have := Hkj.out; omega
            · have hj1 : decide ((j : Int) > 0) = true := decide_eq_true (by omega)
              have hj2 : decide ((0 : Int) < j) = true := decide_eq_true (by omega)
              have hj3 : decide (0 < j) = true := decide_eq_true (by omega)
              have hj4 : 0 < j := by omega
              by_cases ht0 : t.size = 0
              · have HF : Hid (rightF l = false) := by
                  show _ = _
                  refine rightF_no (i := i) (by rw [Hm.out]; exact hlt) ?_
                  have ht9 : t = ⟨#[]⟩ := toL_iff.1 ((emptyL ht0).1.trans (emptyL (s := ⟨#[]⟩) rfl).1.symm)
                  rw [rightOne_eq HT.out, linesOk_no (v := y) (k := j) (by rw [HLS.out.1, HLS.out.2]; exact hjl) (Or.inr ⟨hj4, by rw [HLS.out.1, HT'.out]; exact ht9⟩)]
                  simp
                obtain ⟨t1, t2⟩ := emptyL ht0
                clear hj0 ht0
                go_wp2_with fail
                refine LC.out.mono ?_
                rintro e5 w5 ⟨rfl, hb5⟩
                have HB5 : Hid (Below z w w5) := HZI.out.trans (hb5.mono (by have := HZI.out.size; rw [Hz.out] at this; exact this))
                clear hb5 LC
                go_wp2_with fail
                go_ret
                rw [HF.out]
                exact ⟨rfl, HB5.out⟩
              · have HDN : Hid (∀ p, p < j + 1 → lineS (ls.getD p ⟨#[]⟩) = true ∧ (0 < p → ls.getD p ⟨#[]⟩ ≠ ⟨#[]⟩)) := fun p hp => by
                  rcases Nat.lt_or_ge p j with h | h
                  · exact HD.out p h
                  · have : p = j := by omega
                    rw [this, HT'.out]
                    exact ⟨HLT.out, fun _ h9 => ht0 (by rw [h9]; rfl)⟩
                obtain ⟨t1, t2⟩ := emptyN ht0
                clear hj0 ht0
                go_wp2_with fail
                refine LC.out.mono ?_
                rintro e5 w5 ⟨rfl, hb5⟩
                have HB5 : Hid (Below (q + 1) w2 w5) := HBi.out.trans (hb5.mono (by have := HBi.out.size; rw [Hq2.out] at this; exact this))
                clear hb5 LC
                go_wp2_with fail
                go_roundg (nl - (j + 1))
                case rel => exact ⟨j + 1, by go_num, by omega, rfl, HDN.out, HB5.out⟩
                case measure => have := Hkj.out; omega
        · have HR1 : Hid (∀ p, p < i + 1 → rightOne l p = true) := fun p hp => by
            rcases Nat.lt_or_ge p i with h | h
            · exact HAll.out p h
            · have : p = i := by omega
              rw [this, rightOne_eq HT.out, HNM.out, HAN.out]
              have : linesOk y = true := (linesOk_iff y).2 (fun k hk => by
                rw [HLS.out.1] at hk ⊢
                exact HD.out k (by rw [HLS.out.2] at hk; omega))
              rw [this]
              rfl
          go_wp2_with fail
          go_roundg (m - (i + 1))
          case rel => exact ⟨i + 1, by go_num, by omega, rfl, HR1.out, HZI.out⟩
          case measure => have := Hk.out; omega
    · obtain rfl : i = m := by omega
      have TT := Lib.hid (TXT.out wr HB.out HAll.out)
      have HE := Lib.hid (rightF_end (l := l) (by rw [Hm.out]; omega) (by rw [Hm.out]; exact HAll.out))
      go_wp2_with fail
      refine TT.out.mono ?_
      rintro e9 w9 ⟨rfl, hb9⟩
      have HB9 : Hid (Below z w w9) := HB.out.trans (hb9.mono (by have := HB.out.size; rw [Hz.out] at this; exact this))
      obtain ⟨S, hS⟩ : ∃ S, ofL (textL l) = S := ⟨_, rfl⟩
      have hSs : (textL l).length = S.size := by rw [← hS]; rfl
      rw [hSs] at HE HTLn
      have hS0 := HTLn.out
      rw [hS]
      clear hb9 TT hS hSs TXT
      by_cases h4 : S.size ≤ 4000
      · have HR : Hid (rightF l = true) := HE.out.trans (decide_eq_true h4)
        have q1 : decide ((S.size : Int) ≤ 4000) = true := decide_eq_true (by omega)
        go_wp2_with fail
        go_ret
        rw [HR.out]
        exact ⟨by first | rfl | simp, HB9.out⟩
      · have HR : Hid (rightF l = false) := HE.out.trans (decide_eq_false h4)
        have q1 : decide ((S.size : Int) ≤ 4000) = false := decide_eq_false (by omega)
        go_wp2_with fail
        go_ret
        rw [HR.out]
        exact ⟨by first | rfl | simp, HB9.out⟩

theorem print_calls (v : Value) (l : List FieldD) (w : World) (hT : Flds w v l) (hm : MaxV w) (hl : l.length ≤ 60) :
    Calls Tryd.prog 12 #[v] w fun e w' => e = .returned (if rightF l = true then .tuple #[.string (ofL (textL l)), .nilIface] else .tuple #[.string ⟨#[]⟩, .iface 23 (.int .i64 1)]) ∧ Below w.heap.size w w' := by
  have RC := Lib.hid (right_calls v l w hT hm hl)
  cases hr : rightF l
  · rw [hr] at RC
    rw [if_neg (by decide)]
    clear hr
    go_enter Tryd.func12, Tryd.ntmps12
    go_wp2_with fail
    refine RC.out.mono ?_
    rintro e1 w1 ⟨rfl, hb⟩
    clear RC
    go_wp2_with fail
    go_ret2
    exact ⟨rfl, hb⟩
  · have HTO : Hid (∀ w', Below w.heap.size w w' → Calls Tryd.prog 39 #[v] w' fun e w'' => e = .returned (.string (ofL (textL l))) ∧ Below w'.heap.size w' w'') := fun w' hb => text_calls v l w' (hT.below hb (Nat.le_refl _)) (hm.below hb hm.lt) hl (tailOk_of (rightF_all hr))
    rw [hr] at RC
    rw [if_pos rfl]
    clear hr
    go_enter Tryd.func12, Tryd.ntmps12
    go_wp2_with fail
    refine RC.out.mono ?_
    rintro e1 w1 ⟨rfl, hb⟩
    clear RC
    go_wp2_with fail
    refine (HTO.out w1 hb).mono ?_
    rintro e2 w2 ⟨rfl, hb2⟩
    go_wp2_with fail
    go_ret2
    exact ⟨rfl, hb.trans (hb2.mono hb.size)⟩
end Go.Proofs.YtpiobckemlkomaaDoor
