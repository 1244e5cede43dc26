/- Stanzas: Small: the program's and the document's. -/
import Derived.Test.YtpiobckemlkomaaDoorStanA2
import Derived.Test.YtpiobckemlkomaaDoorData
import Derived.Laws.IdiomStrings
import Derived.Laws.OwnMore
import Derived.OwnWalk
namespace Go.Proofs.YtpiobckemlkomaaDoor
open Go.RowKit
set_option maxRecDepth 100000
set_option maxHeartbeats 4000000

theorem blk_same (w : World) (b o : Nat) (v : Value) {c : Array Value} {t : TypeId} {fr : Nat × Nat} (h : w.heap[b]? = some (.cells c t fr)) : (w.setCell ⟨b, o, none⟩ v).heap[b]? = some (.cells (c.setIfInBounds o v) t fr) := by
  unfold World.setCell
  rw [Array.getElem?_modify, if_pos rfl, h]
  rfl
theorem blk_lt {w : World} {k : Nat} {o : Obj} (h : w.heap[k]? = some o) : k < w.heap.size := by
  rcases Nat.lt_or_ge k w.heap.size with h' | h'
  · exact h'
  · rw [Array.getElem?_eq_none h'] at h; cases h
/-- A row of bytes in block z, that may be written. -/
def BytesAt (W : World) (z : Nat) (l : List UInt8) : Prop := ∃ (C : Array Value) (t : TypeId) (lo hi : Nat), W.heap[z]? = some (.cells C t (lo, hi)) ∧ l.length ≤ C.size ∧ (∀ j, j < l.length → ¬ (lo ≤ j ∧ j < hi)) ∧ ∀ j (h : j < l.length), C[j]? = some (.int .u8 ((l[j]'h).toNat : Int))
theorem BytesAt.lt {W : World} {z : Nat} {l : List UInt8} (h : BytesAt W z l) : z < W.heap.size := by
  obtain ⟨C, t, lo, hi, h1, _⟩ := h
  exact blk_lt h1
theorem BytesAt.cell {W : World} {z : Nat} {l : List UInt8} (h : BytesAt W z l) {j : Nat} (hj : j < l.length) : W.cell? ⟨z, j, none⟩ = some (.int .u8 ((l[j]'hj).toNat : Int)) ∧ W.frozen? ⟨z, j, none⟩ = false := by
  obtain ⟨C, t, lo, hi, h1, h2, h3, h4⟩ := h
  refine ⟨?_, ?_⟩
  · unfold World.cell?
    rw [h1]
    simpa using h4 j hj
  · unfold World.frozen?
    rw [h1]
    have := h3 j hj
    simp only [Bool.and_eq_false_iff, decide_eq_false_iff_not]
    omega
theorem BytesAt.set {W : World} {z : Nat} {l : List UInt8} (h : BytesAt W z l) (i : Nat) (c : UInt8) : BytesAt (W.setCell ⟨z, i, none⟩ (.int .u8 (c.toNat : Int))) z (l.set i c) := by
  obtain ⟨C, t, lo, hi, h1, h2, h3, h4⟩ := h
  refine ⟨_, t, lo, hi, blk_same W z i _ h1, by simpa using h2, fun j hj => h3 j (by simpa using hj), fun j hj => ?_⟩
  rw [List.length_set] at hj
  rw [Array.getElem?_setIfInBounds]
  by_cases e : i = j
  · subst e
    rw [if_pos rfl, if_pos (by omega)]
    simp
  · rw [if_neg e, h4 j hj]
    simp [e]
theorem BytesAt.heap {W W' : World} {z : Nat} {l : List UInt8} (h : BytesAt W z l) (e : W'.heap = W.heap) : BytesAt W' z l := by
  obtain ⟨C, t, lo, hi, h1, h2⟩ := h
  exact ⟨C, t, lo, hi, by rw [e]; exact h1, h2⟩
theorem BytesAt.back {W : World} {z : Nat} {l : List UInt8} (h : BytesAt W z l) (cap n : Nat) (hn : n = l.length) : (convert 67 9 (.slice (some ⟨z, 0, none⟩) n cap)).run Tryd.prog W = .ok (.string (ofL l)) W := by
  subst hn
  refine run_convert_bytes_back W 67 9 5 ⟨z, 0, none⟩ cap l Tryd.underlying67 Tryd.underlying5 Tryd.underlying9 ?_
  intro j hj
  have e : (⟨z, 0, none⟩ : Addr).add j = ⟨z, j, none⟩ := by rw [addr_add, Nat.zero_add]
  rw [e]
  exact (h.cell hj).1
theorem conv_in (s : ByteArray) (w : World) : ∃ (W1 : World) (cap : Nat), (convert 9 67 (.string s)).run Tryd.prog w = .ok (.slice (some ⟨w.heap.size, 0, none⟩) s.size cap) W1 ∧ BytesAt W1 w.heap.size s.data.toList ∧ Below w.heap.size w W1 := by
  refine ⟨_, _, run_bytes_of_string w 9 67 5 s Tryd.underlying9 Tryd.underlying67 Tryd.underlying5, ?_, (Below.refl _ _).drew.alloc (Nat.le_refl _) _⟩
  obtain ⟨C, hC⟩ : ∃ C, bytesRow s (grownCap w s.size 0 5) = C := ⟨_, rfl⟩
  have hl : s.data.toList.length ≤ C.size := by
    rw [← hC]
    unfold bytesRow
    simp
  rw [hC]
  refine ⟨C, 5, C.size, C.size + 1, ?_, hl, fun j hj => by omega, fun j hj => ?_⟩
  · exact heap_alloc_new w.drew _
  · have hj' : j < s.data.size := hj
    have := bytesRow_at s (grownCap w s.size 0 5) j hj'
    rw [hC] at this
    rw [this]
    rfl

/-- The first i bytes in small letters. -/
def smallAt (l : List UInt8) (i : Nat) : List UInt8 := (l.take i).map lowC ++ l.drop i
theorem smallAt_len (l : List UInt8) (i : Nat) : (smallAt l i).length = l.length := by
  unfold smallAt
  rw [List.length_append, List.length_map, ← List.length_append, List.take_append_drop]
theorem smallAt_get {l : List UInt8} {i : Nat} (h : i < l.length) : (smallAt l i)[i]'(by rw [smallAt_len]; exact h) = l[i] := by
  unfold smallAt
  rw [List.getElem_append_right (by simp; omega)]
  have e : i + (i - min i l.length) = i := by omega
  simp [e]
theorem smallAt_set {l : List UInt8} {i : Nat} (h : i < l.length) : (smallAt l i).set i (lowC l[i]) = smallAt l (i + 1) := by
  unfold smallAt
  have h0 : (List.map lowC (List.take i l)).length = i := by simp; omega
  rw [List.set_append_right _ _ (by omega), h0, Nat.sub_self, List.take_succ_eq_append_getElem h, List.map_append, List.append_assoc]
  congr 1
  rw [List.drop_eq_getElem_cons h]
  rfl
theorem smallAt_same {l : List UInt8} {i : Nat} (h : i < l.length) (hc : lowC l[i] = l[i]) : smallAt l i = smallAt l (i + 1) := by
  rw [← smallAt_set h, hc]
  have := smallAt_get h
  conv => rhs; rw [← this]
  rw [List.set_getElem_self]
theorem smallAt_end (l : List UInt8) : smallAt l l.length = l.map lowC := by
  unfold smallAt
  simp
theorem lowC_big {c : UInt8} (h : 65 ≤ c.toNat) (h2 : c.toNat ≤ 90) : (lowC c).toNat = c.toNat + 32 := by
  unfold lowC
  rw [if_pos ⟨h, h2⟩, UInt8.toNat_add]
  show (c.toNat + 32) % 256 = _
  omega
theorem lowC_other {c : UInt8} (h : ¬ (65 ≤ c.toNat ∧ c.toNat ≤ 90)) : lowC c = c := by
  unfold lowC
  rw [if_neg h]

theorem small_calls (s : ByteArray) (w : World) (hs : s.size ≤ 1000000) :
    Calls Tryd.prog 18 #[.string s] w fun e w' => e = .returned (.string (smallB s)) ∧ Below w.heap.size w w' := by
  obtain ⟨W1, cap, hconv, hB1, hb1⟩ := conv_in s w
  obtain ⟨l, hl⟩ : ∃ l, s.data.toList = l := ⟨_, rfl⟩
  have hll : l.length = s.size := by rw [← hl]; rfl
  have HE : Hid (smallB s = ofL (l.map lowC)) := by show _ = _; rw [← hl]; rfl
  rw [hl] at hB1
  have HB1 := Lib.hid hB1
  have Hb1 := Lib.hid hb1
  have Hll := Lib.hid hll
  obtain ⟨n, hn⟩ : ∃ n, s.size = n := ⟨_, rfl⟩
  have Hn : Hid (l.length = n) := hll.trans hn
  rw [hn] at hconv hs
  obtain ⟨z, hz⟩ : ∃ z, w.heap.size = z := ⟨_, rfl⟩
  rw [hz] at hconv HB1 Hb1 ⊢
  clear hB1 hb1 hll hl hn hz
  go_enter Tryd.func18, Tryd.ntmps18
  go_wp2_with fail
  clear hconv
  go_loopg [10] n (fun k v10 wr => ∃ i : Nat, v10 = .int .i64 i ∧ i ≤ n ∧ k = n - i ∧ Below z w wr ∧ BytesAt wr z (smallAt l i))
  case atStart => exact ⟨0, rfl, Nat.zero_le _, rfl, Hb1.out, HB1.out⟩
  case round =>
    obtain ⟨i, rfl, hi, hk, hB, hA⟩ := hrel
    have Hk := Lib.hid hk
    have HB := Lib.hid hB
    have HA := Lib.hid hA
    clear hk hB hA
    by_cases hlt : i < n
    · have hil : i < l.length := by rw [Hn.out]; exact hlt
      have hcell := HA.out.cell (j := i) (by rw [smallAt_len]; exact hil)
      rw [smallAt_get hil] at hcell
      obtain ⟨c, hc⟩ : ∃ c, l[i]'hil = c := ⟨_, rfl⟩
      rw [hc] at hcell
      obtain ⟨m, hm⟩ : ∃ m, c.toNat = m := ⟨_, rfl⟩
      have hm256 : m < 256 := by rw [← hm]; exact c.toNat_lt
      obtain ⟨d1, d2⟩ := hcell
      rw [hm] at d1
      have Hil := Lib.hid hil
      have HC : Hid (∀ h : i < l.length, l[i]'h = c) := fun _ => hc
      have Hm := Lib.hid hm
      have hzl : z < wr.heap.size := HA.out.lt
      clear hc hm
      by_cases h1 : 65 ≤ m ∧ m ≤ 90
      · obtain ⟨h1, h2⟩ := h1
        have q1 : decide ((65 : Int) ≤ m) = true := decide_eq_true (by omega)
        have q2 : decide ((m : Int) ≤ 90) = true := decide_eq_true (by omega)
        have e1 : IntKind.u8.wrap ((m : Int) + 97) = (m : Int) + 97 := by rw [IntKind.wrap_u8]; omega
        have e2 : IntKind.u8.wrap ((m : Int) + 97 - 65) = (m : Int) + 32 := by rw [IntKind.wrap_u8]; omega
        have HS : Hid (BytesAt (wr.setCell ⟨z, i, none⟩ (.int .u8 ((m : Int) + 32))) z (smallAt l (i + 1))) := by
          have h := HA.out.set i (lowC c)
          have hl1 : (lowC c).toNat = m + 32 := by rw [lowC_big (by rw [Hm.out]; exact h1) (by rw [Hm.out]; exact h2), Hm.out]
          rw [hl1, ← HC.out Hil.out, smallAt_set Hil.out] at h
          exact h
        have HB2 : Hid (Below z w (wr.setCell ⟨z, i, none⟩ (.int .u8 ((m : Int) + 32)))) := HB.out.setCell (p := ⟨z, i, none⟩) (Nat.le_refl _) _
        go_wp2_with fail
        go_roundg (n - (i + 1))
        case rel => exact ⟨i + 1, by go_num, by omega, rfl, HB2.out, HS.out⟩
        case measure => have := Hk.out; omega
      · have HS : Hid (BytesAt wr z (smallAt l (i + 1))) := by
          show BytesAt _ _ _
          rw [← smallAt_same Hil.out (by rw [HC.out Hil.out]; exact lowC_other (by rw [Hm.out]; exact h1))]
          exact HA.out
        by_cases h3 : 65 ≤ m
        · have q1 : decide ((65 : Int) ≤ m) = true := decide_eq_true (by omega)
          have q2 : decide ((m : Int) ≤ 90) = false := decide_eq_false (by omega)
          clear h1
          go_wp2_with fail
          go_roundg (n - (i + 1))
          case rel => exact ⟨i + 1, by go_num, by omega, rfl, HB.out, HS.out⟩
          case measure => have := Hk.out; omega
        · have q1 : decide ((65 : Int) ≤ m) = false := decide_eq_false (by omega)
          clear h1
          go_wp2_with fail
          go_roundg (n - (i + 1))
          case rel => exact ⟨i + 1, by go_num, by omega, rfl, HB.out, HS.out⟩
          case measure => have := Hk.out; omega
    · obtain rfl : i = n := by omega
      have hA := HA.out
      rw [← Hn.out, smallAt_end] at hA
      have hback := hA.back cap i (by rw [List.length_map]; exact Hn.out.symm)
      rw [← HE.out] at hback
      clear hA
      go_wp2_with fail
      go_ret
      exact ⟨rfl, HB.out⟩

theorem info_u8 : (Tryd.prog.info? 5).map (fun i => (i.zero, i.size, i.bytes)) = some (some (.int .u8 0), 1, 1) := by kernel_rfl
/-- The first i bytes in small letters, noughts behind. -/
def zeroAt (l : List UInt8) (i : Nat) : List UInt8 := (l.take i).map lowC ++ List.replicate (l.length - i) 0
theorem zeroAt_len {l : List UInt8} {i : Nat} (h : i ≤ l.length) : (zeroAt l i).length = l.length := by
  unfold zeroAt
  simp
  omega
theorem zeroAt_set {l : List UInt8} {i : Nat} (h : i < l.length) : (zeroAt l i).set i (lowC l[i]) = zeroAt l (i + 1) := by
  unfold zeroAt
  have h0 : (List.map lowC (List.take i l)).length = i := by simp; omega
  rw [List.set_append_right _ _ (by omega), h0, Nat.sub_self, List.take_succ_eq_append_getElem h, List.map_append, List.append_assoc]
  congr 1
  have e : l.length - i = (l.length - (i + 1)) + 1 := by omega
  rw [e, List.replicate_succ]
  rfl
theorem zeroAt_end (l : List UInt8) : zeroAt l l.length = l.map lowC := by
  unfold zeroAt
  simp
theorem rsmall_calls (s : ByteArray) (w : World) (hs : s.size ≤ 1000000) :
    Calls Tryd.prog 19 #[.string s] w fun e w' => e = .returned (.string (smallB s)) ∧ Below w.heap.size w w' := by
  obtain ⟨i0, hi0, hz0, hz1, hz2⟩ := info_parts info_u8
  have Hi0 := Lib.hid (And.intro hi0 (And.intro hz0 (And.intro hz1 hz2)))
  obtain ⟨l, hl⟩ : ∃ l, s.data.toList = l := ⟨_, rfl⟩
  have hll : l.length = s.size := by rw [← hl]; rfl
  have HE : Hid (smallB s = ofL (l.map lowC)) := by show _ = _; rw [← hl]; rfl
  have HL := Lib.hid hl
  obtain ⟨n, hn⟩ : ∃ n, s.size = n := ⟨_, rfl⟩
  have Hn : Hid (l.length = n) := hll.trans hn
  have Hs : Hid (s.size = n) := hn
  rw [hn] at hs
  obtain ⟨z, hz⟩ : ∃ z, w.heap.size = z := ⟨_, rfl⟩
  have Hz := Lib.hid hz
  rw [hz]
  clear hll hl hz hn hi0 hz0 hz1 hz2
  go_enter Tryd.func19, Tryd.ntmps19
  go_wp2_with (at_make; refine wpList_make_full _ rfl _ _ 67 rfl z 5 i0 (.int .u8 0) 1 Tryd.underlying67 Hi0.out.1 Hi0.out.2.1 Hi0.out.2.2.1 .i64 .i64 _ _ n rfl rfl (by rw [Hs.out]) (by rw [Hs.out]) ?_ ?_ ?_ ?_)
  · rw [Hi0.out.2.2.2]; omega
  · unfold maxLen; omega
  · rw [Hz.out]; exact Nat.le_refl _
  intro w1 hown hgr
  have HB1 : Hid (Below z w w1) := (Below.refl _ _).grown hgr (by rw [Hz.out]; exact Nat.le_refl _) (fun _ e => by cases e)
  have HA1 : Hid (BytesAt w1 z (zeroAt l 0)) := by
    obtain ⟨hlen, h⟩ := hown
    rcases h with ⟨h, _⟩ | ⟨g, cap, cur, e, hg, hh, h1, h2, h3, h4⟩
    · cases h
    · rw [Hz.out] at e
      cases e
      refine ⟨cur, _, 0, 0, hh, ?_, fun j _ => by omega, fun j hj => ?_⟩
      · rw [zeroAt_len (Nat.zero_le _), h3, Hn.out]; omega
      · rw [zeroAt_len (Nat.zero_le _), Hn.out] at hj
        have e0 : (zeroAt l 0)[j]'(by rw [zeroAt_len (Nat.zero_le _), Hn.out]; exact hj) = 0 := by simp [zeroAt]
        rw [e0]
        have h5 := congrArg (fun x : List Value => x[j]?) h4
        rw [List.getElem?_take_of_lt (by omega), Array.getElem?_toList] at h5
        rw [h5]
        simp [madeCells, hj, Nat.mod_one]
  rw [Hz.out]
  clear hown hgr
  go_wp2_with fail
  rw [Hs.out]
  go_loopg [11] n (fun k v11 wr => ∃ i : Nat, v11 = .int .i64 i ∧ i ≤ n ∧ k = n - i ∧ Below z w wr ∧ BytesAt wr z (zeroAt l i))
  case atStart => exact ⟨0, rfl, Nat.zero_le _, rfl, HB1.out, HA1.out⟩
  case round =>
    obtain ⟨i, rfl, hi, hk, hB, hA⟩ := hrel
    have Hk := Lib.hid hk
    have HB := Lib.hid hB
    have HA := Lib.hid hA
    clear hk hB hA
    by_cases hlt : i < n
    · have hil : i < l.length := by rw [Hn.out]; exact hlt
      have his : i < s.size := by rw [Hs.out]; exact hlt
      have d1 := (HA.out.cell (j := i) (by rw [zeroAt_len (Nat.le_of_lt hil)]; exact hil))
      obtain ⟨u, hu⟩ : ∃ u, ((zeroAt l i)[i]'(by rw [zeroAt_len (Nat.le_of_lt hil)]; exact hil)) = u := ⟨_, rfl⟩
      rw [hu] at d1
      obtain ⟨d1, d2⟩ := d1
      obtain ⟨c, hc⟩ : ∃ c, s[i]'his = c := ⟨_, rfl⟩
      have HC : Hid (∀ h : i < l.length, l[i]'h = c) := by
        intro h
        have hg := get_at s i his
        rw [HL.out, hc] at hg
        exact (List.getElem?_eq_some_iff.1 hg).2
      obtain ⟨m, hm⟩ : ∃ m, c.toNat = m := ⟨_, rfl⟩
      have hm256 : m < 256 := by rw [← hm]; exact c.toNat_lt
      have Hil := Lib.hid hil
      have Hm := Lib.hid hm
      have hzl : z < wr.heap.size := HA.out.lt
      have SET : Hid (∀ x : Nat, (lowC c).toNat = x → BytesAt (wr.setCell ⟨z, i, none⟩ (.int .u8 (x : Int))) z (zeroAt l (i + 1))) := by
        intro x hx
        have h := HA.out.set i (lowC c)
        rw [hx, ← HC.out Hil.out, zeroAt_set Hil.out] at h
        exact h
      have SB : Hid (∀ x : Int, Below z w (wr.setCell ⟨z, i, none⟩ (.int .u8 x))) := fun x => HB.out.setCell (p := ⟨z, i, none⟩) (Nat.le_refl _) _
      clear hu hil
      by_cases h1 : 65 ≤ m ∧ m ≤ 90
      · obtain ⟨h1, h2⟩ := h1
        have q1 : decide ((65 : Int) ≤ m) = true := decide_eq_true (by omega)
        have q2 : decide ((m : Int) ≤ 90) = true := decide_eq_true (by omega)
        have e1 : IntKind.u8.wrap ((m : Int) + 32) = (m : Int) + 32 := by rw [IntKind.wrap_u8]; omega
        have HS := Lib.hid (SET.out (m + 32) (by rw [lowC_big (by rw [Hm.out]; exact h1) (by rw [Hm.out]; exact h2), Hm.out]))
        go_wp2_with fail
        go_roundg (n - (i + 1))
        case rel => exact ⟨i + 1, by go_num, by omega, rfl, SB.out _, HS.out⟩
        case measure => have := Hk.out; omega
      · have HS := Lib.hid (SET.out m (by rw [lowC_other (by rw [Hm.out]; exact h1), Hm.out]))
        by_cases h3 : 65 ≤ m
        · have q1 : decide ((65 : Int) ≤ m) = true := decide_eq_true (by omega)
          have q2 : decide ((m : Int) ≤ 90) = false := decide_eq_false (by omega)
          clear h1
          go_wp2_with fail
          go_roundg (n - (i + 1))
          case rel => exact ⟨i + 1, by go_num, by omega, rfl, SB.out _, HS.out⟩
          case measure => have := Hk.out; omega
        · have q1 : decide ((65 : Int) ≤ m) = false := decide_eq_false (by omega)
          clear h1
          go_wp2_with fail
          go_roundg (n - (i + 1))
          case rel => exact ⟨i + 1, by go_num, by omega, rfl, SB.out _, HS.out⟩
          case measure => have := Hk.out; omega
    · obtain rfl : i = n := by omega
      have hA := HA.out
      rw [← Hn.out, zeroAt_end] at hA
      have hback := hA.back i i (by rw [List.length_map]; exact Hn.out.symm)
      rw [← HE.out] at hback
      clear hA
      go_wp2_with fail
      go_ret
      exact ⟨rfl, HB.out⟩
end Go.Proofs.YtpiobckemlkomaaDoor
