/- slices.Sorted(maps.Keys(m)) and maps.Clone at maps of strings: the keys in order; a copy. -/
import Derived.Test.YtodmnogoacghpaaGreatDoorM04
import Derived.Test.YtodmnogoacghpaaGreatDoorM10
import Derived.Sort.KeysCollected
namespace Go.Proofs.YtodmnogoacghpaaGreatDoor
open Go.RowKit Go.Maps Go.Sort Go.Shelf
set_option maxRecDepth 10000

def toBA (l : List UInt8) : ByteArray := ⟨l.toArray⟩
theorem toBA_inv (s : ByteArray) : toBA s.data.toList = s := by unfold toBA; cases s; simp
/-- Texts in order. -/
def sortB (l : List ByteArray) : List ByteArray := ((l.map fun s => s.data.toList).mergeSort leB).map toBA
theorem sortB_perm {l l' : List ByteArray} (h : l.Perm l') : sortB l = sortB l' := by
  unfold sortB
  rw [mergeSort_of_perm (h.map _)]
theorem sortB_len (l : List ByteArray) : (sortB l).length = l.length := by simp [sortB]
theorem sortB_mem {l : List ByteArray} {s : ByteArray} : s ∈ sortB l ↔ s ∈ l := by
  unfold sortB
  rw [List.mem_map]
  constructor
  · rintro ⟨x, hx, rfl⟩
    obtain ⟨y, hy, rfl⟩ := List.mem_map.1 ((List.mergeSort_perm _ _).mem_iff.1 hx)
    rw [toBA_inv]; exact hy
  · intro h
    exact ⟨s.data.toList, (List.mergeSort_perm _ _).mem_iff.2 (List.mem_map_of_mem h), toBA_inv s⟩

theorem keysS_sorts (m : Nat) : AnyZ.SortsIn Tryz.prog Tryz.sortedS_ren Fence.wide m :=
  ⟨fun blk off cap ss W hH hblk hsz => callsIn_wide.2 (AnyM.slices_Sort_string Tryz.sortS blk off cap ss W hH hblk hsz),
   fun p cap W => callsIn_wide.2 (AnyM.slices_Sort_string_none Tryz.sortS p cap W)⟩
theorem mapsKeys_calls (mb : Option Nat) (W : World) : Calls Tryz.prog 37 #[.map mb] W fun e w' => e = .returned (.func (.func 52) #[] #[.pointer (some ⟨W.heap.size, 0, none⟩)]) ∧ w' = W.alloc (.cells #[.map mb] 24) :=
  callsIn_wide.1 (AnyZ.keys_in Tryz.keysS Fence.wide 5 trivial rfl mb W)

theorem strs_sorted {w : World} {base : Nat} {v : Value} {ss : List (List UInt8)} (h : w.ownsRow base 9 1 v ss.length (ss.map encStr)) (hl : ∀ x ∈ ss, x.length ≤ maxLen) : Strs w v (ss.map toBA) := by
  refine ⟨?_, fun s hs => ?_⟩
  · rw [List.length_map]
    rcases id h.2 with ⟨rfl, h0⟩ | ⟨g, cap, cur, rfl, _, hg, h1, h2, _⟩
    · rw [h0]
      exact Sl.nil _ _ _
    · refine ⟨_, cap, rfl, h1, h2, Or.inr ⟨g, 0, rfl, ?_, fun i j hi hj => ?_⟩⟩
      · rcases Nat.lt_or_ge g w.heap.size with hlt | hge
        · exact hlt
        · rw [Array.getElem?_eq_none hge] at hg; cases hg
      · obtain rfl : j = 0 := by omega
        have := h.cellAt i (by omega)
        rw [Nat.zero_add, Nat.mul_one, Nat.add_zero, this]
        simp [List.getD, List.getElem?_eq_getElem hi, encStr, toBA]
  · obtain ⟨x, hx, rfl⟩ := List.mem_map.1 hs
    exact hl x hx

/-- A slice of one's own: its row lies at or behind B. -/
def FreshV (B : Nat) (v : Value) : Prop := v = .slice none 0 0 ∨ ∃ g n c, v = .slice (some ⟨g, 0, none⟩) n c ∧ B ≤ g
theorem fresh_row {w : World} {base B : Nat} {t : TypeId} {k n : Nat} {v : Value} {vs : List Value} (h : w.ownsRow base t k v n vs) (hB : B ≤ base) : FreshV B v := by
  rcases h.2 with ⟨rfl, _⟩ | ⟨g, cap, cur, rfl, hg, _⟩
  · exact Or.inl rfl
  · exact Or.inr ⟨g, _, cap, rfl, Nat.le_trans hB hg⟩
/-- The slice's row, if there is one, is a row of strings. -/
def RowS (w : World) (v : Value) : Prop := ∀ k, v.ownBlock = some k → ∃ cur fz, w.heap[k]? = some (.cells cur 9 fz)
theorem rowS_of {w : World} {base k n : Nat} {v : Value} {vs : List Value} (h : w.ownsRow base 9 k v n vs) : RowS w v := by
  intro b hb
  rcases h.2 with ⟨rfl, _⟩ | ⟨g, cap, cur, rfl, _, hg, _⟩
  · cases hb
  · injection hb with hb
    rw [← hb]
    exact ⟨cur, _, hg⟩
theorem sortedKeys_calls3 (b n : Nat) (f : MapF) (ks : List ByteArray) (w : World) (hM : MapV Tryz.prog 9 w b n f) (hK : KeysM f ks) (hn : n ≤ 1000000) :
    Calls Tryz.prog 36 #[.func (.func 52) #[] #[.pointer (some ⟨w.heap.size, 0, none⟩)]] (w.alloc (.cells #[.map (some b)] 24)) fun e w' => ∃ v, e = .returned v ∧ Strs w' v (sortB ks) ∧ (FreshV w.heap.size v ∧ RowS w' v) ∧ Below w.heap.size w w' := by
  obtain ⟨D0, hown, h2⟩ := hM
  have hk : Tryz.prog.underlying 9 = some .string := Tryz.underlying9
  have hsz := hown.size_le
  have hbl := hown.lt
  have hseq : SeqGives Fence.wide 2 Tryz.prog 52 #[.pointer (some ⟨w.heap.size, 0, none⟩)] encStr (fun ss => ss.Perm (strKeys D0)) (Maps.size D0) (w.alloc (.cells #[.map (some b)] 24)) :=
    AnyZ.keys_gives (ρ := Tryz.keysS_ren) { Tryz.keysS with } Fence.wide _ trivial rfl (by omega) w.heap.size b n D0 _ (by simp) (by simp) (by
      obtain ⟨es, clock, hb, Ft, hs, hD⟩ := hown
      exact ⟨es, clock, (Below.heap_alloc _ _ b hbl).trans hb, Ft, hs, hD⟩)
  refine (callsIn_wide.1 (AnyZ.sorted_in Tryz.sortedS Fence.wide 5 trivial trivial trivial trivial rfl (by omega) (keysS_sorts _) (enters_of Tryz.func51 (by kernel_rfl) rfl) 52 #[.pointer (some ⟨w.heap.size, 0, none⟩)] trivial (enters_of Tryz.func52 (by kernel_rfl) rfl) _ _ (by unfold maxLen; omega) (by omega) _ hseq)).mono ?_
  rintro e w' ⟨v, ss, rfl, hS, hrow, -, hb⟩
  have hC : Collected D0 (fun _ => false) (ks.map fun s => s.data.toList) := by
    refine ⟨?_, fun x => ?_⟩
    · refine List.pairwise_map.2 (hK.nodup.imp fun hne e => hne ?_)
      rename_i a b
      rw [← toBA_inv a, e, toBA_inv]
    · have hx := (h2 (toBA x)).1
      have hl : litS (toBA x) = .string x := by unfold litS toBA; simp
      rw [hl] at hx
      rw [hx, List.mem_map]
      constructor
      · rintro ⟨s, hs, rfl⟩
        rw [toBA_inv]
        exact ⟨(hK.mem s).1 hs, rfl⟩
      · rintro ⟨hs, _⟩
        exact ⟨toBA x, (hK.mem _).2 hs, by unfold toBA; simp⟩
  have hP := hC.perm hown (string_keyed hk) hk (fun _ => rfl)
  have hle : ∀ x ∈ ss.mergeSort (fun x y => decide (x ≤ y)), x.length ≤ maxLen := fun x hx => strKeys_le hown hk x (hS.mem_iff.1 ((List.mergeSort_perm _ _).mem_iff.1 hx))
  have hlen : (ss.mergeSort (fun x y => decide (x ≤ y))).length = ss.length := by simp
  rw [← hlen] at hrow
  have hFr : FreshV w.heap.size v := fresh_row hrow (by simp)
  have hRo : RowS w' v := rowS_of hrow
  have hStr := strs_sorted hrow hle
  have e1 : (ss.mergeSort (fun x y => decide (x ≤ y))).map toBA = sortB ks := by
    unfold sortB
    rw [show ss.mergeSort (fun x y => decide (x ≤ y)) = ss.mergeSort leB from rfl, mergeSort_of_perm (hS.trans hP.symm)]
  rw [e1] at hStr
  exact ⟨v, rfl, hStr, ⟨hFr, hRo⟩, ((Below.refl w.heap.size w).alloc (Nat.le_refl _) _).trans (hb.mono (by simp))⟩
theorem sortedKeys_calls2 (b n : Nat) (f : MapF) (ks : List ByteArray) (w : World) (hM : MapV Tryz.prog 9 w b n f) (hK : KeysM f ks) (hn : n ≤ 1000000) :
    Calls Tryz.prog 36 #[.func (.func 52) #[] #[.pointer (some ⟨w.heap.size, 0, none⟩)]] (w.alloc (.cells #[.map (some b)] 24)) fun e w' => ∃ v, e = .returned v ∧ Strs w' v (sortB ks) ∧ FreshV w.heap.size v ∧ Below w.heap.size w w' := by
  refine (sortedKeys_calls3 b n f ks w hM hK hn).mono ?_
  rintro e w' ⟨v, rfl, h1, h2, h3⟩
  exact ⟨v, rfl, h1, h2.1, h3⟩
theorem sortedKeys_calls (b n : Nat) (f : MapF) (ks : List ByteArray) (w : World) (hM : MapV Tryz.prog 9 w b n f) (hK : KeysM f ks) (hn : n ≤ 1000000) :
    Calls Tryz.prog 36 #[.func (.func 52) #[] #[.pointer (some ⟨w.heap.size, 0, none⟩)]] (w.alloc (.cells #[.map (some b)] 24)) fun e w' => ∃ v, e = .returned v ∧ Strs w' v (sortB ks) ∧ Below w.heap.size w w' := by
  refine (sortedKeys_calls2 b n f ks w hM hK hn).mono ?_
  rintro e w' ⟨v, rfl, h1, -, h3⟩
  exact ⟨v, rfl, h1, h3⟩
theorem sortedNil_calls2 (w : World) :
    Calls Tryz.prog 36 #[.func (.func 52) #[] #[.pointer (some ⟨w.heap.size, 0, none⟩)]] (w.alloc (.cells #[.map none] 24)) fun e w' => e = .returned (.slice none 0 0) ∧ Below w.heap.size w w' := by
  have hseq : SeqGives Fence.wide 2 Tryz.prog 52 #[.pointer (some ⟨w.heap.size, 0, none⟩)] encStr (fun ss : List (List UInt8) => ss = []) 0 (w.alloc (.cells #[.map none] 24)) :=
    AnyZ.keys_gives_nil (ρ := Tryz.keysS_ren) { Tryz.keysS with } Fence.wide _ trivial rfl w.heap.size _ (by simp) (by simp)
  refine (callsIn_wide.1 (AnyZ.sorted_in Tryz.sortedS Fence.wide 5 trivial trivial trivial trivial rfl (by omega) (keysS_sorts _) (enters_of Tryz.func51 (by kernel_rfl) rfl) 52 #[.pointer (some ⟨w.heap.size, 0, none⟩)] trivial (enters_of Tryz.func52 (by kernel_rfl) rfl) _ 0 (Nat.zero_le _) (by omega) _ hseq)).mono ?_
  rintro e w' ⟨v, ss, rfl, rfl, hrow, hnil, hb⟩
  obtain rfl := hnil.2 rfl
  exact ⟨rfl, ((Below.refl w.heap.size w).alloc (Nat.le_refl _) _).trans (hb.mono (by simp))⟩
theorem sortedNil_calls (w : World) :
    Calls Tryz.prog 36 #[.func (.func 52) #[] #[.pointer (some ⟨w.heap.size, 0, none⟩)]] (w.alloc (.cells #[.map none] 24)) fun e w' => ∃ v, e = .returned v ∧ Strs w' v [] ∧ Below w.heap.size w w' := by
  have hseq : SeqGives Fence.wide 2 Tryz.prog 52 #[.pointer (some ⟨w.heap.size, 0, none⟩)] encStr (fun ss : List (List UInt8) => ss = []) 0 (w.alloc (.cells #[.map none] 24)) :=
    AnyZ.keys_gives_nil (ρ := Tryz.keysS_ren) { Tryz.keysS with } Fence.wide _ trivial rfl w.heap.size _ (by simp) (by simp)
  refine (callsIn_wide.1 (AnyZ.sorted_in Tryz.sortedS Fence.wide 5 trivial trivial trivial trivial rfl (by omega) (keysS_sorts _) (enters_of Tryz.func51 (by kernel_rfl) rfl) 52 #[.pointer (some ⟨w.heap.size, 0, none⟩)] trivial (enters_of Tryz.func52 (by kernel_rfl) rfl) _ 0 (Nat.zero_le _) (by omega) _ hseq)).mono ?_
  rintro e w' ⟨v, ss, rfl, rfl, hrow, hnil, hb⟩
  obtain rfl := hnil.2 rfl
  exact ⟨_, rfl, ⟨Sl.nil _ _ _, by simp⟩, ((Below.refl w.heap.size w).alloc (Nat.le_refl _) _).trans (hb.mono (by simp))⟩

theorem clone_calls (b n : Nat) (f : MapF) (w : World) (hM : MapV Tryz.prog 9 w b n f) :
    Calls Tryz.prog 40 #[.map (some b)] w fun e w' => e = .returned (.map (some w.heap.size)) ∧ MapV Tryz.prog 9 w' w.heap.size n f ∧ Below w.heap.size w w' := by
  obtain ⟨D0, hown, h2⟩ := hM
  refine (AnyW.maps_Clone_owns Tryz.cloneS 9 anyR b n D0 w hown).mono ?_
  rintro e w' ⟨rfl, h3, _, hb⟩
  exact ⟨rfl, ⟨D0, h3, h2⟩, hb⟩
end Go.Proofs.YtodmnogoacghpaaGreatDoor
