/- DiskKeeps: all that a disk has, as one text; that text parted again. -/
import Derived.Test.YtodmnogoacghpaaGreatDoorKeepP
import Derived.Test.YtodmnogoacghpaaGreatDoorSplitP
namespace Go.Proofs.YtodmnogoacghpaaGreatDoor
set_option maxRecDepth 10000

def nowOf (fs : FS) (f : ByteArray) : ByteArray := (nowG fs f).getD ⟨#[]⟩
def pieceS (fs : FS) (f : ByteArray) : ByteArray := f ++ ⟨#[61]⟩ ++ nowOf fs f ++ ⟨#[59]⟩
def allK (fs : FS) (ks : List ByteArray) : ByteArray := ks.foldl (fun s f => s ++ pieceS fs f) ⟨#[]⟩
def allS (fs : FS) : ByteArray := allK fs (sortB (fs.map (·.1)))
theorem allK_snoc (fs : FS) (ks : List ByteArray) (f : ByteArray) : allK fs (ks ++ [f]) = allK fs ks ++ pieceS fs f := by
  unfold allK
  rw [List.foldl_append]
  rfl
theorem keys_mem {fs : FS} {f : ByteArray} : f ∈ fs.map (·.1) ↔ (nowG fs f).isSome = true := by
  rw [nowG_some]
  cases e : fget fs f with
  | none =>
    have := fget_none.1 e
    constructor
    · intro h; exact absurd h this
    · intro h; cases h
  | some x => exact ⟨fun _ => rfl, fun _ => List.mem_map_of_mem (f := (·.1)) (fget_mem e)⟩
theorem keys_perm {fs fs' : FS} (hn : NodupK fs) (hn' : NodupK fs') (h : ∀ f, nowG fs f = nowG fs' f) : (fs.map (·.1)).Perm (fs'.map (·.1)) :=
  (List.perm_ext_iff_of_nodup hn hn').2 fun f => by rw [keys_mem, keys_mem, h f]
theorem allS_congr {fs fs' : FS} (hn : NodupK fs) (hn' : NodupK fs') (h : ∀ f, nowG fs f = nowG fs' f) : allS fs = allS fs' := by
  unfold allS
  rw [sortB_perm (keys_perm hn hn' h)]
  have : (fun (s f : ByteArray) => s ++ pieceS fs f) = fun s f => s ++ pieceS fs' f := by
    funext s f
    unfold pieceS nowOf
    rw [h f]
  unfold allK
  rw [this]
theorem nowOf_get {fs : FS} {f : ByteArray} {x : FileD} (h : fget fs f = some x) : nowOf fs f = x.now := by
  unfold nowOf nowG
  rw [h]
  rfl
theorem dataA (a b : ByteArray) : (a ++ b).data.toList = a.data.toList ++ b.data.toList := by
  rw [ByteArray.data_append, Array.toList_append]
def pieceL (fs : FS) (f : ByteArray) : List UInt8 := f.data.toList ++ 61 :: (nowOf fs f).data.toList
theorem piece_data (fs : FS) (f : ByteArray) : (pieceS fs f).data.toList = pieceL fs f ++ [59] := by
  unfold pieceS pieceL
  rw [dataA, dataA, dataA]
  simp
theorem allK_data (fs : FS) (ks : List ByteArray) : (allK fs ks).data.toList = ks.flatMap fun f => pieceL fs f ++ [59] := by
  have key : ∀ (ks : List ByteArray) (s : ByteArray), (ks.foldl (fun s f => s ++ pieceS fs f) s).data.toList = s.data.toList ++ ks.flatMap fun f => pieceL fs f ++ [59] := by
    intro ks
    induction ks with
    | nil => intro s; simp
    | cons f ks ih =>
      intro s
      rw [List.foldl_cons, ih, dataA, piece_data, List.flatMap_cons, List.append_assoc]
  have := key ks ⟨#[]⟩
  unfold allK
  rw [this]
  rfl
theorem splitC_pieces {fs : FS} : ∀ (ks : List ByteArray), (∀ f ∈ ks, (59 : UInt8) ∉ pieceL fs f) → splitC 59 (ks.flatMap fun f => pieceL fs f ++ [59]) = ks.map (pieceL fs) ++ [[]]
  | [], _ => rfl
  | f :: ks, h => by
    rw [List.flatMap_cons, List.append_assoc, List.singleton_append, splitC_cons (h f (by simp)), splitC_pieces ks (fun g hg => h g (by simp [hg]))]
    rfl
theorem LowB.ne {b : UInt8} (h : LowB b) : b ≠ 59 ∧ b ≠ 61 := by
  unfold LowB at h
  constructor <;> (rintro rfl; revert h; decide)
theorem NameL.data {f : ByteArray} (h : NameL f) : ∀ b ∈ f.data.toList, LowB b := by
  obtain ⟨c, rfl, hc⟩ := h
  intro b hb
  simp at hb
  rw [hb]; exact hc
theorem piece_clean {d : DiskD} (hp : PlainD d) {f : ByteArray} (hf : (fget d.fs f).isSome = true) : (59 : UInt8) ∉ pieceL d.fs f ∧ (61 : UInt8) ∉ f.data.toList := by
  cases e : fget d.fs f with
  | none => rw [e] at hf; cases hf
  | some x =>
    obtain ⟨h1, h2⟩ := hp.get e
    constructor
    · unfold pieceL
      rw [nowOf_get e]
      intro hm
      rcases List.mem_append.1 hm with hm | hm
      · exact (h1.data _ hm).ne.1 rfl
      · rcases List.mem_cons.1 hm with hm | hm
        · exact absurd hm (by decide)
        · exact (h2 _ hm).ne.1 rfl
    · intro hm
      exact (h1.data _ hm).ne.2 rfl
/-- The text parted at each ';'. -/
theorem all_split {d : DiskD} (hp : PlainD d) : splitC 59 (allS d.fs).data.toList = (sortB (d.fs.map (·.1))).map (pieceL d.fs) ++ [[]] := by
  unfold allS
  rw [allK_data]
  refine splitC_pieces _ fun f hf => ?_
  rw [sortB_mem, keys_mem, nowG_some] at hf
  exact (piece_clean hp hf).1
/-- What one part says: a name and its text. -/
theorem piece_cut {d : DiskD} (hp : PlainD d) {f : ByteArray} (hf : (fget d.fs f).isSome = true) : Lib.cut (pieceL d.fs f) [61] = (f.data.toList, (nowOf d.fs f).data.toList, true) := by
  unfold pieceL
  exact cut_hit (piece_clean hp hf).2
theorem empty_cut : Lib.cut [] [61] = ([], [], false) := cut_no (by simp)

/-- What the size of all is. -/
theorem allK_size {fs : FS} : ∀ (ks : List ByteArray), (∀ f ∈ ks, f.size ≤ 80 ∧ (nowOf fs f).size ≤ 30000) → (allK fs ks).size ≤ 30082 * ks.length := by
  have key : ∀ (ks : List ByteArray) (s : ByteArray), (∀ f ∈ ks, f.size ≤ 80 ∧ (nowOf fs f).size ≤ 30000) → (ks.foldl (fun s f => s ++ pieceS fs f) s).size ≤ s.size + 30082 * ks.length := by
    intro ks
    induction ks with
    | nil => intro s _; simp
    | cons f ks ih =>
      intro s h
      rw [List.foldl_cons]
      have h1 := ih (s ++ pieceS fs f) (fun g hg => h g (by simp [hg]))
      obtain ⟨h2, h3⟩ := h f (by simp)
      have h4 : (pieceS fs f).size ≤ 30082 := by
        unfold pieceS
        rw [ByteArray.size_append, ByteArray.size_append, ByteArray.size_append]
        have e1 : (ByteArray.mk #[61]).size = 1 := rfl
        have e2 : (ByteArray.mk #[59]).size = 1 := rfl
        omega
      rw [ByteArray.size_append] at h1
      simp only [List.length_cons]
      omega
  intro ks h
  have := key ks ⟨#[]⟩ h
  have e : (ByteArray.mk #[]).size = 0 := rfl
  unfold allK
  omega
/-- What the second start leaves is as the law asks. -/
theorem kept_ok {k : Int} (hk : 0 < k) (s : ByteArray) (o : Option ByteArray) : ∃ y, startF k ⟨s, o⟩ = some y ∧
    (s ≠ o.getD ⟨#[]⟩ → y.extract 0 (min k ((s.size : Nat) : Int)).toNat = s.extract 0 (min k ((s.size : Nat) : Int)).toNat ∧ y.size = max (min k ((s.size : Nat) : Int)).toNat (o.getD ⟨#[]⟩).size) ∧ (s = o.getD ⟨#[]⟩ → y = s) := by
  by_cases hs : o = some s
  · subst hs
    refine ⟨s, by unfold startF; exact if_pos rfl, fun h => absurd rfl h, fun _ => rfl⟩
  · refine ⟨_, by unfold startF; rw [if_neg hs, if_pos hk], ?_, ?_⟩
    · intro _
      unfold oldOf
      dsimp only
      obtain ⟨n, hn⟩ : ∃ n, (min k ((s.size : Nat) : Int)).toNat = n := ⟨_, rfl⟩
      have hns : n ≤ s.size := by omega
      rw [hn]
      have e0 : (s.extract 0 n).size = n := by rw [ByteArray.size_extract]; omega
      constructor
      · apply ByteArray.ext
        apply Array.ext'
        have h1 : ∀ (a : ByteArray) (i j : Nat), (a.extract i j).data.toList = (a.data.toList.drop i).take (j - i) := fun a i j => by rw [ByteArray.data_extract, Array.toList_extract]
        rw [h1, dataA, h1, h1]
        simp only [List.drop_zero, Nat.sub_zero]
        have hl : (s.data.toList.take n).length = n := by rw [List.length_take, Array.length_toList]; exact Nat.min_eq_left hns
        rw [List.take_append_of_le_length (by omega), List.take_take, Nat.min_self]
      · rw [ByteArray.size_append, e0, ByteArray.size_extract]
        omega
    · intro hse
      cases o with
      | some t => exact absurd (congrArg some hse.symm) (by intro e; exact hs (by rw [e.symm]; simp at e; simp [e] at hse ⊢))
      | none =>
        simp only [Option.getD_none] at hse
        subst hse
        unfold oldOf
        have h : ∀ i j, (ByteArray.mk #[]).extract i j = ⟨#[]⟩ := fun i j => by
          apply ByteArray.ext
          rw [ByteArray.data_extract]
          simp
        dsimp only [Option.getD_none]
        rw [h, h]
        rfl
end Go.Proofs.YtodmnogoacghpaaGreatDoor
