/- DiskKeeps: the plain law (no program in sight): steps of a disk with names of one letter, all as one text, what a start leaves. · A text parted at one byte, in plain Lean: what strings.Split and strings.Cut hand back there. -/
import Derived.Test.YtodmnogoacghpaaGreatDoorM23
import Derived.Lib.Split
import Derived.Lib.SplitLaws
import Derived.Lib.IndexMore
import Derived.Lib.IndexBytes
import Derived.Test.YtodmnogoacghpaaGreatDoorM01
namespace Go.Proofs.YtodmnogoacghpaaGreatDoor
set_option maxRecDepth 10000

def LowB (b : UInt8) : Prop := 97 ≤ b.toNat ∧ b.toNat ≤ 102
def NameL (f : ByteArray) : Prop := ∃ b, f = ⟨#[b]⟩ ∧ LowB b
def TextL (s : ByteArray) : Prop := ∀ b ∈ s.data.toList, LowB b
def PlainD (d : DiskD) : Prop := ∀ p ∈ d.fs, NameL p.1 ∧ TextL p.2.now
def FreeD (d : DiskD) : Prop := d.left = -1 ∧ d.bytes = -1
inductive Step1 : Int → DiskD → DiskD → Prop
  | write {d : DiskD} {f s : ByteArray} : NameL f → TextL s → s.size ≤ 200 → Step1 0 d (writeD d f s).2
  | sync {d : DiskD} {f : ByteArray} : NameL f → Step1 1 d (syncD d f).2
  | move {d : DiskD} {f t : ByteArray} : NameL f → NameL t → Step1 2 d (moveD d f t).2
  | remove {d : DiskD} {f : ByteArray} : NameL f → Step1 3 d (removeD d f).2
  | none {d : DiskD} {k : Int} : k ≠ 0 → k ≠ 1 → k ≠ 2 → k ≠ 3 → Step1 k d d
inductive Steps : List Int → DiskD → DiskD → Prop
  | nil {d : DiskD} : Steps [] d d
  | snoc {ks : List Int} {k : Int} {d d1 d2 : DiskD} : Steps ks d d1 → Step1 k d1 d2 → Steps (ks ++ [k]) d d2

theorem NameL.size {f : ByteArray} (h : NameL f) : f.size = 1 := by
  obtain ⟨b, rfl, _⟩ := h
  rfl
theorem NameL.ok {f : ByteArray} (h : NameL f) : nameB f = true := by
  unfold nameB
  rw [h.size]
  rfl
theorem Step1.off {k : Int} {d d' : DiskD} (h : Step1 k d d') (h0 : d.left = 0) : d' = d := by
  cases h with
  | write hf _ _ => unfold writeD; rw [if_neg (by rw [hf.ok]; decide), if_pos h0]
  | sync hf =>
    unfold syncD
    split
    · rfl
    · rw [if_pos h0]
  | move hf ht =>
    unfold moveD
    rw [if_neg (by rw [ht.ok]; decide)]
    split
    · rfl
    · rw [if_pos h0]
  | remove hf =>
    unfold removeD
    split
    · rfl
    · rw [if_pos h0]
  | none => rfl
theorem Steps.off {ks : List Int} {d d' : DiskD} (h : Steps ks d d') (h0 : d.left = 0) : d' = d := by
  induction h with
  | nil => rfl
  | snoc _ h1 ih =>
    have e := ih h0
    subst e
    exact h1.off h0
theorem usedD_free {d : DiskD} (h : FreeD d) : usedD d = d := by
  unfold usedD
  rw [if_neg (by rw [h.1]; decide)]
theorem free_write {d : DiskD} (h : FreeD d) {f s : ByteArray} : FreeD (writeD d f s).2 := by
  unfold writeD
  split
  · exact h
  · split
    · exact h
    · split
      · rw [usedD_free h]; exact h
      · rw [usedD_free h]; exact h
theorem free_sync {d : DiskD} (h : FreeD d) {f : ByteArray} : FreeD (syncD d f).2 := by
  unfold syncD
  split
  · exact h
  · split
    · exact h
    · rw [usedD_free h]; exact h
theorem Step1.free {k : Int} {d d' : DiskD} (h : Step1 k d d') (h0 : FreeD d) : FreeD d' := by
  cases h with
  | write _ _ _ => exact free_write h0
  | sync hf => exact free_sync h0
  | move hf ht =>
    unfold moveD
    rw [if_neg (by rw [ht.ok]; decide)]
    split
    · exact h0
    · split
      · exact h0
      · rw [usedD_free h0]; exact h0
  | remove hf =>
    unfold removeD
    split
    · exact h0
    · split
      · exact h0
      · rw [usedD_free h0]; exact h0
  | none => exact h0
theorem Steps.free {ks : List Int} {d d' : DiskD} (h : Steps ks d d') (h0 : FreeD d) : FreeD d' := by
  induction h with
  | nil => exact h0
  | snoc _ h1 ih => exact h1.free (ih h0)
theorem PlainD.get {d : DiskD} (h : PlainD d) {f : ByteArray} {x : FileD} (hx : fget d.fs f = some x) : NameL f ∧ TextL x.now := h _ (fget_mem hx)
theorem PlainD.used {d : DiskD} (h : PlainD d) : PlainD (usedD d) := h
theorem Step1.plain {k : Int} {d d' : DiskD} (h : Step1 k d d') (h0 : PlainD d) : PlainD d' := by
  cases h with
  | @write _ f s hf ht _ =>
    unfold writeD
    split
    · exact h0
    · split
      · exact h0
      · split
        · exact h0
        · intro p hp
          rcases mem_put hp with hp | rfl
          · exact h0 p hp
          · exact ⟨hf, ht⟩
  | @sync _ f hf =>
    unfold syncD
    cases e : fget d.fs f with
    | none => exact h0
    | some x =>
      dsimp only
      split
      · exact h0
      · intro p hp
        rcases mem_put hp with hp | rfl
        · exact h0 p hp
        · exact ⟨(h0.get e).1, (h0.get e).2⟩
  | @move _ f t hf ht =>
    unfold moveD
    rw [if_neg (by rw [ht.ok]; decide)]
    cases e : fget d.fs f with
    | none => exact h0
    | some x =>
      dsimp only
      split
      · exact h0
      · intro p hp
        rcases mem_put hp with hp | rfl
        · exact h0 p (mem_del hp)
        · exact ⟨ht, (h0.get e).2⟩
  | @remove _ f hf =>
    unfold removeD
    cases e : fget d.fs f with
    | none => exact h0
    | some x =>
      dsimp only
      split
      · exact h0
      · intro p hp
        exact h0 p (mem_del hp)
  | none => exact h0
theorem Steps.plain {ks : List Int} {d d' : DiskD} (h : Steps ks d d') (h0 : PlainD d) : PlainD d' := by
  induction h with
  | nil => exact h0
  | snoc _ h1 ih => exact h1.plain (ih h0)
theorem Step1.good {k : Int} {C : Nat} {d d' : DiskD} (h : Step1 k d d') (h0 : GoodD C 200 d) : GoodD (C + 1) 200 d' := by
  cases h with
  | write _ _ hs => exact h0.write hs
  | sync => exact (h0.sync _).mono (Nat.le_succ _) (Nat.le_refl _)
  | move => exact (h0.move _ _).mono (Nat.le_succ _) (Nat.le_refl _)
  | remove => exact (h0.remove _).mono (Nat.le_succ _) (Nat.le_refl _)
  | none => exact h0.mono (Nat.le_succ _) (Nat.le_refl _)
theorem Steps.good {ks : List Int} {C : Nat} {d d' : DiskD} (h : Steps ks d d') (h0 : GoodD C 200 d) : GoodD (C + ks.length) 200 d' := by
  induction h with
  | nil => exact h0
  | snoc _ h1 ih =>
    have := h1.good (ih h0)
    rw [List.length_append]
    exact this

/-! ### what is now, what is safe -/
def nowG (fs : FS) (f : ByteArray) : Option ByteArray := (fget fs f).map (·.now)
def safeG (fs : FS) (f : ByteArray) : Option ByteArray := (fget fs f).bind (·.safe)
def AllSafe (fs : FS) : Prop := ∀ f x, fget fs f = some x → x.safe = some x.now
theorem nowG_some {fs : FS} {f : ByteArray} : (nowG fs f).isSome = (fget fs f).isSome := by unfold nowG; simp
theorem fget_safe {fs : FS} (h : AllSafe fs) (f : ByteArray) : fget fs f = (nowG fs f).map fun s => ⟨s, some s⟩ := by
  unfold nowG
  cases e : fget fs f with
  | none => rfl
  | some x =>
    have := h f x e
    cases x
    simp_all
/-- A write of a good name, with room. -/
theorem write_free {d : DiskD} (hF : FreeD d) (hl : d.fs.length < 5000) {f s : ByteArray} (hn : nameB f = true) : writeD d f s = (0, { d with fs := fput d.fs f ⟨s, safeG d.fs f⟩ }) := by
  unfold writeD
  rw [if_neg (by rw [hn]; decide), if_neg (by rw [hF.1]; decide), if_neg, usedD_free hF]
  · rfl
  · unfold fullB
    rw [hF.2, decide_eq_false (show ¬ 5000 ≤ d.fs.length by omega)]
    simp
theorem sync_free {d : DiskD} (hF : FreeD d) {f : ByteArray} {x : FileD} (hx : fget d.fs f = some x) : syncD d f = (0, { d with fs := fput d.fs f ⟨x.now, some x.now⟩ }) := by
  unfold syncD
  rw [hx]
  dsimp only
  rw [if_neg (by rw [hF.1]; decide), usedD_free hF]
/-- Writes alone, not made safe. -/
structure Wrote (d d' : DiskD) : Prop where
  safe : ∀ f, safeG d'.fs f = safeG d.fs f
  more : ∀ f, (fget d.fs f).isSome = true → (fget d'.fs f).isSome = true
theorem Wrote.refl (d : DiskD) : Wrote d d := ⟨fun _ => rfl, fun _ h => h⟩
theorem Wrote.step {d d1 d2 : DiskD} (h : Wrote d d1) (hF : FreeD d1) (hl : d1.fs.length < 5000) (hs : Step1 0 d1 d2) : Wrote d d2 := by
  cases hs with
  | @write _ f s hf _ _ =>
    rw [write_free hF hl hf.ok]
    refine ⟨fun g => ?_, fun g hg => ?_⟩
    · rw [← h.safe g]
      unfold safeG
      dsimp only
      rw [fget_put]
      by_cases e : g = f
      · subst e
        rw [if_pos rfl]
        rfl
      · rw [if_neg e]
    · dsimp only
      rw [fget_put]
      by_cases e : g = f
      · rw [if_pos e]; rfl
      · rw [if_neg e]
        exact h.more g hg
  | none h0 => exact absurd rfl h0
theorem Steps.wrote {ks : List Int} {d0 d d' : DiskD} {C : Nat} (h : Steps ks d d') (hk : ∀ k ∈ ks, k = 0) (hF : FreeD d) (hg : GoodD C 200 d) (hC : C + ks.length < 5000) (h0 : Wrote d0 d) : Wrote d0 d' := by
  induction h with
  | nil => exact h0
  | @snoc ks k _ _ _ h1 h2 ih =>
    have hk1 : k = 0 := hk k (by simp)
    subst hk1
    rw [List.length_append, List.length_singleton] at hC
    have hl := (h1.good hg).len
    exact (ih (fun k hk' => hk k (by simp [hk'])) hF hg (by omega) h0).step (h1.free hF) (by omega) h2

/-! ### starts -/
theorem nowG_start {keeps : Int} {fs : FS} (hn : NodupK fs) (f : ByteArray) : fget (startFs keeps fs) f = ((fget fs f).bind (startF keeps)).map fun s => ⟨s, some s⟩ := by
  rw [startFs_get keeps hn f]
  cases fget fs f <;> rfl
theorem start_safe {keeps : Int} {fs : FS} (hn : NodupK fs) : AllSafe (startFs keeps fs) := by
  intro f x hx
  rw [nowG_start hn] at hx
  cases e : (fget fs f).bind (startF keeps) with
  | none => rw [e] at hx; cases hx
  | some s =>
    rw [e] at hx
    injection hx with hx
    rw [← hx]
theorem start_all {keeps : Int} {fs : FS} (hn : NodupK fs) (h : AllSafe fs) (f : ByteArray) : nowG (startFs keeps fs) f = nowG fs f := by
  unfold nowG
  rw [nowG_start hn]
  cases e : fget fs f with
  | none => rfl
  | some x =>
    have : startF keeps x = some x.now := by unfold startF; rw [if_pos (h f x e)]
    simp [this]
theorem start_zero {d0 d : DiskD} (hn : NodupK d.fs) (h : Wrote d0 d) (h0 : AllSafe d0.fs) (f : ByteArray) : nowG (startFs 0 d.fs) f = nowG d0.fs f := by
  have e1 := h.safe f
  unfold nowG
  rw [nowG_start hn]
  have e2 : safeG d0.fs f = (fget d0.fs f).map (·.now) := by
    unfold safeG
    cases e : fget d0.fs f with
    | none => rfl
    | some x => simp [h0 f x e]
  rw [← e2, ← e1]
  unfold safeG
  cases e : fget d.fs f with
  | none => rfl
  | some x =>
    have : startF 0 x = x.safe := by
      unfold startF
      by_cases hs : x.safe = some x.now
      · rw [if_pos hs, hs]
      · rw [if_neg hs, if_neg (by decide)]
    simp only [Option.bind_some, this, Option.map_map]
    cases x.safe <;> rfl
theorem startF_pos {keeps : Int} (hk : 0 < keeps) (x : FileD) : ∃ y, startF keeps x = some y := by
  unfold startF
  split
  · exact ⟨_, rfl⟩
  · exact ⟨_, rfl⟩
end Go.Proofs.YtodmnogoacghpaaGreatDoor
namespace Go.Proofs.YtodmnogoacghpaaGreatDoor
open Go.Lib

def consHead (x : UInt8) : List (List UInt8) → List (List UInt8)
  | [] => [[x]]
  | p :: ps => (x :: p) :: ps
def splitC (c : UInt8) : List UInt8 → List (List UInt8)
  | [] => [[]]
  | x :: l => if x = c then [] :: splitC c l else consHead x (splitC c l)
def ofL (l : List UInt8) : ByteArray := ⟨l.toArray⟩
theorem ofL_data (l : List UInt8) : (ofL l).data.toList = l := rfl
theorem ofL_eta (s : ByteArray) : ofL s.data.toList = s := rfl
theorem ofL_size (l : List UInt8) : (ofL l).size = l.length := rfl

theorem splitC_no {c : UInt8} : ∀ {s : List UInt8}, c ∉ s → splitC c s = [s]
  | [], _ => rfl
  | x :: s, h => by
    have h1 : x ≠ c := fun e => h (by simp [e])
    have h2 : c ∉ s := fun e => h (by simp [e])
    unfold splitC
    rw [if_neg h1, splitC_no h2]
    rfl
theorem splitC_cons {c : UInt8} {b : List UInt8} : ∀ {a : List UInt8}, c ∉ a → splitC c (a ++ c :: b) = a :: splitC c b
  | [], _ => by
    show splitC c (c :: b) = _
    rw [splitC, if_pos rfl]
  | x :: a, h => by
    have h1 : x ≠ c := fun e => h (by simp [e])
    have h2 : c ∉ a := fun e => h (by simp [e])
    show splitC c (x :: (a ++ c :: b)) = _
    rw [splitC, if_neg h1, splitC_cons h2]
    rfl
/-- A text without the byte, or one that is parted at its first. -/
theorem parts1 (c : UInt8) : ∀ s : List UInt8, (c ∉ s ∧ index s [c] = -1) ∨ ∃ a b, s = a ++ c :: b ∧ c ∉ a ∧ index s [c] = (a.length : Int)
  | [] => Or.inl ⟨by simp, rfl⟩
  | x :: s => by
    by_cases e : x = c
    · subst e
      exact Or.inr ⟨[], s, rfl, by simp, by rw [index_one]; unfold indexByte; simp⟩
    · have hx : (x == c) = false := beq_eq_false_iff_ne.2 e
      rcases parts1 c s with ⟨h1, h2⟩ | ⟨a, b, h1, h2, h3⟩
      · left
        refine ⟨by simp [h1, Ne.symm e], ?_⟩
        rw [index_one] at h2 ⊢
        unfold indexByte
        simp [hx, h2]
      · right
        refine ⟨x :: a, b, by rw [h1]; rfl, by simp [h2, Ne.symm e], ?_⟩
        rw [index_one] at h3 ⊢
        unfold indexByte
        rw [hx, h3]
        have : ((a.length : Int) == -1) = false := beq_eq_false_iff_ne.2 (by omega)
        simp [this]
theorem cut_no {c : UInt8} {s : List UInt8} (h : c ∉ s) : cut s [c] = (s, [], false) := by
  rcases parts1 c s with ⟨_, h2⟩ | ⟨a, b, h1, _, _⟩
  · unfold cut
    rw [h2]
    rfl
  · exact absurd (by rw [h1]; simp) h
theorem cut_hit {c : UInt8} {a b : List UInt8} (h : c ∉ a) : cut (a ++ c :: b) [c] = (a, b, true) := by
  rcases parts1 c (a ++ c :: b) with ⟨h1, _⟩ | ⟨a', b', h1, h2, h3⟩
  · exact absurd (by simp) h1
  · have e : a' = a ∧ b' = b := by
      have g : splitC c (a ++ c :: b) = splitC c (a' ++ c :: b') := by rw [h1]
      rw [splitC_cons h, splitC_cons h2] at g
      injection g with g1 _
      subst g1
      have := List.append_cancel_left h1
      injection this with _ g2
      exact ⟨rfl, g2.symm⟩
    obtain ⟨rfl, rfl⟩ := e
    unfold cut
    rw [h3]
    simp
theorem splitK_one (c : UInt8) : ∀ (k : Nat) (s : List UInt8), s.count c ≤ k → splitK [c] 0 k s = splitC c s
  | 0, s, h => by
    have : c ∉ s := fun e => by have := List.count_pos_iff.2 e; omega
    rw [splitC_no this]
    rfl
  | k + 1, s, h => by
    rcases parts1 c s with ⟨h1, h2⟩ | ⟨a, b, h1, h2, h3⟩
    · rw [splitC_no h1]
      unfold splitK
      rw [h2]
      rfl
    · subst h1
      rw [splitC_cons h2]
      unfold splitK
      have hm : ((index (a ++ c :: b) [c]) == -1) = false := by rw [h3]; exact beq_eq_false_iff_ne.2 (by omega)
      rw [hm, h3]
      have e1 : (a ++ c :: b).take a.length = a := by simp
      have e2 : (a ++ c :: b).drop (a.length + 1) = b := by rw [← List.drop_drop]; simp
      have hk : b.count c ≤ k := by
        rw [List.count_append, List.count_cons_self] at h
        omega
      simp only [Bool.false_eq_true, if_false, Int.toNat_natCast, Nat.add_zero, List.length_singleton]
      rw [e1, e2, splitK_one c k b hk]
theorem split_one (c : UInt8) (s : ByteArray) : splitB ⟨#[c]⟩ 0 (countB s ⟨#[c]⟩) s = (splitC c s.data.toList).map ofL := by
  have h := splitB_data ⟨#[c]⟩ 0 (countB s ⟨#[c]⟩) s
  rw [show (ByteArray.mk #[c]).data.toList = [c] from rfl, splitK_one c _ _ (by unfold countB; rw [show (ByteArray.mk #[c]).data.toList = [c] from rfl, count_one]; exact Nat.le_refl _)] at h
  rw [← h, List.map_map]
  have : (ofL ∘ fun x : ByteArray => x.data.toList) = id := rfl
  rw [this, List.map_id]
theorem splitC_ne (c : UInt8) (s : List UInt8) : splitC c s ≠ [] := by
  cases s with
  | nil => simp [splitC]
  | cons x s =>
    unfold splitC
    split
    · simp
    · unfold consHead
      split <;> simp
end Go.Proofs.YtodmnogoacghpaaGreatDoor
