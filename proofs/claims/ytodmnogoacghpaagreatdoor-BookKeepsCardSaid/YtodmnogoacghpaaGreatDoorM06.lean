/- What is told of a map, file by file: sums, and the map that a start makes; in plain Lean. -/
import Derived.Test.YtodmnogoacghpaaGreatDoorM05
namespace Go.Proofs.YtodmnogoacghpaaGreatDoor
set_option maxRecDepth 10000

def tookL (left : ByteArray → Bool) (s : ByteArray) : ByteArray → Bool := fun x => left x && !decide (x = s)
def sumT (g : ByteArray × FileD → Nat) (fs : FS) (left : ByteArray → Bool) : Nat := ((fs.filter fun p => left p.1).map g).sum
theorem sumT_cons (g : ByteArray × FileD → Nat) (p : ByteArray × FileD) (fs : FS) (left : ByteArray → Bool) : sumT g (p :: fs) left = (if left p.1 then g p else 0) + sumT g fs left := by
  unfold sumT
  rw [List.filter_cons]
  cases left p.1 <;> simp
theorem sumT_took {g : ByteArray × FileD → Nat} {fs : FS} {left : ByteArray → Bool} {s : ByteArray} (h : s ∉ fs.map (·.1)) : sumT g fs (tookL left s) = sumT g fs left := by
  induction fs with
  | nil => rfl
  | cons p fs ih =>
    rw [List.map_cons, List.mem_cons, not_or] at h
    rw [sumT_cons, sumT_cons, ih h.2]
    have : tookL left s p.1 = left p.1 := by unfold tookL; simp [Ne.symm h.1]
    rw [this]
theorem sumT_step {g : ByteArray × FileD → Nat} {fs : FS} (hn : NodupK fs) {left : ByteArray → Bool} {s : ByteArray} {x : FileD} (hx : fget fs s = some x) (hl : left s = true) : sumT g fs left = sumT g fs (tookL left s) + g (s, x) := by
  induction fs with
  | nil => cases hx
  | cons p fs ih =>
    unfold NodupK at hn
    rw [List.map_cons, List.nodup_cons] at hn
    rw [fget_cons] at hx
    rw [sumT_cons, sumT_cons]
    by_cases e : p.1 = s
    · rw [if_pos e] at hx
      injection hx with hx
      have hp : p = (s, x) := by rw [← e, ← hx]
      have hns : s ∉ fs.map (·.1) := by rw [← e]; exact hn.1
      rw [sumT_took hns]
      have h1 : tookL left s p.1 = false := by unfold tookL; simp [e]
      rw [h1, e, hl, hp]
      simp
      omega
    · rw [if_neg e] at hx
      rw [ih hn.2 hx]
      have h1 : tookL left s p.1 = left p.1 := by unfold tookL; simp [e]
      rw [h1]
      omega
theorem sumT_none {g : ByteArray × FileD → Nat} {fs : FS} {left : ByteArray → Bool} (h : ∀ s, left s = false) : sumT g fs left = 0 := by
  unfold sumT
  rw [List.filter_eq_nil_iff.2 fun p _ => by simp [h]]
  rfl
theorem sumT_all {g : ByteArray × FileD → Nat} {fs : FS} {left : ByteArray → Bool} (h : ∀ p ∈ fs, left p.1 = true) : sumT g fs left = (fs.map g).sum := by
  unfold sumT
  rw [List.filter_eq_self.2 fun p hp => h p hp]
theorem fget_isSome {fs : FS} {p : ByteArray × FileD} (hp : p ∈ fs) : (fget fs p.1).isSome = true := by
  cases h : fget fs p.1 with
  | some x => rfl
  | none => exact absurd (List.mem_map_of_mem hp) (fget_none.1 h)
theorem sum_but {fs : FS} (f : ByteArray) : (fs.map fun p => if p.1 = f then 0 else p.2.now.size).sum = ftot (fdel fs f) := by
  induction fs with
  | nil => rfl
  | cons p fs ih =>
    rw [List.map_cons, List.sum_cons, ih]
    unfold ftot fdel
    rw [List.filter_cons]
    by_cases e : p.1 = f
    · simp [e]
    · simp [e]

/-! ### the map that a start makes -/
def startM (keeps : Int) (fs : FS) : MapF := fun f => ((fget fs f).bind (startF keeps)).map .string
def partM (keeps : Int) (fs : FS) (left : ByteArray → Bool) : MapF := fun f => if left f then none else startM keeps fs f
theorem partM_keep {keeps : Int} {fs : FS} {left : ByteArray → Bool} {s : ByteArray} (hl : left s = true) {x : FileD} (hx : fget fs s = some x) (h : startF keeps x = none) : ∀ f, partM keeps fs (tookL left s) f = partM keeps fs left f := by
  intro f
  unfold partM tookL
  by_cases e : f = s
  · subst e
    simp [hl, startM, hx, h]
  · simp [e]
theorem partM_put {keeps : Int} {fs : FS} {left : ByteArray → Bool} {s t : ByteArray} {x : FileD} (hx : fget fs s = some x) (h : startF keeps x = some t) : ∀ f, partM keeps fs (tookL left s) f = putM (partM keeps fs left) s (some (.string t)) f := by
  intro f
  unfold partM tookL putM
  by_cases e : f = s
  · subst e
    simp [startM, hx, h]
  · simp [e]
theorem partM_start {keeps : Int} {fs : FS} {left : ByteArray → Bool} (h : ∀ f, left f = (fget fs f).isSome) : ∀ f, partM keeps fs left f = none := by
  intro f
  unfold partM startM
  rw [h f]
  cases fget fs f <;> simp
theorem partM_end {keeps : Int} {fs : FS} (hn : NodupK fs) {left : ByteArray → Bool} (h : ∀ s, left s = false) : ∀ f, partM keeps fs left f = nowM (startFs keeps fs) f := by
  intro f
  unfold partM startM nowM
  rw [h f, startFs_get keeps hn]
  cases fget fs f with
  | none => simp
  | some x => cases h : startF keeps x <;> simp [h]
theorem startFs_safe {keeps : Int} {fs : FS} (hn : NodupK fs) : ∀ f, safeM (startFs keeps fs) f = nowM (startFs keeps fs) f := by
  intro f
  unfold safeM nowM
  rw [startFs_get keeps hn]
  cases fget fs f with
  | none => rfl
  | some x => cases h : startF keeps x <;> simp [h]
theorem safeM_keys {fs : FS} (h : NodupK fs) : KeysM (safeM fs) ((fs.filter fun p => ((fget fs p.1).bind (·.safe)).isSome).map (·.1)) := by
  refine ⟨List.Nodup.sublist (List.Sublist.map _ List.filter_sublist) h, fun s => ?_⟩
  unfold safeM
  rw [List.mem_map]
  constructor
  · rintro ⟨p, hp, rfl⟩
    have := (List.mem_filter.1 hp).2
    cases e : fget fs p.1 with
    | none => rw [e] at this; cases this
    | some x =>
      rw [e] at this
      simp only [Option.bind_some] at this ⊢
      cases hs : x.safe with
      | none => rw [hs] at this; cases this
      | some y => rfl
  · intro hs
    cases e : fget fs s with
    | none => rw [e] at hs; cases hs
    | some x =>
      refine ⟨(s, x), List.mem_filter.2 ⟨fget_mem e, ?_⟩, rfl⟩
      rw [e] at hs
      simp only [Option.bind_some] at hs
      rw [e]
      simp only [Option.bind_some]
      cases h2 : x.safe with
      | none => rw [h2] at hs; cases hs
      | some y => rfl
theorem safeM_few (fs : FS) : ((fs.filter fun p => ((fget fs p.1).bind (·.safe)).isSome).map (·.1)).length ≤ fs.length := by
  rw [List.length_map]
  exact List.length_filter_le _ _
end Go.Proofs.YtodmnogoacghpaaGreatDoor
