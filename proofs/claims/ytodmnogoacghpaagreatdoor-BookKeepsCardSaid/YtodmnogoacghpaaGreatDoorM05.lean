/- A disk, in plain Lean: files as they are, and as they are safe. -/
import Derived.Test.YtodmnogoacghpaaGreatDoorM04
namespace Go.Proofs.YtodmnogoacghpaaGreatDoor
set_option maxRecDepth 10000

structure FileD where
  now : ByteArray
  safe : Option ByteArray
abbrev FS := List (ByteArray × FileD)
structure DiskD where
  fs : FS
  left : Int
  bytes : Int

def fget (fs : FS) (f : ByteArray) : Option FileD := (fs.find? fun p => decide (p.1 = f)).map (·.2)
def fdel (fs : FS) (f : ByteArray) : FS := fs.filter fun p => !decide (p.1 = f)
def fput (fs : FS) (f : ByteArray) (x : FileD) : FS := fdel fs f ++ [(f, x)]
def ftot (fs : FS) : Nat := (fs.map fun p => p.2.now.size).sum
def NodupK (fs : FS) : Prop := (fs.map (·.1)).Nodup

theorem fget_nil (f : ByteArray) : fget [] f = none := rfl
theorem fget_cons (p : ByteArray × FileD) (fs : FS) (f : ByteArray) : fget (p :: fs) f = if p.1 = f then some p.2 else fget fs f := by
  unfold fget
  rw [List.find?_cons]
  by_cases h : p.1 = f <;> simp [h]
theorem fget_append (a b : FS) (f : ByteArray) : fget (a ++ b) f = (fget a f).or (fget b f) := by
  induction a with
  | nil => rfl
  | cons p a ih =>
    rw [List.cons_append, fget_cons, fget_cons, ih]
    by_cases h : p.1 = f <;> simp [h]
theorem fget_del (fs : FS) (f g : ByteArray) : fget (fdel fs f) g = if g = f then none else fget fs g := by
  induction fs with
  | nil => simp [fdel, fget]
  | cons p fs ih =>
    unfold fdel at *
    rw [List.filter_cons]
    by_cases h : p.1 = f
    · simp only [h, decide_true, Bool.not_true, Bool.false_eq_true, if_false, ih, fget_cons]
      by_cases e : g = f
      · simp [e]
      · rw [if_neg e, if_neg e, if_neg (fun e' => e e'.symm)]
    · simp only [h, decide_false, Bool.not_false, if_true, fget_cons, ih]
      by_cases e : p.1 = g
      · rw [if_pos e, if_pos e, if_neg (fun e' => h (e.trans e'))]
      · rw [if_neg e, if_neg e]
theorem fget_put (fs : FS) (f g : ByteArray) (x : FileD) : fget (fput fs f x) g = if g = f then some x else fget fs g := by
  unfold fput
  rw [fget_append, fget_del]
  by_cases e : g = f
  · subst e
    simp [fget_cons]
  · rw [if_neg e, if_neg e, fget_cons, if_neg (fun e' => e e'.symm), fget_nil]
    cases fget fs g <;> rfl
theorem fget_mem {fs : FS} {f : ByteArray} {x : FileD} (h : fget fs f = some x) : (f, x) ∈ fs := by
  induction fs with
  | nil => cases h
  | cons p fs ih =>
    rw [fget_cons] at h
    by_cases e : p.1 = f
    · rw [if_pos e] at h
      injection h with h
      have : p = (f, x) := by rw [← e, ← h]
      rw [this]
      exact List.mem_cons_self ..
    · rw [if_neg e] at h
      exact List.mem_cons_of_mem _ (ih h)
theorem fget_of_mem {fs : FS} (hn : NodupK fs) {f : ByteArray} {x : FileD} (h : (f, x) ∈ fs) : fget fs f = some x := by
  induction fs with
  | nil => cases h
  | cons p fs ih =>
    unfold NodupK at hn
    rw [List.map_cons, List.nodup_cons] at hn
    rw [fget_cons]
    rcases List.mem_cons.1 h with rfl | h
    · simp
    · have : p.1 ≠ f := fun e => hn.1 (by rw [e]; exact List.mem_map.2 ⟨_, h, rfl⟩)
      rw [if_neg this]
      exact ih hn.2 h
theorem fget_none {fs : FS} {f : ByteArray} : fget fs f = none ↔ f ∉ fs.map (·.1) := by
  induction fs with
  | nil => simp [fget]
  | cons p fs ih =>
    rw [fget_cons, List.map_cons, List.mem_cons]
    by_cases e : p.1 = f
    · simp [e]
    · rw [if_neg e, ih]
      simp [Ne.symm e]
theorem NodupK.del {fs : FS} (h : NodupK fs) (f : ByteArray) : NodupK (fdel fs f) := by
  unfold NodupK fdel at *
  exact List.Nodup.sublist (List.Sublist.map _ List.filter_sublist) h
theorem NodupK.put {fs : FS} (h : NodupK fs) (f : ByteArray) (x : FileD) : NodupK (fput fs f x) := by
  have h1 := h.del f
  have h2 : f ∉ (fdel fs f).map (·.1) := fget_none.1 (by rw [fget_del, if_pos rfl])
  unfold NodupK fput at *
  rw [List.map_append, List.nodup_append]
  refine ⟨h1, by simp, fun a ha b hb e => ?_⟩
  simp only [List.map_cons, List.map_nil, List.mem_singleton] at hb
  rw [e, hb] at ha
  exact h2 ha
theorem del_none {fs : FS} {f : ByteArray} (h : fget fs f = none) : fdel fs f = fs := by
  have h1 := fget_none.1 h
  unfold fdel
  rw [List.filter_eq_self]
  intro p hp
  have : p.1 ≠ f := fun e => h1 (by rw [← e]; exact List.mem_map_of_mem hp)
  simp [this]
theorem ftot_del {fs : FS} (hn : NodupK fs) (f : ByteArray) : ftot fs = ftot (fdel fs f) + match fget fs f with | some x => x.now.size | none => 0 := by
  induction fs with
  | nil => rfl
  | cons p fs ih =>
    unfold NodupK at hn
    rw [List.map_cons, List.nodup_cons] at hn
    have hih := ih hn.2
    rw [fget_cons]
    by_cases e : p.1 = f
    · have hnone : fget fs f = none := fget_none.2 (by rw [← e]; exact hn.1)
      have hd : fdel (p :: fs) f = fs := by
        have := del_none hnone
        unfold fdel at *
        rw [List.filter_cons]
        simp [e, this]
      rw [if_pos e, hd]
      simp [ftot]
      omega
    · have hd : fdel (p :: fs) f = p :: fdel fs f := by
        unfold fdel
        rw [List.filter_cons]
        simp [e]
      rw [if_neg e, hd]
      unfold ftot at *
      simp only [List.map_cons, List.sum_cons]
      omega
theorem fdel_len (fs : FS) (f : ByteArray) : (fdel fs f).length ≤ fs.length := List.length_filter_le _ _
theorem fput_len (fs : FS) (f : ByteArray) (x : FileD) : (fput fs f x).length ≤ fs.length + 1 := by
  unfold fput
  have := fdel_len fs f
  simp
  omega

/-- What the two maps say. -/
def nowM (fs : FS) : MapF := fun f => (fget fs f).map fun x => .string x.now
def safeM (fs : FS) : MapF := fun f => (fget fs f).bind fun x => x.safe.map .string
theorem nowM_keys {fs : FS} (h : NodupK fs) : KeysM (nowM fs) (fs.map (·.1)) := by
  refine ⟨h, fun s => ?_⟩
  unfold nowM
  cases e : fget fs s with
  | none => simp [fget_none.1 e]
  | some x =>
    have := List.mem_map_of_mem (f := (·.1)) (fget_mem e)
    simpa using this
theorem nowM_put (fs : FS) (f : ByteArray) (x : FileD) : ∀ s, nowM (fput fs f x) s = putM (nowM fs) f (some (.string x.now)) s := by
  intro s
  unfold nowM putM
  rw [fget_put]
  by_cases e : s = f <;> simp [e]
theorem nowM_del (fs : FS) (f : ByteArray) : ∀ s, nowM (fdel fs f) s = putM (nowM fs) f none s := by
  intro s
  unfold nowM putM
  rw [fget_del]
  by_cases e : s = f <;> simp [e]
theorem safeM_put (fs : FS) (f : ByteArray) (x : FileD) : ∀ s, safeM (fput fs f x) s = putM (safeM fs) f (x.safe.map .string) s := by
  intro s
  unfold safeM putM
  rw [fget_put]
  by_cases e : s = f <;> simp [e]
theorem safeM_del (fs : FS) (f : ByteArray) : ∀ s, safeM (fdel fs f) s = putM (safeM fs) f none s := by
  intro s
  unfold safeM putM
  rw [fget_del]
  by_cases e : s = f <;> simp [e]

/-! ### what is done -/
def usedD (d : DiskD) : DiskD := { d with left := if 0 < d.left then d.left - 1 else d.left }
def nameB (f : ByteArray) : Bool := decide (1 ≤ f.size) && decide (f.size ≤ 80)
def fullB (d : DiskD) (f s : ByteArray) : Bool := (decide (0 ≤ d.bytes) && decide (d.bytes < ((ftot (fdel d.fs f) + s.size : Nat) : Int))) || ((fget d.fs f).isNone && decide (5000 ≤ d.fs.length))
def writeD (d : DiskD) (f s : ByteArray) : Int × DiskD :=
  if nameB f = false then (1, d)
  else if d.left = 0 then (14, d)
  else if fullB d f s = true then (12, usedD d)
  else (0, { usedD d with fs := fput d.fs f ⟨s, (fget d.fs f).bind (·.safe)⟩ })
def syncD (d : DiskD) (f : ByteArray) : Int × DiskD :=
  match fget d.fs f with
  | none => (7, d)
  | some x => if d.left = 0 then (14, d) else (0, { usedD d with fs := fput d.fs f ⟨x.now, some x.now⟩ })
def moveD (d : DiskD) (f t : ByteArray) : Int × DiskD :=
  if nameB t = false then (1, d)
  else match fget d.fs f with
  | none => (7, d)
  | some x => if d.left = 0 then (14, d) else (0, { usedD d with fs := fput (fdel d.fs f) t x })
def removeD (d : DiskD) (f : ByteArray) : Int × DiskD :=
  match fget d.fs f with
  | none => (7, d)
  | some _ => if d.left = 0 then (14, d) else (0, { usedD d with fs := fdel d.fs f })
def oldOf (x : FileD) : ByteArray := x.safe.getD ⟨#[]⟩
def startF (keeps : Int) (x : FileD) : Option ByteArray :=
  if x.safe = some x.now then some x.now
  else if 0 < keeps then
    let k := (min keeps ((x.now.size : Nat) : Int)).toNat
    some (x.now.extract 0 k ++ (oldOf x).extract (min k (oldOf x).size) (oldOf x).size)
  else x.safe
def startFs (keeps : Int) (fs : FS) : FS := fs.filterMap fun p => (startF keeps p.2).map fun s => (p.1, ⟨s, some s⟩)
def startD (d : DiskD) (keeps : Int) : DiskD := { d with fs := startFs keeps d.fs, left := -1 }
def cutD (d : DiskD) (n : Int) : DiskD := { d with left := max n (-1) }
def roomD (d : DiskD) (n : Int) : DiskD := { d with bytes := max n (-1) }
def zeroD : DiskD := ⟨[], -1, -1⟩

theorem startFs_get (keeps : Int) {fs : FS} (hn : NodupK fs) (f : ByteArray) : fget (startFs keeps fs) f = (fget fs f).bind fun x => (startF keeps x).map fun s => ⟨s, some s⟩ := by
  induction fs with
  | nil => rfl
  | cons p fs ih =>
    unfold NodupK at hn
    rw [List.map_cons, List.nodup_cons] at hn
    have hih := ih hn.2
    unfold startFs at *
    rw [List.filterMap_cons, fget_cons]
    by_cases e : p.1 = f
    · have hnone : fget fs f = none := fget_none.2 (by rw [← e]; exact hn.1)
      rw [if_pos e]
      cases hs : startF keeps p.2 with
      | none => simp [hih, hnone, hs]
      | some s => simp [fget_cons, e, hs]
    · rw [if_neg e]
      cases hs : startF keeps p.2 with
      | none => simpa using hih
      | some s =>
        simp only [Option.map_some, fget_cons, if_neg e]
        exact hih
theorem startFs_nodup (keeps : Int) {fs : FS} (hn : NodupK fs) : NodupK (startFs keeps fs) := by
  unfold NodupK at *
  refine List.Nodup.sublist ?_ hn
  induction fs with
  | nil => exact List.Sublist.refl _
  | cons p fs ih =>
    rw [List.map_cons, List.nodup_cons] at hn
    have hih := ih hn.2
    unfold startFs at *
    rw [List.filterMap_cons]
    cases hs : startF keeps p.2 with
    | none => simpa using List.Sublist.cons _ hih
    | some s => simpa using List.Sublist.cons_cons p.1 hih
theorem startFs_len (keeps : Int) (fs : FS) : (startFs keeps fs).length ≤ fs.length := List.length_filterMap_le _ _

/-- What is short enough. -/
structure GoodD (C M : Nat) (d : DiskD) : Prop where
  nodup : NodupK d.fs
  len : d.fs.length ≤ C
  now : ∀ p ∈ d.fs, p.1.size ≤ 80 ∧ p.2.now.size ≤ M ∧ ∀ s, p.2.safe = some s → s.size ≤ M
  left : -1 ≤ d.left ∧ d.left ≤ 9223372036854775807
  bytes : -1 ≤ d.bytes ∧ d.bytes ≤ 9223372036854775807
theorem GoodD.get {C M : Nat} {d : DiskD} (h : GoodD C M d) {f : ByteArray} {x : FileD} (hx : fget d.fs f = some x) : f.size ≤ 80 ∧ x.now.size ≤ M ∧ ∀ s, x.safe = some s → s.size ≤ M := h.now _ (fget_mem hx)
theorem GoodD.tot {C M : Nat} {d : DiskD} (h : GoodD C M d) : ftot d.fs ≤ C * M := by
  have key : ∀ fs : FS, (∀ p ∈ fs, p.2.now.size ≤ M) → ftot fs ≤ fs.length * M := by
    intro fs
    induction fs with
    | nil => intro _; exact Nat.zero_le _
    | cons p fs ih =>
      intro hp
      have h1 := hp p (List.mem_cons_self ..)
      have h2 := ih (fun q hq => hp q (List.mem_cons_of_mem _ hq))
      unfold ftot at *
      simp only [List.map_cons, List.sum_cons, List.length_cons]
      rw [Nat.add_mul]
      omega
  exact Nat.le_trans (key _ (fun p hp => (h.now p hp).2.1)) (Nat.mul_le_mul_right _ h.len)
theorem GoodD.zero (C M : Nat) : GoodD C M zeroD := ⟨List.nodup_nil, Nat.zero_le _, (fun _ h => by cases h), by decide, by decide⟩
theorem GoodD.mono {C M C' M' : Nat} {d : DiskD} (h : GoodD C M d) (hC : C ≤ C') (hM : M ≤ M') : GoodD C' M' d :=
  ⟨h.nodup, Nat.le_trans h.len hC, fun p hp => ⟨(h.now p hp).1, Nat.le_trans (h.now p hp).2.1 hM, fun s hs => Nat.le_trans ((h.now p hp).2.2 s hs) hM⟩, h.left, h.bytes⟩
theorem GoodD.used {C M : Nat} {d : DiskD} (h : GoodD C M d) : GoodD C M (usedD d) := by
  refine ⟨h.nodup, h.len, h.now, ?_, h.bytes⟩
  have := h.left
  unfold usedD
  dsimp only
  split <;> omega
theorem GoodD.setFs {C C' M : Nat} {d : DiskD} (h : GoodD C M d) {fs : FS} (h1 : NodupK fs) (h2 : fs.length ≤ C') (h3 : ∀ p ∈ fs, p.1.size ≤ 80 ∧ p.2.now.size ≤ M ∧ ∀ s, p.2.safe = some s → s.size ≤ M) : GoodD C' M { usedD d with fs := fs } :=
  ⟨h1, h2, h3, h.used.left, h.used.bytes⟩
theorem mem_del {fs : FS} {f : ByteArray} {p : ByteArray × FileD} (h : p ∈ fdel fs f) : p ∈ fs := (List.mem_filter.1 h).1
theorem mem_put {fs : FS} {f : ByteArray} {x : FileD} {p : ByteArray × FileD} (h : p ∈ fput fs f x) : p ∈ fs ∨ p = (f, x) := by
  rcases List.mem_append.1 h with h | h
  · exact Or.inl (mem_del h)
  · exact Or.inr (List.mem_singleton.1 h)
theorem nameB_le {f : ByteArray} (h : nameB f = true) : f.size ≤ 80 := by
  unfold nameB at h
  simp at h
  omega
theorem GoodD.write {C M : Nat} {d : DiskD} (h : GoodD C M d) {f s : ByteArray} (hs : s.size ≤ M) : GoodD (C + 1) M (writeD d f s).2 := by
  unfold writeD
  split
  · exact h.mono (Nat.le_succ _) (Nat.le_refl _)
  · rename_i hn
    split
    · exact h.mono (Nat.le_succ _) (Nat.le_refl _)
    · split
      · exact h.used.mono (Nat.le_succ _) (Nat.le_refl _)
      · refine h.setFs (h.nodup.put _ _) (Nat.le_trans (fput_len _ _ _) (Nat.succ_le_succ h.len)) fun p hp => ?_
        rcases mem_put hp with hp | rfl
        · exact h.now p hp
        · refine ⟨nameB_le (by simpa using hn), hs, fun y hy => ?_⟩
          cases e : fget d.fs f with
          | none => rw [e] at hy; cases hy
          | some x => rw [e] at hy; exact (h.get e).2.2 y hy
theorem put_len {fs : FS} {f : ByteArray} {x y : FileD} (h : fget fs f = some y) : (fput fs f x).length ≤ fs.length := by
  have hm := fget_mem h
  have : (fdel fs f).length < fs.length := by
    unfold fdel
    rcases Nat.lt_or_ge (fs.filter fun p => !decide (p.1 = f)).length fs.length with h' | h'
    · exact h'
    · have := List.length_filter_eq_length_iff.1 (Nat.le_antisymm (List.length_filter_le _ _) h') _ hm
      simp at this
  unfold fput
  simp
  omega
theorem GoodD.sync {C M : Nat} {d : DiskD} (h : GoodD C M d) (f : ByteArray) : GoodD C M (syncD d f).2 := by
  unfold syncD
  cases e : fget d.fs f with
  | none => exact h
  | some x =>
    dsimp only
    split
    · exact h
    · refine h.setFs (h.nodup.put _ _) (Nat.le_trans (put_len e) h.len) fun p hp => ?_
      rcases mem_put hp with hp | rfl
      · exact h.now p hp
      · exact ⟨(h.get e).1, (h.get e).2.1, fun y hy => by injection hy with hy; rw [← hy]; exact (h.get e).2.1⟩
theorem GoodD.move {C M : Nat} {d : DiskD} (h : GoodD C M d) (f t : ByteArray) : GoodD C M (moveD d f t).2 := by
  unfold moveD
  split
  · exact h
  · rename_i hn
    cases e : fget d.fs f with
    | none => exact h
    | some x =>
      dsimp only
      split
      · exact h
      · refine h.setFs ((h.nodup.del _).put _ _) ?_ fun p hp => ?_
        · have h1 : (fdel d.fs f).length + 1 ≤ d.fs.length := by
            have := put_len (x := x) e
            unfold fput at this
            simpa using this
          exact Nat.le_trans (Nat.le_trans (fput_len _ _ _) h1) h.len
        · rcases mem_put hp with hp | rfl
          · exact h.now p (mem_del hp)
          · exact ⟨nameB_le (by simpa using hn), (h.get e).2.1, (h.get e).2.2⟩
theorem GoodD.remove {C M : Nat} {d : DiskD} (h : GoodD C M d) (f : ByteArray) : GoodD C M (removeD d f).2 := by
  unfold removeD
  cases e : fget d.fs f with
  | none => exact h
  | some x =>
    dsimp only
    split
    · exact h
    · exact h.setFs (h.nodup.del _) (Nat.le_trans (fdel_len _ _) h.len) fun p hp => h.now p (mem_del hp)
theorem startF_size {M : Nat} {keeps : Int} {x : FileD} (h1 : x.now.size ≤ M) (h2 : ∀ s, x.safe = some s → s.size ≤ M) {s : ByteArray} (h : startF keeps x = some s) : s.size ≤ M := by
  unfold startF at h
  split at h
  · injection h with h; rw [← h]; exact h1
  · split at h
    · injection h with h
      rw [← h]
      have ho : (oldOf x).size ≤ M := by
        unfold oldOf
        cases e : x.safe with
        | none => exact Nat.zero_le _
        | some y => exact h2 y e
      rw [ByteArray.size_append, ByteArray.size_extract, ByteArray.size_extract]
      omega
    · exact h2 s h
theorem GoodD.start {C M : Nat} {d : DiskD} (h : GoodD C M d) (keeps : Int) : GoodD C M (startD d keeps) := by
  refine ⟨startFs_nodup keeps h.nodup, Nat.le_trans (startFs_len _ _) h.len, fun p hp => ?_, ⟨Int.le_refl _, by show (-1 : Int) ≤ _; decide⟩, h.bytes⟩
  obtain ⟨q, hq, hp⟩ := List.mem_filterMap.1 hp
  cases hs : startF keeps q.2 with
  | none => rw [hs] at hp; cases hp
  | some s =>
    rw [hs] at hp
    injection hp with hp
    subst hp
    have hz := startF_size (h.now q hq).2.1 (h.now q hq).2.2 hs
    exact ⟨(h.now q hq).1, hz, fun y hy => by injection hy with hy; rw [← hy]; exact hz⟩
theorem GoodD.cut {C M : Nat} {d : DiskD} (h : GoodD C M d) {n : Int} (hn : n ≤ 9223372036854775807) : GoodD C M (cutD d n) := ⟨h.nodup, h.len, h.now, by unfold cutD; dsimp only; omega, h.bytes⟩
theorem GoodD.room {C M : Nat} {d : DiskD} (h : GoodD C M d) {n : Int} (hn : n ≤ 9223372036854775807) : GoodD C M (roomD d n) := ⟨h.nodup, h.len, h.now, h.left, by unfold roomD; dsimp only; omega⟩
end Go.Proofs.YtodmnogoacghpaaGreatDoor
