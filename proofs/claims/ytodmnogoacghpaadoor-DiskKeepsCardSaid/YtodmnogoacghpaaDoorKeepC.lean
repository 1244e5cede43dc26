/- DiskKeeps: what the law's loops carry. -/
import Derived.Test.YtodmnogoacghpaaDoorKeepB
namespace Go.Proofs.YtodmnogoacghpaaDoor
open Go.RowKit
set_option maxRecDepth 100000

theorem len_le {α : Type} [DecidableEq α] : ∀ (a b : List α), a.Nodup → (∀ x ∈ a, x ∈ b) → a.length ≤ b.length
  | [], _, _, _ => Nat.zero_le _
  | x :: a, b, hn, hs => by
    rw [List.nodup_cons] at hn
    have h1 := len_le a (b.erase x) hn.2 (fun y hy => (List.mem_erase_of_ne (fun e => hn.1 (by rw [← e]; exact hy))).2 (hs y (by simp [hy])))
    have h2 := List.length_erase_of_mem (hs x (by simp))
    have h3 := List.length_pos_of_mem (hs x (by simp))
    rw [List.length_cons]
    omega
section
variable {w w' : World} {B : Nat} {X : List Nat} {a : Nat} {d : DiskD}
/-- The files' names, as a slice of their own: they stay while the disk is written. -/
theorem One.names {v : Value} {ks : List ByteArray} (h : One w B X a d) (hb : Below w.heap.size w w') (hS : Strs w' v ks) (hf : FreshV w.heap.size v) :
    ∃ X1, One w' B (X1 ++ X) a d ∧ (∀ k ∈ X1, w.heap.size ≤ k ∧ k < w'.heap.size) ∧ ∀ W, w'.heap.size ≤ W.heap.size → (∀ k ∈ X1, W.heap[k]? = w'.heap[k]?) → Strs W v ks := by
  have h' := h.other hb
  obtain ⟨F, hP, h2, h4⟩ := h
  rcases hf with rfl | ⟨g, n, c, rfl, hg⟩
  · exact ⟨[], h', (fun k hk => by cases hk), fun W _ _ => ⟨by
      obtain ⟨aa, ca, e, h1, h3, h5⟩ := hS.1
      injection e with e1 e2 e3
      exact ⟨none, 0, by rw [e2], by omega, Nat.zero_le _, Or.inl e2.symm⟩, hS.2⟩⟩
  · obtain ⟨aa, ca, e, h1, h3, h5⟩ := hS.1
    injection e with e1 e2 e3
    rcases h5 with h5 | ⟨b, o, e4, hlt, hc⟩
    · exact ⟨[], h', (fun k hk => by cases hk), fun W _ _ => ⟨⟨aa, ca, by rw [← e1, ← e2, ← e3], h1, h3, Or.inl h5⟩, hS.2⟩⟩
    · rw [← e1] at e4
      injection e4 with e4
      injection e4 with e5 e6
      subst e5 e6
      refine ⟨[g], ⟨F, hP.keep (fun k hk => hb.block k (hP.lt k hk)), h2, fun k hk => ?_⟩, (fun k hk => by rw [List.mem_singleton.1 hk]; exact ⟨hg, hlt⟩), fun W hs hk => ⟨⟨aa, ca, by rw [← e1, ← e2, ← e3], h1, h3, Or.inr ⟨g, 0, by rw [← e1], ?_, fun i j hi hj => ?_⟩⟩, hS.2⟩⟩
      · rcases List.mem_append.1 hk with hk | hk
        · rw [List.mem_singleton.1 hk]
          exact ⟨hlt, fun hf => by have := hP.lt _ hf; omega⟩
        · exact ⟨Nat.lt_of_lt_of_le (h4 k hk).1 hb.size, (h4 k hk).2⟩
      · exact Nat.lt_of_lt_of_le hlt hs
      · exact (World.cell?_of_block (a := ⟨g, 0 + i * 1 + j, none⟩) (hk g (by simp))).trans (hc i j hi hj)
/-- A block that another's step has made. -/
theorem One.pushG (h : One w B X a d) (hb : Below w.heap.size w w') (hs : w.heap.size < w'.heap.size) : One w' B (w.heap.size :: X) a d := by
  obtain ⟨F, hP, h2, h4⟩ := h
  refine ⟨F, hP.keep (fun k hk => hb.block k (hP.lt k hk)), h2, fun k hk => ?_⟩
  rcases List.mem_cons.1 hk with rfl | hk
  · exact ⟨hs, fun hk' => absurd (hP.lt _ hk') (Nat.lt_irrefl _)⟩
  · exact ⟨Nat.lt_of_lt_of_le (h4 k hk).1 hb.size, (h4 k hk).2⟩
end
/-- All that were come to are safe; what is now is as it was. -/
structure SyncR (d1 : DiskD) (ks : List ByteArray) (j : Nat) (C : Nat) (d : DiskD) : Prop where
  free : FreeD d
  good : GoodD C 200 d
  plain : PlainD d
  now : ∀ f, nowG d.fs f = nowG d1.fs f
  safe : ∀ f ∈ ks.take j, ∀ x, fget d.fs f = some x → x.safe = some x.now
theorem SyncR.start {d : DiskD} {C : Nat} {ks : List ByteArray} (hF : FreeD d) (hG : GoodD C 200 d) (hP : PlainD d) : SyncR d ks 0 C d := ⟨hF, hG, hP, fun _ => rfl, fun f hf => by simp at hf⟩
theorem SyncR.step {d1 d : DiskD} {C j : Nat} {ks : List ByteArray} {z : ByteArray} {x : FileD} (h : SyncR d1 ks j C d) (hj : j < ks.length) (hz : ks.getD j ⟨#[]⟩ = z) (hx : fget d.fs z = some x) : SyncR d1 ks (j + 1) C { d with fs := fput d.fs z ⟨x.now, some x.now⟩ } := by
  have hg := h.good.sync z
  have hp := (Step1.sync (d := d) (h.plain.get hx).1).plain h.plain
  rw [sync_free h.free hx] at hg hp
  refine ⟨h.free, hg, hp, fun f => ?_, fun f hf y hy => ?_⟩
  · rw [← h.now f]
    unfold nowG
    dsimp only
    rw [fget_put]
    by_cases e : f = z
    · rw [if_pos e, e, hx]; rfl
    · rw [if_neg e]
  · dsimp only at hy
    rw [fget_put] at hy
    by_cases e : f = z
    · rw [if_pos e] at hy
      injection hy with hy
      rw [← hy]
    · rw [if_neg e] at hy
      rw [List.take_succ_eq_append_getElem hj, List.mem_append, List.mem_singleton] at hf
      rcases hf with hf | hf
      · exact h.safe f hf y hy
      · refine absurd ?_ e
        rw [hf, ← hz, List.getD_eq_getElem?_getD, List.getElem?_eq_getElem hj]
        rfl
theorem SyncR.all {d1 d : DiskD} {C : Nat} (h : SyncR d1 (sortB (d1.fs.map (·.1))) (sortB (d1.fs.map (·.1))).length C d) : AllSafe d.fs := by
  intro f x hx
  refine h.safe f ?_ x hx
  rw [List.take_length, sortB_mem, keys_mem, ← h.now f, nowG_some, hx]
  rfl
open Classical in
/-- A map that is filled along a list of names. -/
noncomputable def fillM (fs : FS) (ks : List ByteArray) : MapF := fun f => if f ∈ ks then some (.string (nowOf fs f)) else none
theorem fillM_nil (fs : FS) (f : ByteArray) : fillM fs [] f = none := by unfold fillM; simp
theorem fillM_snoc (fs : FS) (ks : List ByteArray) (z f : ByteArray) : putM (fillM fs ks) z (some (.string (nowOf fs z))) f = fillM fs (ks ++ [z]) f := by
  unfold putM fillM
  by_cases e : f = z
  · subst e; simp
  · rw [if_neg e]
    by_cases hk : f ∈ ks
    · rw [if_pos hk, if_pos (List.mem_append_left _ hk)]
    · rw [if_neg hk, if_neg (fun h => (List.mem_append.1 h).elim hk (fun h => e (List.mem_singleton.1 h)))]
theorem fillM_all (fs : FS) (f : ByteArray) : fillM fs (sortB (fs.map (·.1))) f = (nowG fs f).map .string := by
  unfold fillM
  by_cases h : f ∈ sortB (fs.map (·.1))
  · rw [if_pos h]
    rw [sortB_mem, keys_mem] at h
    unfold nowOf
    cases e : nowG fs f with
    | none => rw [e] at h; cases h
    | some s => rfl
  · rw [if_neg h]
    rw [sortB_mem, keys_mem] at h
    cases e : nowG fs f with
    | none => rfl
    | some s => rw [e] at h; exact absurd rfl h
/-- Of all names those that were come to are written anew. -/
structure WriteR (d4 d5 : DiskD) (left : ByteArray → Bool) (d : DiskD) : Prop where
  free : FreeD d
  nodup : NodupK d.fs
  get : ∀ f, fget d.fs f = if (nowG d4.fs f).isSome = true ∧ left f = false then some ⟨nowOf d4.fs f, safeG d5.fs f⟩ else fget d5.fs f
theorem WriteR.len {d4 d5 d : DiskD} {left : ByteArray → Bool} (h : WriteR d4 d5 left d) (hs : ∀ f, (fget d5.fs f).isSome = true → (nowG d4.fs f).isSome = true) : d.fs.length ≤ d4.fs.length := by
  have := len_le (d.fs.map (fun p : ByteArray × FileD => p.1)) (d4.fs.map (fun p : ByteArray × FileD => p.1)) (show (d.fs.map (·.1)).Nodup from h.nodup) (fun f hf => by
    rw [keys_mem, nowG_some, h.get f] at hf
    rw [keys_mem]
    split at hf
    · rename_i hc; exact hc.1
    · exact hs f hf)
  simpa using this
theorem WriteR.good {d4 d5 d : DiskD} {left : ByteArray → Bool} {C : Nat} (h : WriteR d4 d5 left d) (hs : ∀ f, (fget d5.fs f).isSome = true → (nowG d4.fs f).isSome = true) (h4 : GoodD C 200 d4) (h5 : GoodD C 200 d5) : GoodD C 200 d := by
  refine ⟨h.nodup, Nat.le_trans (h.len hs) h4.len, fun p hp => ?_, by rw [h.free.1]; decide, by rw [h.free.2]; decide⟩
  have hg := fget_of_mem (f := p.1) (x := p.2) h.nodup (by rw [show (p.1, p.2) = p from rfl]; exact hp)
  rw [h.get] at hg
  split at hg
  · rename_i hc
    injection hg with hg
    rw [← hg]
    have h1 := hc.1
    rw [nowG_some] at h1
    cases e : fget d4.fs p.1 with
    | none => rw [e] at h1; cases h1
    | some x =>
      obtain ⟨k1, k2, k3⟩ := h4.get e
      refine ⟨k1, by rw [nowOf_get e]; exact k2, fun s hs' => ?_⟩
      unfold safeG at hs'
      cases e5 : fget d5.fs p.1 with
      | none => rw [e5] at hs'; cases hs'
      | some y => rw [e5] at hs'; exact (h5.get e5).2.2 s hs'
  · exact h5.get hg
theorem WriteR.step {d4 d5 d : DiskD} {left : ByteArray → Bool} {z : ByteArray} (h : WriteR d4 d5 left d) (hl : left z = true) (hz : (nowG d4.fs z).isSome = true) : WriteR d4 d5 (fun x => left x && !decide (x = z)) { d with fs := fput d.fs z ⟨nowOf d4.fs z, safeG d.fs z⟩ } := by
  have e0 : safeG d.fs z = safeG d5.fs z := by
    unfold safeG
    rw [h.get z, hl]
    simp
  refine ⟨h.free, h.nodup.put _ _, fun f => ?_⟩
  dsimp only
  rw [fget_put, e0]
  by_cases e : f = z
  · subst e
    rw [if_pos rfl, if_pos ⟨hz, by simp⟩]
  · rw [if_neg e, h.get f]
    simp [e]
theorem WriteR.all {d4 d5 d : DiskD} {left : ByteArray → Bool} (h : WriteR d4 d5 left d) (hl : ∀ f, left f = false) (hs : ∀ f, (fget d5.fs f).isSome = true → (nowG d4.fs f).isSome = true) (f : ByteArray) : fget d.fs f = (nowG d4.fs f).map fun s => ⟨s, safeG d5.fs f⟩ := by
  rw [h.get f, hl f]
  unfold nowOf
  cases e : nowG d4.fs f with
  | some s => simp
  | none =>
    rw [if_neg (by simp)]
    cases e5 : fget d5.fs f with
    | none => rfl
    | some y =>
      have := hs f (by rw [e5]; rfl)
      rw [e] at this; cases this
theorem plain_of_now {d d' : DiskD} (hn : NodupK d'.fs) (h : ∀ f, nowG d'.fs f = nowG d.fs f) (hp : PlainD d) : PlainD d' := by
  intro p hp'
  have hg := fget_of_mem (f := p.1) (x := p.2) hn (by rw [show (p.1, p.2) = p from rfl]; exact hp')
  have h1 := h p.1
  unfold nowG at h1
  rw [hg] at h1
  cases e : fget d.fs p.1 with
  | none => rw [e] at h1; cases h1
  | some x =>
    rw [e] at h1
    injection h1 with h1
    obtain ⟨k1, k2⟩ := hp.get e
    exact ⟨k1, by show TextL p.2.now; rw [show p.2.now = x.now from h1]; exact k2⟩
theorem good10 {d : DiskD} {C : Nat} (hC : C ≤ 1000) (h : GoodD C 200 d) : GoodD 1000 30000 d := h.mono hC (by decide)
theorem One.turn {w w' : World} {B : Nat} {X : List Nat} {a : Nat} {d : DiskD} {k : Nat} (h : One w B X a d) (hk : k ∈ X) (ht : Turn [k] w w') : One w' B X a d :=
  h.wrote hk ht.size fun j hj hne => ht.block j hj (by simpa using hne)
/-- The parts of all that a disk has. -/
def partsK (d : DiskD) : List ByteArray := (sortB (d.fs.map (·.1))).map (fun f => ofL (pieceL d.fs f)) ++ [ofL []]
theorem partsK_eq {d : DiskD} (hp : PlainD d) : Lib.splitB ⟨#[59]⟩ 0 (Lib.countB (allS d.fs) ⟨#[59]⟩) (allS d.fs) = partsK d := by
  rw [split_one, all_split hp, List.map_append, List.map_map]
  rfl
theorem partsK_len {d : DiskD} (hp : PlainD d) : Lib.countB (allS d.fs) ⟨#[59]⟩ + 1 = d.fs.length + 1 := by
  have h1 := Lib.splitB_all ⟨#[59]⟩ (by decide) 0 _ (allS d.fs) rfl
  rw [partsK_eq hp] at h1
  unfold partsK at h1
  rw [← h1]
  simp [sortB_len]
theorem allS_size {d : DiskD} {C : Nat} (hC : C ≤ 1000) (h : GoodD C 200 d) : (allS d.fs).size ≤ 30082000 := by
  have h1 := allK_size (fs := d.fs) (sortB (d.fs.map (·.1))) (fun f hf => by
    rw [sortB_mem, keys_mem, nowG_some] at hf
    cases e : fget d.fs f with
    | none => rw [e] at hf; cases hf
    | some y => exact ⟨(h.get e).1, by rw [nowOf_get e]; have := (h.get e).2.1; omega⟩)
  rw [sortB_len, List.length_map] at h1
  have := h.len
  unfold allS
  omega
theorem parts_get {d : DiskD} {j : Nat} {f : ByteArray} (hj : j < (sortB (d.fs.map (·.1))).length) (hf : (sortB (d.fs.map (·.1))).getD j ⟨#[]⟩ = f) : (partsK d).getD j ⟨#[]⟩ = ofL (pieceL d.fs f) := by
  unfold partsK
  rw [List.getD_eq_getElem?_getD, List.getElem?_append_left (by simpa using hj), List.getElem?_map, ← hf, List.getD_eq_getElem?_getD, List.getElem?_eq_getElem hj]
  rfl
theorem parts_last (d : DiskD) : (partsK d).getD (sortB (d.fs.map (·.1))).length ⟨#[]⟩ = ofL [] := by
  unfold partsK
  rw [List.getD_eq_getElem?_getD, List.getElem?_append_right (by simp)]
  simp
theorem cut_piece {d : DiskD} (hp : PlainD d) {f : ByteArray} (hf : (fget d.fs f).isSome = true) (hsz : (pieceL d.fs f).length < 4294967281) (M0 : Int) (W : World) (hm : W.cell? ⟨0, 0, none⟩ = some (.int .i64 M0)) :
    Calls Tryd.prog 26 #[.string (ofL (pieceL d.fs f)), .string ⟨#[61]⟩] W fun e w' => e = .returned (.tuple #[.string f, .string (nowOf d.fs f), .bool true]) ∧ ∃ n, w' = W.drewN n := by
  have h := Tryd.strings_Cut (ofL (pieceL d.fs f)) ⟨#[61]⟩ M0 W hsz hm
  rw [show (ofL (pieceL d.fs f)).data.toList = pieceL d.fs f from rfl, show (ByteArray.mk #[61]).data.toList = [61] from rfl, piece_cut hp hf] at h
  exact h
theorem cut_empty (M0 : Int) (W : World) (hm : W.cell? ⟨0, 0, none⟩ = some (.int .i64 M0)) :
    Calls Tryd.prog 26 #[.string (ofL []), .string ⟨#[61]⟩] W fun e w' => e = .returned (.tuple #[.string ⟨#[]⟩, .string ⟨#[]⟩, .bool false]) ∧ ∃ n, w' = W.drewN n := by
  have h := Tryd.strings_Cut (ofL []) ⟨#[61]⟩ M0 W (by decide) hm
  rw [show (ofL []).data.toList = [] from rfl, show (ByteArray.mk #[61]).data.toList = [61] from rfl, empty_cut] at h
  exact h
theorem take_snocB (l : List ByteArray) {j : Nat} {f : ByteArray} (h : j < l.length) (hf : l.getD j ⟨#[]⟩ = f) : l.take (j + 1) = l.take j ++ [f] := by
  rw [List.take_succ_eq_append_getElem h]
  rw [List.getD_eq_getElem?_getD, List.getElem?_eq_getElem h] at hf
  rw [← hf]
  rfl
/-- What stands at a name of the filled map. -/
theorem fill_got (fs : FS) (f : ByteArray) : gotV (fillM fs (sortB (fs.map (·.1)))) (.string ⟨#[]⟩) f = .string (nowOf fs f) := by
  unfold gotV
  rw [fillM_all]
  unfold nowOf
  cases nowG fs f <;> rfl
theorem fill_some {fs : FS} {s c : ByteArray} (h : fillM fs (sortB (fs.map (·.1))) s = some (.string c)) : nowG fs s = some c := by
  rw [fillM_all] at h
  cases e : nowG fs s with
  | none => rw [e] at h; cases h
  | some y =>
    rw [e] at h
    injection h with h
    injection h with h
    rw [h]
theorem nowOf_some {fs : FS} {f c : ByteArray} (h : nowG fs f = some c) : nowOf fs f = c := by
  unfold nowOf
  rw [h]
  rfl
theorem nowG_get {fs : FS} {f c : ByteArray} (h : nowG fs f = some c) : ∃ x, fget fs f = some x ∧ x.now = c := by
  unfold nowG at h
  cases e : fget fs f with
  | none => rw [e] at h; cases h
  | some x =>
    rw [e] at h
    injection h with h
    exact ⟨x, rfl, h⟩
theorem end_ok {d2 d4 d5 d6 : DiskD} (hA5 : AllSafe d5.fs) (hN5 : ∀ f, nowG d5.fs f = nowG d2.fs f) (h6 : ∀ f, fget d6.fs f = (nowG d4.fs f).map fun s => ⟨s, safeG d5.fs f⟩) (hn : NodupK d6.fs) {k : Int} (hk : 0 < k) {s c : ByteArray} (hs : nowG d4.fs s = some c) :
    ∃ y, fget (startD d6 k).fs s = some ⟨y, some y⟩ ∧ (c ≠ nowOf d2.fs s → y.extract 0 (min k ((c.size : Nat) : Int)).toNat = c.extract 0 (min k ((c.size : Nat) : Int)).toNat ∧ y.size = max (min k ((c.size : Nat) : Int)).toNat (nowOf d2.fs s).size) ∧ (c = nowOf d2.fs s → y = c) := by
  have e1 : safeG d5.fs s = nowG d2.fs s := by
    rw [← hN5 s]
    unfold safeG nowG
    cases e : fget d5.fs s with
    | none => rfl
    | some x => exact hA5 s x e
  obtain ⟨y, h1, h2, h3⟩ := kept_ok hk c (safeG d5.fs s)
  refine ⟨y, ?_, ?_, ?_⟩
  · show fget (startFs k d6.fs) s = _
    rw [nowG_start hn, h6 s, hs]
    simp [h1]
  · intro hne
    have := h2 (by rw [e1]; exact hne)
    rw [e1] at this
    exact this
  · intro he
    exact h3 (by rw [e1]; exact he)
end Go.Proofs.YtodmnogoacghpaaDoor
