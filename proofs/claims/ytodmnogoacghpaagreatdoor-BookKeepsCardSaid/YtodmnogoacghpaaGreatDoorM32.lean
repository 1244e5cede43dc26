/- The law's line: what a line may be. · Lemmas for the law of DiskPlays. -/
import Derived.Test.YtodmnogoacghpaaGreatDoorM31
import Derived.Test.YtodmnogoacghpaaGreatDoorM20
import Derived.Test.YtodmnogoacghpaaGreatDoorM18
import Derived.Test.YtodmnogoacghpaaGreatDoorM22
namespace Go.Proofs.YtodmnogoacghpaaGreatDoor
open Go.RowKit
set_option maxRecDepth 100000
set_option maxHeartbeats 4000000

def tlAt (s : ByteArray) (i : Nat) : Bool := (s.toList.getD i 0 == 9) || (s.toList.getD i 0 == 10)
theorem tl_take {l : List UInt8} {i : Nat} {b : UInt8} (h : l[i]? = some b) : hasTL (l.take (i + 1)) = (hasTL (l.take i) || (b == 9 || b == 10)) := by
  unfold hasTL
  obtain ⟨h1, h2⟩ := List.getElem?_eq_some_iff.1 h
  rw [List.take_succ_eq_append_getElem h1, List.any_append, h2]
  simp
theorem tl_more {l : List UInt8} (i : Nat) (h : hasTL (l.take i) = true) : hasTL l = true := by
  unfold hasTL at *
  rw [List.any_eq_true] at *
  obtain ⟨x, hx, h⟩ := h
  exact ⟨x, List.mem_of_mem_take hx, h⟩
theorem tl_app (a b : ByteArray) : hasTL (a ++ b).data.toList = (hasTL a.data.toList || hasTL b.data.toList) := by
  unfold hasTL
  rw [ByteArray.data_append, Array.toList_append, List.any_append]
theorem at_get (s : ByteArray) (i : Nat) (h : i < s.size) : s.data.toList[i]? = some (s[i]'h) := by
  have hj' : i < s.data.size := h
  rw [Array.getElem?_toList, Array.getElem?_eq_getElem hj']
  rfl
theorem line_calls (n v : ByteArray) (w : World) (hn : n.size ≤ 60) (hv : v.size ≤ 400) :
    Calls Tryz.prog 8 #[.string n, .string v] w fun e w' => e = .returned (.bool (rightB n v)) ∧ w = w' := by
  by_cases h1 : n.size < 1
  · have HR : Hid (rightB n v = false) := by
      show _ = _
      unfold rightB
      have : ¬ 1 ≤ n.size := by omega
      simp [this]
    have e1 : decide ((n.size : Int) < 1) = true := decide_eq_true (by omega)
    go_enter Tryz.func8, Tryz.ntmps8
    go_wp2_with fail
    go_ret
    rw [HR.out]
    exact ⟨rfl, rfl⟩
  by_cases h2 : 24 < n.size
  · have HR : Hid (rightB n v = false) := by
      show _ = _
      unfold rightB
      have : ¬ n.size ≤ 24 := by omega
      simp [this]
    have e1 : decide ((n.size : Int) < 1) = false := decide_eq_false (by omega)
    have e2 : decide ((24 : Int) < n.size) = true := decide_eq_true (by omega)
    go_enter Tryz.func8, Tryz.ntmps8
    go_wp2_with fail
    go_ret
    rw [HR.out]
    exact ⟨rfl, rfl⟩
  by_cases h3 : 300 < v.size
  · have HR : Hid (rightB n v = false) := by
      show _ = _
      unfold rightB
      have : ¬ v.size ≤ 300 := by omega
      simp [this]
    have e1 : decide ((n.size : Int) < 1) = false := decide_eq_false (by omega)
    have e2 : decide ((24 : Int) < n.size) = false := decide_eq_false (by omega)
    have e3 : decide ((300 : Int) < v.size) = true := decide_eq_true (by omega)
    go_enter Tryz.func8, Tryz.ntmps8
    go_wp2_with fail
    go_ret
    rw [HR.out]
    exact ⟨rfl, rfl⟩
  have e1 : decide ((n.size : Int) < 1) = false := decide_eq_false (by omega)
  have e2 : decide ((24 : Int) < n.size) = false := decide_eq_false (by omega)
  have e3 : decide ((300 : Int) < v.size) = false := decide_eq_false (by omega)
  have HR : Hid (rightB n v = !hasTL (n ++ v).data.toList) := by
    show _ = _
    unfold rightB
    have q1 : 1 ≤ n.size := by omega
    have q2 : n.size ≤ 24 := by omega
    have q3 : v.size ≤ 300 := by omega
    simp [q1, q2, q3]
  go_enter Tryz.func8, Tryz.ntmps8
  go_wp2_with fail
  go_loopg [5] n.size (fun k v5 wr => ∃ i : Nat, v5 = .int .i64 i ∧ i ≤ n.size ∧ k = n.size - i ∧ wr = w ∧ hasTL (n.data.toList.take i) = false)
  case atStart => exact ⟨0, rfl, Nat.zero_le _, rfl, rfl, rfl⟩
  case round =>
    obtain ⟨i, rfl, hi, hk, hw, htl⟩ := hrel
    obtain rfl : w = wr := hw.symm
    have Hk := Lib.hid hk
    have Htl := Lib.hid htl
    clear hk htl
    by_cases hlt : i < n.size
    · have Hget := Lib.hid (tl_take (at_get n i hlt))
      by_cases x9 : (n[i]'hlt) = 9
      case' pos =>
        have HF : Hid (hasTL n.data.toList = true) := by
          show _ = _
          refine tl_more (i + 1) ?_
          rw [Hget.out, x9]
          simp
        have q : ((n[i].toNat : Nat) : Int) = 9 := by rw [x9]; rfl
        clear Hget
        go_wp2_with fail
        go_ret
        rw [HR.out, tl_app, HF.out, Bool.true_or]
        exact ⟨rfl, rfl⟩
      by_cases x10 : (n[i]'hlt) = 10
      case' pos =>
        have HF : Hid (hasTL n.data.toList = true) := by
          show _ = _
          refine tl_more (i + 1) ?_
          rw [Hget.out, x10]
          simp
        have q : ((n[i].toNat : Nat) : Int) = 10 := by rw [x10]; rfl
        clear Hget
        go_wp2_with fail
        go_ret
        rw [HR.out, tl_app, HF.out, Bool.true_or]
        exact ⟨rfl, rfl⟩
      have HN : Hid (hasTL (n.data.toList.take (i + 1)) = false) := by
        show _ = _
        rw [Hget.out, Htl.out]
        simp [x9, x10]
      have z9 : ¬ (n[i].toNat = 9) := fun h => x9 (UInt8.toNat_inj.1 h)
      have z10 : ¬ (n[i].toNat = 10) := fun h => x10 (UInt8.toNat_inj.1 h)
      have q9 : (((n[i].toNat : Nat) : Int) == 9) = false := by
        rw [beq_eq_false_iff_ne]
        omega
      have q10 : (((n[i].toNat : Nat) : Int) == 10) = false := by
        rw [beq_eq_false_iff_ne]
        omega
      clear Hget
      go_wp2_with fail
      go_roundg (n.size - (i + 1))
      case rel => exact ⟨i + 1, by go_num, by omega, rfl, rfl, HN.out⟩
      case measure => have := Hk.out; omega
    · obtain rfl : i = n.size := by omega
      have HA : Hid (hasTL n.data.toList = false) := by
        show _ = _
        have h := Htl.out
        have e : n.data.toList.take n.size = n.data.toList := List.take_length
        rw [e] at h
        exact h
      clear Htl
      have HA0 := Lib.hid HA.out
      clear HA
      go_wp2_with fail
      clear Hk hi
      go_loopg [6] v.size (fun k v5 wr => ∃ i : Nat, v5 = .int .i64 i ∧ i ≤ v.size ∧ k = v.size - i ∧ wr = w ∧ hasTL (v.data.toList.take i) = false)
      case atStart => exact ⟨0, rfl, Nat.zero_le _, rfl, rfl, rfl⟩
      case round =>
        obtain ⟨i, rfl, hi, hk, hw, htl⟩ := hrel
        obtain rfl : w = wr := hw.symm
        have Hk := Lib.hid hk
        have Htl := Lib.hid htl
        clear hk htl
        by_cases hlt : i < v.size
        · have Hget := Lib.hid (tl_take (at_get v i hlt))
          by_cases x9 : (v[i]'hlt) = 9
          case' pos =>
            have HF : Hid (hasTL v.data.toList = true) := by
              show _ = _
              refine tl_more (i + 1) ?_
              rw [Hget.out, x9]
              simp
            have q : ((v[i].toNat : Nat) : Int) = 9 := by rw [x9]; rfl
            clear Hget
            go_wp2_with fail
            go_ret
            rw [HR.out, tl_app, HF.out, Bool.or_true]
            exact ⟨rfl, rfl⟩
          by_cases x10 : (v[i]'hlt) = 10
          case' pos =>
            have HF : Hid (hasTL v.data.toList = true) := by
              show _ = _
              refine tl_more (i + 1) ?_
              rw [Hget.out, x10]
              simp
            have q : ((v[i].toNat : Nat) : Int) = 10 := by rw [x10]; rfl
            clear Hget
            go_wp2_with fail
            go_ret
            rw [HR.out, tl_app, HF.out, Bool.or_true]
            exact ⟨rfl, rfl⟩
          have HN : Hid (hasTL (v.data.toList.take (i + 1)) = false) := by
            show _ = _
            rw [Hget.out, Htl.out]
            simp [x9, x10]
          have z9 : ¬ (v[i].toNat = 9) := fun h => x9 (UInt8.toNat_inj.1 h)
          have z10 : ¬ (v[i].toNat = 10) := fun h => x10 (UInt8.toNat_inj.1 h)
          have q9 : (((v[i].toNat : Nat) : Int) == 9) = false := by
            rw [beq_eq_false_iff_ne]
            omega
          have q10 : (((v[i].toNat : Nat) : Int) == 10) = false := by
            rw [beq_eq_false_iff_ne]
            omega
          clear Hget
          go_wp2_with fail
          go_roundg (v.size - (i + 1))
          case rel => exact ⟨i + 1, by go_num, by omega, rfl, rfl, HN.out⟩
          case measure => have := Hk.out; omega
        · obtain rfl : i = v.size := by omega
          have HA : Hid (hasTL v.data.toList = false) := by
            show _ = _
            have h := Htl.out
            have e : v.data.toList.take v.size = v.data.toList := List.take_length
            rw [e] at h
            exact h
          clear Htl
          go_wp2_with fail
          go_ret
          rw [HR.out, tl_app, HA0.out, HA.out]
          exact ⟨rfl, rfl⟩
end Go.Proofs.YtodmnogoacghpaaGreatDoor
namespace Go.Proofs.YtodmnogoacghpaaGreatDoor
open Go.RowKit
set_option maxRecDepth 100000
set_option maxHeartbeats 4000000

abbrev ActD := (Int × Int) × (ByteArray × ByteArray)
def actCell (x : ActD) : Nat → Value
  | 0 => .int .i64 x.1.1
  | 1 => .int .i64 x.1.2
  | 2 => .string x.2.1
  | _ => .string x.2.2
def noAct : ActD := ((0, 0), (⟨#[]⟩, ⟨#[]⟩))
def InI (n : Int) : Prop := -9223372036854775808 ≤ n ∧ n ≤ 9223372036854775807
def ActOk (x : ActD) : Prop := InI x.1.1 ∧ InI x.1.2 ∧ x.2.1.size ≤ maxLen ∧ x.2.2.size ≤ maxLen
def Acts (w : World) (v : Value) (l : List ActD) : Prop := Sl w v l.length 4 (fun i j => actCell (l.getD i noAct) j) ∧ ∀ x ∈ l, ActOk x
theorem noAct_ok : ActOk noAct := ⟨⟨by decide, by decide⟩, ⟨by decide, by decide⟩, Nat.zero_le _, Nat.zero_le _⟩
theorem Acts.get {l : List ActD} (h : ∀ x ∈ l, ActOk x) (i : Nat) : ActOk (l.getD i noAct) := by
  rcases Nat.lt_or_ge i l.length with h' | h'
  · rw [List.getD_eq_getElem?_getD, List.getElem?_eq_getElem h']
    exact h _ (List.getElem_mem h')
  · rw [List.getD_eq_getElem?_getD, List.getElem?_eq_none h']
    exact noAct_ok

section
variable {w w' : World} {B : Nat} {X : List Nat} {a ar : Nat} {dp dr : DiskD}
theorem Two.push (h : Two w B X a ar dp dr) (o : Obj) : Two (w.alloc o) B (w.heap.size :: X) a ar dp dr := by
  obtain ⟨F, bf, G, hP, hR, h1, h2, h3, h4⟩ := h
  have hb : Below w.heap.size w (w.alloc o) := (Below.refl _ _).alloc (Nat.le_refl _) _
  refine ⟨F, bf, G, hP.keep (fun k hk => hb.block k (hP.lt k hk)), hR.below hb, h1, h2, h3, fun k hk => ?_⟩
  rcases List.mem_cons.1 hk with rfl | hk
  · exact ⟨by simp, fun hk' => absurd (hP.lt _ hk') (Nat.lt_irrefl _), fun e => absurd hR.alt (by omega), fun e => absurd hR.blt (by omega)⟩
  · exact ⟨Nat.lt_of_lt_of_le (h4 k hk).1 hb.size, (h4 k hk).2⟩
theorem Two.less (h : Two w B X a ar dp dr) : Two w B [] a ar dp dr := by
  obtain ⟨F, bf, G, hP, hR, h1, h2, h3, h4⟩ := h
  exact ⟨F, bf, G, hP, hR, h1, h2, h3, fun k hk => by cases hk⟩
theorem RDisk.setL {bf : Nat} {G : List Nat} (h : RDisk w ar bf G dr) (n : Int) : RStep w ar bf G (cutD dr n) (w.setCell ⟨ar, 1, none⟩ (.int .i64 (max n (-1)))) := by
  have hk : ∀ k, k ≠ ar → (w.setCell ⟨ar, 1, none⟩ (.int .i64 (max n (-1)))).heap[k]? = w.heap[k]? := fun k hk => heapSet_ne w ar 1 _ hk
  have hz : (w.setCell ⟨ar, 1, none⟩ (.int .i64 (max n (-1)))).heap.size = w.heap.size := by simp [World.setCell]
  refine ⟨bf, G, ⟨?_, h.ne, fun k hk => by rw [hz]; exact h.lt k hk, ?_⟩, Or.inl rfl, fun k hk => Or.inl hk, (Turn.refl [ar, bf] w).setCell (Or.inl (by simp)) _⟩
  · rw [heapSet_same w ar 1 _ h.blk]
    rfl
  · obtain ⟨m, hm, hR⟩ := h.map
    exact ⟨m, hm.keep (hk bf h.ne), hR.keep fun k hk' => hk k (h.lt k hk').2.1⟩
theorem RDisk.setM {bf : Nat} {G : List Nat} (h : RDisk w ar bf G dr) (n : Int) : RStep w ar bf G (roomD dr n) (w.setCell ⟨ar, 2, none⟩ (.int .i64 (max n (-1)))) := by
  have hk : ∀ k, k ≠ ar → (w.setCell ⟨ar, 2, none⟩ (.int .i64 (max n (-1)))).heap[k]? = w.heap[k]? := fun k hk => heapSet_ne w ar 2 _ hk
  have hz : (w.setCell ⟨ar, 2, none⟩ (.int .i64 (max n (-1)))).heap.size = w.heap.size := by simp [World.setCell]
  refine ⟨bf, G, ⟨?_, h.ne, fun k hk => by rw [hz]; exact h.lt k hk, ?_⟩, Or.inl rfl, fun k hk => Or.inl hk, (Turn.refl [ar, bf] w).setCell (Or.inl (by simp)) _⟩
  · rw [heapSet_same w ar 2 _ h.blk]
    rfl
  · obtain ⟨m, hm, hR⟩ := h.map
    exact ⟨m, hm.keep (hk bf h.ne), hR.keep fun k hk' => hk k (h.lt k hk').2.1⟩
theorem Two.setL (hB : B ≤ w.heap.size) (h : Two w B X a ar dp dr) (n : Int) : Two (w.setCell ⟨ar, 1, none⟩ (.int .i64 (max n (-1)))) B X a ar dp (cutD dr n) ∧ KeptX B X w (w.setCell ⟨ar, 1, none⟩ (.int .i64 (max n (-1)))) := by
  obtain ⟨F, bf, G, hP, hR, h1, h2, h3, h4⟩ := h
  exact Two.stepR hB hP hR h1 h2 h3 h4 (hR.setL n)
theorem Two.setM (hB : B ≤ w.heap.size) (h : Two w B X a ar dp dr) (n : Int) : Two (w.setCell ⟨ar, 2, none⟩ (.int .i64 (max n (-1)))) B X a ar dp (roomD dr n) ∧ KeptX B X w (w.setCell ⟨ar, 2, none⟩ (.int .i64 (max n (-1)))) := by
  obtain ⟨F, bf, G, hP, hR, h1, h2, h3, h4⟩ := h
  exact Two.stepR hB hP hR h1 h2 h3 h4 (hR.setM n)
theorem Two.cellL (h : Two w B X a ar dp dr) : ∃ bf, w.cell? ⟨ar, 0, none⟩ = some (.map (some bf)) ∧ w.cell? ⟨ar, 1, none⟩ = some (.int .i64 dr.left) ∧ ar < w.heap.size ∧ w.frozen? ⟨ar, 1, none⟩ = false ∧ w.frozen? ⟨ar, 2, none⟩ = false := by
  obtain ⟨F, bf, G, hP, hR, h1, h2, h3, h4⟩ := h
  exact ⟨bf, hR.cells.1, hR.cells.2.1, hR.alt, hR.free 1, hR.free 2⟩
theorem Two.cellM (h : Two w B X a ar dp dr) : w.cell? ⟨ar, 2, none⟩ = some (.int .i64 dr.bytes) := by
  obtain ⟨F, bf, G, hP, hR, h1, h2, h3, h4⟩ := h
  exact hR.cells.2.2
theorem two_on (h : Two w B X a ar dp dr) : Calls Tryz.prog 63 #[.pointer (some ⟨a, 0, none⟩)] w fun e w' => e = .returned (.bool (onB dp)) ∧ w = w' := by
  obtain ⟨F, bf, G, hP, hR, h1, h2, h3, h4⟩ := h
  exact on_calls w a F dp hP
theorem two_names {C M : Nat} (h : Two w B X a ar dp dr) (hg : GoodD C M dr) (hC : C ≤ 1000000) : Calls Tryz.prog 17 #[.pointer (some ⟨ar, 0, none⟩)] w fun e w' => ∃ v, e = .returned v ∧ Strs w' v (sortB (dr.fs.map (·.1))) ∧ Below w.heap.size w w' := by
  obtain ⟨F, bf, G, hP, hR, h1, h2, h3, h4⟩ := h
  exact names_calls w ar bf G dr hR hg.nodup (Nat.le_trans hg.len hC)
theorem names_some {fs : FS} {j : Nat} {z : ByteArray} (h : j < (sortB (fs.map (·.1))).length) (hz : (sortB (fs.map (·.1))).getD j ⟨#[]⟩ = z) : ∃ x, fget fs z = some x := by
  have hm : z ∈ fs.map (·.1) := by
    rw [← sortB_mem, ← hz, List.getD_eq_getElem?_getD, List.getElem?_eq_getElem h]
    exact List.getElem_mem h
  cases e : fget fs z with
  | some x => exact ⟨x, rfl⟩
  | none => exact absurd hm (fget_none.1 e)
theorem two_read {x : FileD} {f : ByteArray} (h : Two w B X a ar dp dr) (hx : fget dp.fs f = some x) (hf : f.size ≤ maxLen) : Calls Tryz.prog 24 #[.pointer (some ⟨a, 0, none⟩), .string f] w fun e w' => e = .returned (.tuple #[.string x.now, .nilIface]) ∧ w = w' := by
  obtain ⟨F, bf, G, hP, hR, h1, h2, h3, h4⟩ := h
  refine (read_calls w a F dp f hP hf).mono ?_
  rintro e w' ⟨rfl, rfl⟩
  rw [hx]
  exact ⟨rfl, rfl⟩
theorem two_readN {f : ByteArray} (h : Two w B X a ar dp dr) (hx : fget dp.fs f = none) (hf : f.size ≤ maxLen) : Calls Tryz.prog 24 #[.pointer (some ⟨a, 0, none⟩), .string f] w fun e w' => e = .returned (.tuple #[.string ⟨#[]⟩, errV 7]) ∧ w = w' := by
  obtain ⟨F, bf, G, hP, hR, h1, h2, h3, h4⟩ := h
  refine (read_calls w a F dp f hP hf).mono ?_
  rintro e w' ⟨rfl, rfl⟩
  rw [hx]
  exact ⟨rfl, rfl⟩
theorem two_look {x : FileD} {f : ByteArray} (h : Two w B X a ar dp dr) (hx : fget dr.fs f = some x) (hf : f.size ≤ maxLen) : ∃ bf P, ∀ W, Below w.heap.size w W → W.cell? ⟨ar, 0, none⟩ = some (.map (some bf)) ∧ (Instr.lookup 48 (.map (some bf)) (.string f) false).run Tryz.prog W = .ok (.agg #[.string x.now, .pointer P]) W ∧ (Instr.lookup 48 (.map (some bf)) (.string f) true).run Tryz.prog W = .ok (.tuple #[.agg #[.string x.now, .pointer P], .bool true]) W := by
  obtain ⟨F, bf, G, hP, hR, h1, h2, h3, h4⟩ := h
  obtain ⟨m, hm, hRm⟩ := hR.map
  obtain ⟨pv, e1, e2⟩ := (hRm f).2 x hx
  obtain ⟨P, rfl⟩ := e2.ptr
  refine ⟨bf, P, fun W hb => ?_⟩
  have hR' := hR.below hb
  have hM' := hm.keep (hb.block bf hm.lt)
  have l1 := hM'.look Tryz.underlying9 Tryz.underlying48 (zeroState W) hf
  have l2 := hM'.look_ok Tryz.underlying9 Tryz.underlying48 (zeroState W) hf
  have hg : gotV m (.agg #[.string ⟨#[]⟩, .pointer none]) f = .agg #[.string x.now, .pointer P] := by unfold gotV; rw [e1]; rfl
  have hs : (m f).isSome = true := by rw [e1]; rfl
  rw [hg] at l1 l2
  rw [hs] at l2
  exact ⟨hR'.cells.1, l1, l2⟩
theorem two_lookN {f : ByteArray} (h : Two w B X a ar dp dr) (hx : fget dr.fs f = none) (hf : f.size ≤ maxLen) : ∃ bf, ∀ W, Below w.heap.size w W → W.cell? ⟨ar, 0, none⟩ = some (.map (some bf)) ∧ (Instr.lookup 48 (.map (some bf)) (.string f) true).run Tryz.prog W = .ok (.tuple #[.agg #[.string ⟨#[]⟩, .pointer none], .bool false]) W := by
  obtain ⟨F, bf, G, hP, hR, h1, h2, h3, h4⟩ := h
  obtain ⟨m, hm, hRm⟩ := hR.map
  have e1 := (hRm f).1 hx
  refine ⟨bf, fun W hb => ?_⟩
  have hR' := hR.below hb
  have hM' := hm.keep (hb.block bf hm.lt)
  have l2 := hM'.look_ok Tryz.underlying9 Tryz.underlying48 (zeroState W) hf
  have hg : gotV m (.agg #[.string ⟨#[]⟩, .pointer none]) f = .agg #[.string ⟨#[]⟩, .pointer none] := by unfold gotV; rw [e1]; rfl
  have hs : (m f).isSome = false := by rw [e1]; rfl
  rw [hg, hs] at l2
  exact ⟨hR'.cells.1, l2⟩
end

end Go.Proofs.YtodmnogoacghpaaGreatDoor
