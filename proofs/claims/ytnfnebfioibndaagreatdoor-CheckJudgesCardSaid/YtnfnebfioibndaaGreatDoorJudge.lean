/- CheckJudges: what is judged, in plain lists. -/
import Derived.Test.YtnfnebfioibndaaGreatDoorWorkingW
namespace Go.Proofs.YtnfnebfioibndaaGreatDoor
open Go.RowKit
set_option maxRecDepth 10000

abbrev BareD := ByteArray × Int × ByteArray × ByteArray × List TermD
def oneK (bs : List BareD) (x : List TermD) : Bool := x.any fun t => bs.any (bareB t)
theorem oneK_congr {l1 l2 : List BareD} (h : ∀ b, b ∈ l1 ↔ b ∈ l2) : oneK l1 = oneK l2 := by
  funext x
  unfold oneK
  congr 1
  funext t
  rw [Bool.eq_iff_iff, List.any_eq_true, List.any_eq_true]
  exact ⟨fun ⟨b, h1, h2⟩ => ⟨b, (h b).1 h1, h2⟩, fun ⟨b, h1, h2⟩ => ⟨b, (h b).2 h1, h2⟩⟩
theorem oneO_K (os : List OffD) : oneO os = oneK (os.map OffD.bare) := oneO_bare os
theorem oneP_K (ps : List PackD) : oneP ps = oneK (ps.map PackD.bare) := oneP_bare ps

def nameB (k : KnownD) (nm : ByteArray) : Bool := k.pack.name.toList == nm.toList
/-- The others that work. -/
def othersB (ks : List KnownD) (nm : ByteArray) : List BareD := (ks.filter (fun k => worksV k.state && !nameB k nm)).map KnownD.bare
def codeU (p : PackD) (k : KnownD) : Int :=
  if nameB k p.name || decide (k.state ≤ 1) then 0
  else if p.against.any (fun t => packB t k.pack) || k.pack.against.any (fun t => packB t p) then 13
  else if worksV k.state && (p.breaks.any (fun t => packB t k.pack) || k.pack.breaks.any (fun t => packB t p)) then 10
  else 0
def firstU (p : PackD) : List KnownD → Int → Int × Int
  | [], _ => (0, -1)
  | k :: ks, i => if codeU p k = 0 then firstU p ks (i + 1) else (codeU p k, i)
def metU (ks : List KnownD) (p : PackD) : Int × Bool := metR (oneK (othersB ks p.name)) p.ahead
def judgeU (ks : List KnownD) (p : PackD) : Int × Int :=
  if ks.any (fun k => nameB k p.name && k.held) then (6, -1)
  else if (metU ks p).2 then firstU p ks 0 else (7, (metU ks p).1)

def mayK (k : KnownD) : Bool := nextE k.state 3 == 0
/-- Those that work, and those that are about to, of some numbers. -/
def allB (ks : List KnownD) (ws : List Int) : List BareD := (ks.filter (fun k => worksV k.state)).map KnownD.bare ++ (ws.filter (fun (i : Int) => decide (0 ≤ i ∧ i < (ks.length : Int)) && mayK (ks.getD i.toNat KnownD.none))).map (fun (i : Int) => (ks.getD i.toNat KnownD.none).bare)
def metC (ks : List KnownD) (k : KnownD) (ws : List Int) : Int × Bool := metR (oneK (allB ks ws)) k.pack.depends
def judgeC (ks : List KnownD) (which : Int) (ws : List Int) : Int × Int :=
  if which < 0 ∨ (ks.length : Int) ≤ which then (2, -1)
  else if mayK (ks.getD which.toNat KnownD.none) then (if (metC ks (ks.getD which.toNat KnownD.none) ws).2 then (0, -1) else (7, (metC ks (ks.getD which.toNat KnownD.none) ws).1))
  else (6, -1)

theorem firstU_step {p : PackD} {ks : List KnownD} {i : Nat} (h : i < ks.length) (hc : codeU p (ks.getD i KnownD.none) = 0) : firstU p (ks.drop i) i = firstU p (ks.drop (i + 1)) ((i + 1 : Nat) : Int) := by
  rw [List.drop_eq_getElem_cons h, firstU]
  have e : ks.getD i KnownD.none = ks[i] := by simp [List.getD, List.getElem?_eq_getElem h]
  rw [e] at hc
  rw [if_pos hc]
  rfl
theorem firstU_at {p : PackD} {ks : List KnownD} {i : Nat} (h : i < ks.length) (hc : codeU p (ks.getD i KnownD.none) ≠ 0) : firstU p (ks.drop i) i = (codeU p (ks.getD i KnownD.none), (i : Int)) := by
  rw [List.drop_eq_getElem_cons h, firstU]
  have e : ks.getD i KnownD.none = ks[i] := by simp [List.getD, List.getElem?_eq_getElem h]
  rw [e] at hc ⊢
  rw [if_neg hc]
theorem firstU_end {p : PackD} {ks : List KnownD} {i : Nat} (h : ks.length ≤ i) : firstU p (ks.drop i) i = (0, -1) := by
  rw [List.drop_eq_nil_of_le h, firstU]

theorem rangeF_no {α : Type} {p : Nat → Bool} {f : Nat → α} {i : Nat} (h : p i = false) : ((List.range (i + 1)).filter p).map f = ((List.range i).filter p).map f := by
  have : ([i] : List Nat).filter p = [] := by rw [List.filter_cons, h]; rfl
  rw [List.range_succ, List.filter_append, this, List.append_nil]
theorem rangeF_yes {α : Type} {p : Nat → Bool} {f : Nat → α} {i : Nat} (h : p i = true) : ((List.range (i + 1)).filter p).map f = ((List.range i).filter p).map f ++ [f i] := by
  have : ([i] : List Nat).filter p = [i] := by rw [List.filter_cons, h]; rfl
  rw [List.range_succ, List.filter_append, this, List.map_append]
  rfl
def sameL (ks : List KnownD) (nm : ByteArray) (n : Nat) : List Int := ((List.range n).filter (fun (j : Nat) => nameB (ks.getD j KnownD.none) nm)).map (fun (j : Nat) => (j : Int))
theorem sameL_no {ks : List KnownD} {nm : ByteArray} {i : Nat} (h : nameB (ks.getD i KnownD.none) nm = false) : sameL ks nm (i + 1) = sameL ks nm i := rangeF_no h
theorem sameL_yes {ks : List KnownD} {nm : ByteArray} {i : Nat} (h : nameB (ks.getD i KnownD.none) nm = true) : sameL ks nm (i + 1) = sameL ks nm i ++ [(i : Int)] := rangeF_yes h
theorem sameL_any {ks : List KnownD} {nm : ByteArray} {n i : Nat} (h : i < n) : (sameL ks nm n).any (· == (i : Int)) = nameB (ks.getD i KnownD.none) nm := by
  unfold sameL
  rw [List.any_map, Bool.eq_iff_iff, List.any_eq_true]
  constructor
  · rintro ⟨j, hj, he⟩
    have : j = i := by simp only [Function.comp, beq_iff_eq] at he; omega
    subst this
    exact (List.mem_filter.1 hj).2
  · intro h'
    exact ⟨i, List.mem_filter.2 ⟨List.mem_range.2 h, h'⟩, by simp⟩
theorem mem_pairs {ks : List KnownD} {f : KnownD → Bool} {g : Nat → Bool} (h : ∀ i, i < ks.length → g i = f (ks.getD i KnownD.none)) (b : BareD) :
    b ∈ (((List.range ks.length).filter g).map (fun i => (ks.getD i KnownD.none).pack)).map PackD.bare ↔ b ∈ (ks.filter f).map KnownD.bare := by
  simp only [List.mem_map, List.mem_filter, List.mem_range]
  constructor
  · rintro ⟨q, ⟨i, ⟨hi, hg⟩, rfl⟩, rfl⟩
    exact ⟨ks.getD i KnownD.none, ⟨mem_getD _ hi, by rw [← h i hi]; exact hg⟩, rfl⟩
  · rintro ⟨k, ⟨hk, hf⟩, rfl⟩
    obtain ⟨i, hi, rfl⟩ := List.getElem_of_mem hk
    have e : ks.getD i KnownD.none = ks[i] := by simp [List.getD, List.getElem?_eq_getElem hi]
    exact ⟨ks[i].pack, ⟨i, ⟨hi, by rw [h i hi, e]; exact hf⟩, by rw [e]⟩, rfl⟩
/-- What the document's working leaves is what the program's offers leave. -/
theorem others_eq (ks : List KnownD) (nm : ByteArray) : oneP (picksW ks (sameL ks nm ks.length) ks.length) = oneK (othersB ks nm) := by
  rw [oneP_K]
  refine oneK_congr fun b => ?_
  unfold picksW othersB
  refine mem_pairs (fun i hi => ?_) b
  unfold keepsW
  rw [sameL_any hi]

/-- The document's offers of Configure. -/
def allP (ks : List KnownD) (ws : List Int) (n : Nat) : List PackD := picksW ks [] ks.length ++ ((List.range n).filter (fun (i : Nat) => ws.any (· == (i : Int)) && mayK (ks.getD i KnownD.none))).map (fun i => (ks.getD i KnownD.none).pack)
theorem allP_no {ks : List KnownD} {ws : List Int} {i : Nat} (h : (ws.any (· == (i : Int)) && mayK (ks.getD i KnownD.none)) = false) : allP ks ws (i + 1) = allP ks ws i := by
  unfold allP
  rw [rangeF_no h]
theorem allP_yes {ks : List KnownD} {ws : List Int} {i : Nat} (h : (ws.any (· == (i : Int)) && mayK (ks.getD i KnownD.none)) = true) : allP ks ws (i + 1) = allP ks ws i ++ [(ks.getD i KnownD.none).pack] := by
  unfold allP
  rw [rangeF_yes h, List.append_assoc]
theorem all_eq (ks : List KnownD) (ws : List Int) : oneP (allP ks ws ks.length) = oneK (allB ks ws) := by
  rw [oneP_K]
  refine oneK_congr fun b => ?_
  unfold allP allB picksW
  rw [List.map_append, List.mem_append, List.mem_append]
  refine or_congr (mem_pairs (fun i hi => ?_) b) ?_
  · simp [keepsW]
  · simp only [List.mem_map, List.mem_filter, List.mem_range, Bool.and_eq_true, List.any_eq_true, decide_eq_true_eq]
    constructor
    · rintro ⟨q, ⟨i, ⟨hi, ⟨x, hx, he⟩, hm⟩, rfl⟩, rfl⟩
      have : x = (i : Int) := by simpa using he
      subst this
      exact ⟨(i : Int), ⟨hx, ⟨by omega, by omega⟩, by simpa using hm⟩, by simp [KnownD.bare]⟩
    · rintro ⟨x, ⟨hx, ⟨h0, h1⟩, hm⟩, rfl⟩
      exact ⟨_, ⟨x.toNat, ⟨by omega, ⟨x, hx, by simp; omega⟩, hm⟩, rfl⟩, rfl⟩

/-- What known leaves out. -/
def KnownD.strip (k : KnownD) : KnownD := { k with waits := [], tasks := [] }
theorem strip_at (ks : List KnownD) (i : Nat) : (ks.map KnownD.strip).getD i KnownD.none = (ks.getD i KnownD.none).strip := by
  rcases Nat.lt_or_ge i ks.length with h | h
  · simp [List.getD, List.getElem?_eq_getElem h]
  · simp [List.getD, List.getElem?_eq_none h]
    rfl
theorem firstU_strip (p : PackD) (ks : List KnownD) (i : Int) : firstU p (ks.map KnownD.strip) i = firstU p ks i := by
  induction ks generalizing i with
  | nil => rfl
  | cons k ks ih =>
    show (if codeU p k = 0 then firstU p (ks.map KnownD.strip) (i + 1) else (codeU p k, i)) = _
    rw [ih]
    rfl
theorem filter_strip (ks : List KnownD) (f : KnownD → Bool) (hf : ∀ k, f k.strip = f k) : ((ks.map KnownD.strip).filter f).map KnownD.bare = (ks.filter f).map KnownD.bare := by
  rw [List.filter_map, List.map_map, show f ∘ KnownD.strip = f from funext hf]
  rfl
theorem judgeU_strip (ks : List KnownD) (p : PackD) : judgeU (ks.map KnownD.strip) p = judgeU ks p := by
  have e : othersB (ks.map KnownD.strip) p.name = othersB ks p.name := filter_strip ks _ (fun _ => rfl)
  unfold judgeU metU
  rw [e, firstU_strip, List.any_map]
  rfl
theorem judgeC_strip (ks : List KnownD) (which : Int) (ws : List Int) : judgeC (ks.map KnownD.strip) which ws = judgeC ks which ws := by
  have e : allB (ks.map KnownD.strip) ws = allB ks ws := by
    unfold allB
    rw [filter_strip ks _ (fun _ => rfl), List.length_map]
    simp only [strip_at]
    rfl
  unfold judgeC metC
  rw [e, List.length_map, strip_at]
  rfl
end Go.Proofs.YtnfnebfioibndaaGreatDoor
