/- Rings of a graph, in plain Lean: what a walk that numbers its nodes keeps. · Rings in order: which comes next, in plain Lean. · What can be come to, by a table, in plain Lean. -/
import Derived.Test.YtnfnebfioibndaaGreatDoorM01
namespace Go.Proofs.YtnfnebfioibndaaGreatDoor
set_option maxRecDepth 10000

inductive Rch (E : Nat → Nat → Prop) : Nat → Nat → Prop
  | refl (a : Nat) : Rch E a a
  | step {a b c : Nat} : Rch E a b → E b c → Rch E a c
theorem Rch.one {E : Nat → Nat → Prop} {a b : Nat} (h : E a b) : Rch E a b := .step (.refl a) h
theorem Rch.trans {E : Nat → Nat → Prop} {a b c : Nat} (h : Rch E a b) (h2 : Rch E b c) : Rch E a c := by
  induction h2 with
  | refl => exact h
  | step _ e ih => exact .step ih e
theorem Rch.front {E : Nat → Nat → Prop} {a b c : Nat} (e : E a b) (h : Rch E b c) : Rch E a c := (Rch.one e).trans h
/-- What an edge keeps, a way keeps. -/
theorem Rch.keeps {E : Nat → Nat → Prop} {P : Nat → Prop} (hP : ∀ a b, P a → E a b → P b) {a b : Nat} (h : Rch E a b) (ha : P a) : P b := by
  induction h with
  | refl => exact ha
  | step _ e ih => exact hP _ _ ih e

structure St where
  at_ : Nat → Nat
  low : Nat → Nat
  opn : List Nat
  cnt : Nat
  sets : List (List Nat)

def upd (f : Nat → Nat) (v x : Nat) : Nat → Nat := fun u => if u = v then x else f u
theorem upd_same (f : Nat → Nat) (v x : Nat) : upd f v x v = x := by simp [upd]
theorem upd_ne (f : Nat → Nat) {v u : Nat} (x : Nat) (h : u ≠ v) : upd f v x u = f u := by simp [upd, h]

/-- A ring: rising, not empty, and all that are come to both ways. -/
structure Ring (E : Nat → Nat → Prop) (S : List Nat) : Prop where
  ne : S ≠ []
  sorted : S.Pairwise (· < ·)
  mem : ∀ a ∈ S, ∀ b, b ∈ S ↔ (Rch E a b ∧ Rch E b a)

structure Scc (n : Nat) (E : Nat → Nat → Prop) (gray : List Nat) (s : St) : Prop where
  le : ∀ v, s.at_ v ≤ s.cnt
  dom : ∀ v, s.at_ v ≠ 0 → v < n
  inj : ∀ u v, s.at_ u = s.at_ v → s.at_ u ≠ 0 → u = v
  asc : s.opn.Pairwise (fun a b => s.at_ a < s.at_ b)
  seen : ∀ v ∈ s.opn, s.at_ v ≠ 0
  grays : ∀ g ∈ gray, g ∈ s.opn
  black : ∀ v, s.at_ v ≠ 0 → v ∉ gray → ∀ u, E v u → s.at_ u ≠ 0
  closed : ∀ v, s.at_ v ≠ 0 → v ∉ s.opn → ∀ u, E v u → s.at_ u ≠ 0 ∧ u ∉ s.opn
  up : ∀ g ∈ gray, ∀ u ∈ s.opn, s.at_ g ≤ s.at_ u → Rch E g u
  down : ∀ u ∈ s.opn, ∃ g ∈ gray, s.at_ g ≤ s.at_ u ∧ Rch E u g
  rings : ∀ S ∈ s.sets, Ring E S
  told : ∀ v, (s.at_ v ≠ 0 ∧ v ∉ s.opn) ↔ ∃ S ∈ s.sets, v ∈ S
  apart : s.sets.Pairwise (fun S T => ∀ a ∈ S, a ∉ T)

/-- What a later state keeps. -/
structure Later (s t : St) : Prop where
  at_ : ∀ u, s.at_ u ≠ 0 → t.at_ u = s.at_ u
  low : ∀ u, s.at_ u ≠ 0 → t.low u = s.low u
  new : ∀ u, s.at_ u = 0 → t.at_ u ≠ 0 → s.cnt < t.at_ u

theorem Later.refl (s : St) : Later s s := ⟨fun _ _ => rfl, fun _ _ => rfl, fun _ h h' => absurd h h'⟩

/-- In the midst of a visit of v, which began at s0 (v was not yet come to); done says of which of v's edges it is known. -/
structure MidV (n : Nat) (E : Nat → Nat → Prop) (G : List Nat) (s0 : St) (v : Nat) (done : List Nat) (seg : List Nat) (s : St) : Prop where
  inv : Scc n E (v :: G) s
  at_ : ∀ u, s0.at_ u ≠ 0 → s.at_ u = s0.at_ u
  low : ∀ u, s0.at_ u ≠ 0 → s.low u = s0.low u
  new : ∀ u, s0.at_ u = 0 → s.at_ u ≠ 0 → s0.cnt < s.at_ u
  fresh : s0.at_ v = 0
  num : s.at_ v = s0.cnt + 1
  opn : s.opn = s0.opn ++ v :: seg
  le : s.low v ≤ s.at_ v
  hit : ∃ z ∈ s.opn, s.at_ z = s.low v ∧ Rch E v z
  bound : ∀ y ∈ seg, ∀ z ∈ s0.opn, E y z → s.low v ≤ s0.at_ z
  edges : ∀ u ∈ done, s.at_ u ≠ 0 ∧ (u ∈ s0.opn → s.low v ≤ s0.at_ u)
  gray0 : ∀ g ∈ G, g ∈ s0.opn

/-- What a visit of v, that began at s, leaves. -/
structure Visited (n : Nat) (E : Nat → Nat → Prop) (G : List Nat) (s : St) (v : Nat) (seg : List Nat) (t : St) : Prop where
  inv : Scc n E G t
  at_ : ∀ u, s.at_ u ≠ 0 → t.at_ u = s.at_ u
  low : ∀ u, s.at_ u ≠ 0 → t.low u = s.low u
  new : ∀ u, s.at_ u = 0 → t.at_ u ≠ 0 → s.cnt < t.at_ u
  seen : t.at_ v ≠ 0
  opn : t.opn = s.opn ++ seg
  hit : (seg = [] ∧ t.low v = t.at_ v) ∨ (v ∈ seg ∧ ∃ z ∈ s.opn, s.at_ z = t.low v ∧ Rch E v z)
  bound : ∀ y ∈ seg, ∀ z ∈ s.opn, E y z → t.low v ≤ s.at_ z

theorem Scc.opn_ne {n E G s} (h : Scc n E G s) {v : Nat} (hv : s.at_ v = 0) : v ∉ s.opn := fun hm => h.seen v hm hv

theorem MidV.start {n : Nat} {E : Nat → Nat → Prop} {G : List Nat} {s : St} {v : Nat} (h : Scc n E G s) (hv : v < n) (h0 : s.at_ v = 0) (hG : ∀ g ∈ G, Rch E g v) :
    MidV n E G s v [] [] ⟨upd s.at_ v (s.cnt + 1), upd s.low v (s.cnt + 1), s.opn ++ [v], s.cnt + 1, s.sets⟩ := by
  have hvo : v ∉ s.opn := h.opn_ne h0
  have ne : ∀ u, s.at_ u ≠ 0 → u ≠ v := fun u hu e => hu (e ▸ h0)
  have eo : ∀ u ∈ s.opn, upd s.at_ v (s.cnt + 1) u = s.at_ u := fun u hu => upd_ne _ _ (ne u (h.seen u hu))
  have ea : ∀ u, s.at_ u ≠ 0 → upd s.at_ v (s.cnt + 1) u = s.at_ u := fun u hu => upd_ne _ _ (ne u hu)
  have ez : ∀ u, u ≠ v → upd s.at_ v (s.cnt + 1) u = s.at_ u := fun u hu => upd_ne _ _ hu
  refine ⟨⟨?_, ?_, ?_, ?_, ?_, ?_, ?_, ?_, ?_, ?_, h.rings, ?_, h.apart⟩, ea, fun u hu => upd_ne _ _ (ne u hu), ?_, h0, upd_same _ _ _, rfl, ?_, ?_, by simp, by simp, h.grays⟩
  · intro u
    show upd s.at_ v (s.cnt + 1) u ≤ s.cnt + 1
    by_cases e : u = v
    · rw [e, upd_same]; exact Nat.le_refl _
    · rw [ez u e]; have := h.le u; omega
  · intro u hu
    by_cases e : u = v
    · rw [e]; exact hv
    · exact h.dom u (by rw [← ez u e]; exact hu)
  · intro a b hab ha
    simp only at hab ha
    by_cases ea' : a = v
    · by_cases eb : b = v
      · rw [ea', eb]
      · rw [ea', upd_same, ez b eb] at hab
        have := h.le b; omega
    · by_cases eb : b = v
      · rw [eb, upd_same, ez a ea'] at hab
        have := h.le a; omega
      · rw [ez a ea', ez b eb] at hab
        rw [ez a ea'] at ha
        exact h.inj a b hab ha
  · show (s.opn ++ [v]).Pairwise _
    rw [List.pairwise_append]
    refine ⟨h.asc.imp_of_mem (fun {a b} ha hb hab => by simp only; rw [eo a ha, eo b hb]; exact hab), List.pairwise_singleton _ _, fun a ha b hb => ?_⟩
    rw [List.mem_singleton.1 hb]
    simp only
    rw [eo a ha, upd_same]
    have := h.le a; omega
  · intro u hu
    simp only
    rcases List.mem_append.1 hu with hm | hm
    · rw [eo u hm]; exact h.seen u hm
    · rw [List.mem_singleton.1 hm, upd_same]; omega
  · intro g hg
    show g ∈ s.opn ++ [v]
    rcases List.mem_cons.1 hg with rfl | hm
    · simp
    · exact List.mem_append_left _ (h.grays g hm)
  · intro a ha hna u he
    simp only at ha ⊢
    have hav : a ≠ v := fun e => hna (by rw [e]; exact List.mem_cons_self ..)
    rw [ez a hav] at ha
    have := h.black a ha (fun hm => hna (List.mem_cons_of_mem _ hm)) u he
    rw [ea u this]; exact this
  · intro a ha hna u he
    simp only at ha hna ⊢
    have hav : a ≠ v := fun e => hna (by rw [e]; simp)
    rw [ez a hav] at ha
    obtain ⟨h1, h2⟩ := h.closed a ha (fun hm => hna (List.mem_append_left _ hm)) u he
    rw [ea u h1]
    refine ⟨h1, fun hm => ?_⟩
    rcases List.mem_append.1 hm with hm | hm
    · exact h2 hm
    · exact ne u h1 (List.mem_singleton.1 hm)
  · intro g hg u hu hle
    simp only at hu hle
    rcases List.mem_cons.1 hg with rfl | hm
    · rcases List.mem_append.1 hu with hu | hu
      · rw [upd_same, eo u hu] at hle
        have := h.le u; omega
      · rw [List.mem_singleton.1 hu]; exact .refl _
    · rcases List.mem_append.1 hu with hu | hu
      · rw [eo g (h.grays g hm), eo u hu] at hle
        exact h.up g hm u hu hle
      · rw [List.mem_singleton.1 hu]; exact hG g hm
  · intro u hu
    simp only at hu ⊢
    rcases List.mem_append.1 hu with hu | hu
    · obtain ⟨g, hg, hle, hr⟩ := h.down u hu
      exact ⟨g, List.mem_cons_of_mem _ hg, by rw [eo g (h.grays g hg), eo u hu]; exact hle, hr⟩
    · rw [List.mem_singleton.1 hu]
      exact ⟨v, List.mem_cons_self .., Nat.le_refl _, .refl _⟩
  · intro u
    simp only
    rw [← h.told u]
    by_cases e : u = v
    · subst e
      constructor
      · rintro ⟨_, hm⟩; exact absurd (by simp) hm
      · rintro ⟨hm, _⟩; exact absurd h0 hm
    · rw [ez u e]
      constructor
      · rintro ⟨h1, h2⟩; exact ⟨h1, fun hm => h2 (List.mem_append_left _ hm)⟩
      · rintro ⟨h1, h2⟩
        refine ⟨h1, fun hm => ?_⟩
        rcases List.mem_append.1 hm with hm | hm
        · exact h2 hm
        · exact e (List.mem_singleton.1 hm)
  · intro u hu hu'
    simp only at hu' ⊢
    by_cases e : u = v
    · rw [e, upd_same]; omega
    · rw [ez u e] at hu'; exact absurd hu hu'
  · simp only [upd_same]; exact Nat.le_refl _
  · exact ⟨v, by simp, by simp only [upd_same], .refl _⟩

/-- One that was come to, and is not open any more. -/
theorem MidV.skip {n : Nat} {E : Nat → Nat → Prop} {G : List Nat} {s0 s : St} {v : Nat} {done seg : List Nat} (h : MidV n E G s0 v done seg s) {u : Nat} (h0 : s.at_ u ≠ 0) (ho : u ∉ s.opn) :
    MidV n E G s0 v (done ++ [u]) seg s := by
  refine { h with edges := fun x hx => ?_ }
  rcases List.mem_append.1 hx with hx | hx
  · exact h.edges x hx
  · rw [List.mem_singleton.1 hx]
    exact ⟨h0, fun hm => absurd (by rw [h.opn]; exact List.mem_append_left _ hm) ho⟩

/-- One that is open. -/
theorem MidV.back {n : Nat} {E : Nat → Nat → Prop} {G : List Nat} {s0 s : St} {v : Nat} {done seg : List Nat} (h : MidV n E G s0 v done seg s) {u : Nat} (ho : u ∈ s.opn) (he : E v u) :
    MidV n E G s0 v (done ++ [u]) seg ⟨s.at_, upd s.low v (min (s.low v) (s.at_ u)), s.opn, s.cnt, s.sets⟩ := by
  have hvne : ∀ x, s0.at_ x ≠ 0 → x ≠ v := fun x hx e => hx (e ▸ h.fresh)
  refine ⟨⟨h.inv.le, h.inv.dom, h.inv.inj, h.inv.asc, h.inv.seen, h.inv.grays, h.inv.black, h.inv.closed, h.inv.up, h.inv.down, h.inv.rings, h.inv.told, h.inv.apart⟩, h.at_, fun x hx => ?_, h.new, h.fresh, h.num, h.opn, ?_, ?_, ?_, ?_, h.gray0⟩
  · show upd s.low v _ x = _
    rw [upd_ne _ _ (hvne x hx)]; exact h.low x hx
  · show upd s.low v _ v ≤ _
    rw [upd_same]; exact Nat.le_trans (Nat.min_le_left _ _) h.le
  · simp only [upd_same]
    rcases Nat.le_total (s.low v) (s.at_ u) with hl | hl
    · rw [Nat.min_eq_left hl]; exact h.hit
    · rw [Nat.min_eq_right hl]; exact ⟨u, ho, rfl, .one he⟩
  · intro y hy z hz hyz
    simp only [upd_same]
    exact Nat.le_trans (Nat.min_le_left _ _) (h.bound y hy z hz hyz)
  · intro x hx
    simp only [upd_same]
    rcases List.mem_append.1 hx with hx | hx
    · obtain ⟨h1, h2⟩ := h.edges x hx
      exact ⟨h1, fun hm => Nat.le_trans (Nat.min_le_left _ _) (h2 hm)⟩
    · rw [List.mem_singleton.1 hx]
      refine ⟨h.inv.seen u ho, fun hm => ?_⟩
      rw [← h.at_ u (fun e => ?_)]
      · exact Nat.min_le_right _ _
      · have h1 := h.inv.seen u ho
        have h2 := h.new u e h1
        have hasc := h.inv.asc
        rw [h.opn, List.pairwise_append] at hasc
        have := hasc.2.2 u hm v (List.mem_cons_self ..)
        rw [h.num] at this
        omega

theorem MidV.before {n : Nat} {E : Nat → Nat → Prop} {G : List Nat} {s0 s : St} {v : Nat} {done seg : List Nat} (h : MidV n E G s0 v done seg s) {u : Nat} (hu : u ∈ s0.opn) : s.at_ u < s.at_ v := by
  have hasc := h.inv.asc
  rw [h.opn, List.pairwise_append] at hasc
  exact hasc.2.2 u hu v (List.mem_cons_self ..)
theorem MidV.behind {n : Nat} {E : Nat → Nat → Prop} {G : List Nat} {s0 s : St} {v : Nat} {done seg : List Nat} (h : MidV n E G s0 v done seg s) {u : Nat} (hu : u ∈ seg) : s.at_ v < s.at_ u := by
  have hasc := h.inv.asc
  rw [h.opn, List.pairwise_append, List.pairwise_cons] at hasc
  exact hasc.2.1.1 u hu
theorem MidV.behind' {n : Nat} {E : Nat → Nat → Prop} {G : List Nat} {s0 s : St} {v : Nat} {done seg : List Nat} (h : MidV n E G s0 v done seg s) {u : Nat} (hu : u ∈ v :: seg) : s.at_ v ≤ s.at_ u := by
  rcases List.mem_cons.1 hu with rfl | hu
  · exact Nat.le_refl _
  · exact Nat.le_of_lt (h.behind hu)
theorem MidV.seen0 {n : Nat} {E : Nat → Nat → Prop} {G : List Nat} {s0 s : St} {v : Nat} {done seg : List Nat} (h : MidV n E G s0 v done seg s) {u : Nat} (hu : u ∈ s0.opn) : s0.at_ u ≠ 0 := by
  intro e
  have h1 := h.inv.seen u (by rw [h.opn]; exact List.mem_append_left _ hu)
  have h2 := h.new u e h1
  have := h.before hu
  rw [h.num] at this
  omega
theorem MidV.old {n : Nat} {E : Nat → Nat → Prop} {G : List Nat} {s0 s : St} {v : Nat} {done seg : List Nat} (h : MidV n E G s0 v done seg s) {u : Nat} (hu : u ∈ s0.opn) : s.at_ u = s0.at_ u := h.at_ u (h.seen0 hu)

/-- One that was visited itself, in between. -/
theorem MidV.child {n : Nat} {E : Nat → Nat → Prop} {G : List Nat} {s0 s t : St} {v : Nat} {done seg sg : List Nat} (h : MidV n E G s0 v done seg s) {u : Nat} (h0 : s.at_ u = 0) (he : E v u) (hV : Visited n E (v :: G) s u sg t) :
    MidV n E G s0 v (done ++ [u]) (seg ++ sg) ⟨t.at_, upd t.low v (min (t.low v) (t.low u)), t.opn, t.cnt, t.sets⟩ := by
  have hvs : s.at_ v ≠ 0 := by rw [h.num]; omega
  have hvne : ∀ x, s0.at_ x ≠ 0 → x ≠ v := fun x hx e => hx (e ▸ h.fresh)
  have hlv : t.low v = s.low v := hV.low v hvs
  have hav : t.at_ v = s.at_ v := hV.at_ v hvs
  have hs0 : ∀ x, s0.at_ x ≠ 0 → s.at_ x ≠ 0 := fun x hx => by rw [h.at_ x hx]; exact hx
  refine ⟨⟨hV.inv.le, hV.inv.dom, hV.inv.inj, hV.inv.asc, hV.inv.seen, hV.inv.grays, hV.inv.black, hV.inv.closed, hV.inv.up, hV.inv.down, hV.inv.rings, hV.inv.told, hV.inv.apart⟩, fun x hx => ?_, fun x hx => ?_, fun x hx hx' => ?_, h.fresh, ?_, ?_, ?_, ?_, ?_, ?_, h.gray0⟩
  · exact (hV.at_ x (hs0 x hx)).trans (h.at_ x hx)
  · show upd t.low v _ x = _
    rw [upd_ne _ _ (hvne x hx)]
    exact (hV.low x (hs0 x hx)).trans (h.low x hx)
  · by_cases e : s.at_ x = 0
    · have h1 := hV.new x e hx'
      have h2 := h.inv.le v
      rw [h.num] at h2
      show s0.cnt < t.at_ x
      omega
    · show s0.cnt < t.at_ x
      rw [hV.at_ x e]
      exact h.new x hx e
  · show t.at_ v = _
    rw [hav]; exact h.num
  · show t.opn = _
    rw [hV.opn, h.opn, List.append_assoc, List.cons_append]
  · show upd t.low v _ v ≤ t.at_ v
    rw [upd_same, hlv, hav]
    exact Nat.le_trans (Nat.min_le_left _ _) h.le
  · simp only [upd_same]
    rcases Nat.le_total (t.low v) (t.low u) with hl | hl
    · rw [Nat.min_eq_left hl, hlv]
      obtain ⟨z, hz, e, hr⟩ := h.hit
      exact ⟨z, by rw [hV.opn]; exact List.mem_append_left _ hz, by rw [hV.at_ z (h.inv.seen z hz)]; exact e, hr⟩
    · rw [Nat.min_eq_right hl]
      rcases hV.hit with ⟨_, e⟩ | ⟨_, z, hz, e, hr⟩
      · have h1 := hV.new u h0 hV.seen
        have h2 := h.inv.le v
        have h3 := h.le
        omega
      · exact ⟨z, by rw [hV.opn]; exact List.mem_append_left _ hz, by rw [hV.at_ z (h.inv.seen z hz)]; exact e, Rch.front he hr⟩
  · intro y hy z hz hyz
    simp only [upd_same]
    rcases List.mem_append.1 hy with hy | hy
    · have := h.bound y hy z hz hyz
      omega
    · have := hV.bound y hy z (by rw [h.opn]; exact List.mem_append_left _ hz) hyz
      rw [h.old hz] at this
      omega
  · intro x hx
    simp only [upd_same]
    rcases List.mem_append.1 hx with hx | hx
    · obtain ⟨h1, h2⟩ := h.edges x hx
      refine ⟨by rw [hV.at_ x h1]; exact h1, fun hm => ?_⟩
      have := h2 hm
      omega
    · rw [List.mem_singleton.1 hx]
      exact ⟨hV.seen, fun hm => absurd h0 (hs0 u (h.seen0 hm))⟩

theorem MidV.black {n : Nat} {E : Nat → Nat → Prop} {G : List Nat} {s0 s : St} {v : Nat} {done seg : List Nat} (h : MidV n E G s0 v done seg s) (hall : ∀ u, E v u → u ∈ done) : ∀ a, s.at_ a ≠ 0 → a ∉ G → ∀ u, E a u → s.at_ u ≠ 0 := by
  intro a ha hna u he
  by_cases e : a = v
  · subst e
    exact (h.edges u (hall u he)).1
  · exact h.inv.black a ha (fun hm => by rcases List.mem_cons.1 hm with hm | hm; exact e hm; exact hna hm) u he

/-- All edges are gone; it leads to one that is older. -/
theorem MidV.leave {n : Nat} {E : Nat → Nat → Prop} {G : List Nat} {s0 s : St} {v : Nat} {done seg : List Nat} (h : MidV n E G s0 v done seg s) (hall : ∀ u, E v u → u ∈ done) (hlt : s.low v < s.at_ v) :
    Visited n E G s0 v (v :: seg) s := by
  obtain ⟨z, hz, ez, hrz⟩ := h.hit
  refine ⟨⟨h.inv.le, h.inv.dom, h.inv.inj, h.inv.asc, h.inv.seen, fun g hg => h.inv.grays g (List.mem_cons_of_mem _ hg), h.black hall, h.inv.closed, fun g hg => h.inv.up g (List.mem_cons_of_mem _ hg), ?_, h.inv.rings, h.inv.told, h.inv.apart⟩, h.at_, h.low, h.new, by rw [h.num]; omega, h.opn, Or.inr ⟨List.mem_cons_self .., z, ?_, ?_, hrz⟩, ?_⟩
  · intro u hu
    obtain ⟨g, hg, hle, hr⟩ := h.inv.down u hu
    rcases List.mem_cons.1 hg with rfl | hg
    · obtain ⟨g', hg', hle', hr'⟩ := h.inv.down z hz
      rcases List.mem_cons.1 hg' with rfl | hg'
      · omega
      · exact ⟨g', hg', by omega, hr.trans (hrz.trans hr')⟩
    · exact ⟨g, hg, hle, hr⟩
  · have hz' := hz
    rw [h.opn] at hz'
    rcases List.mem_append.1 hz' with hz' | hz'
    · exact hz'
    · have := h.behind' hz'; omega
  · have hz' := hz
    rw [h.opn] at hz'
    rcases List.mem_append.1 hz' with hz' | hz'
    · rw [← h.old hz']; exact ez
    · have := h.behind' hz'; omega
  · intro y hy z hz hyz
    rcases List.mem_cons.1 hy with rfl | hy
    · exact (h.edges z (hall z hyz)).2 hz
    · exact h.bound y hy z hz hyz

/-- All edges are gone; it leads to none that is older: what is open from it on is a ring. -/
theorem MidV.ring {n : Nat} {E : Nat → Nat → Prop} {G : List Nat} {s0 s : St} {v : Nat} {done seg S : List Nat} (h : MidV n E G s0 v done seg s) (hall : ∀ u, E v u → u ∈ done) (hge : s.at_ v ≤ s.low v) (hS : S.Pairwise (· < ·)) (hmem : ∀ x, x ∈ S ↔ x ∈ v :: seg) :
    Visited n E G s0 v [] ⟨s.at_, s.low, s0.opn, s.cnt, s.sets ++ [S]⟩ := by
  have hsub : ∀ x, x ∈ s0.opn → x ∈ s.opn := fun x hx => by rw [h.opn]; exact List.mem_append_left _ hx
  have hsub' : ∀ x, x ∈ v :: seg → x ∈ s.opn := fun x hx => by rw [h.opn]; exact List.mem_append_right _ hx
  have hnot : ∀ x, x ∈ v :: seg → x ∉ s0.opn := fun x hx hm => by have h1 := h.behind' hx; have h2 := h.before hm; omega
  have hsplit : ∀ x, x ∈ s.opn → x ∉ s0.opn → x ∈ v :: seg := fun x hx hn => by
    rw [h.opn] at hx
    rcases List.mem_append.1 hx with hx | hx
    · exact absurd hx hn
    · exact hx
  have hcl : ∀ a, s.at_ a ≠ 0 → a ∉ s0.opn → ∀ u, E a u → s.at_ u ≠ 0 ∧ u ∉ s0.opn := by
    intro a ha hna u he
    by_cases ho : a ∈ s.opn
    · have hm := hsplit a ho hna
      refine ⟨h.black hall a ha (fun hg => hna (h.gray0 a hg)) u he, fun hu => ?_⟩
      have hb : s.low v ≤ s0.at_ u := by
        rcases List.mem_cons.1 hm with rfl | hm
        · exact (h.edges u (hall u he)).2 hu
        · exact h.bound a hm u hu he
      have := h.before hu
      rw [h.old hu] at this
      omega
    · obtain ⟨h1, h2⟩ := h.inv.closed a ha ho u he
      exact ⟨h1, fun hu => h2 (hsub u hu)⟩
  have hto : ∀ y ∈ v :: seg, Rch E y v := by
    intro y hy
    obtain ⟨g, hg, hle, hr⟩ := h.inv.down y (hsub' y hy)
    rcases List.mem_cons.1 hg with rfl | hg
    · exact hr
    · have := hr.keeps (P := fun x => s.at_ x ≠ 0 ∧ x ∉ s0.opn) (fun a b ha he => hcl a ha.1 ha.2 b he) ⟨h.inv.seen y (hsub' y hy), hnot y hy⟩
      exact absurd (h.gray0 g hg) this.2
  have hfrom : ∀ y ∈ v :: seg, Rch E v y := fun y hy => h.inv.up v (List.mem_cons_self ..) y (hsub' y hy) (h.behind' hy)
  refine ⟨⟨h.inv.le, h.inv.dom, h.inv.inj, ?_, fun x hx => h.inv.seen x (hsub x hx), h.gray0, h.black hall, hcl, fun g hg u hu => h.inv.up g (List.mem_cons_of_mem _ hg) u (hsub u hu), ?_, ?_, ?_, ?_⟩, h.at_, h.low, h.new, ?_, (List.append_nil _).symm, Or.inl ⟨rfl, Nat.le_antisymm h.le hge⟩, by simp⟩
  · have := h.inv.asc
    rw [h.opn, List.pairwise_append] at this
    exact this.1
  · intro u hu
    obtain ⟨g, hg, hle, hr⟩ := h.inv.down u (hsub u hu)
    rcases List.mem_cons.1 hg with rfl | hg
    · have := h.before hu; omega
    · exact ⟨g, hg, hle, hr⟩
  · intro T hT
    rcases List.mem_append.1 hT with hT | hT
    · exact h.inv.rings T hT
    · rw [List.mem_singleton.1 hT]
      refine ⟨fun e => ?_, hS, fun a ha b => ⟨fun hb => ?_, fun ⟨hab, hba⟩ => ?_⟩⟩
      · have := (hmem v).2 (List.mem_cons_self ..)
        rw [e] at this
        cases this
      · have ha' := (hmem a).1 ha
        have hb' := (hmem b).1 hb
        exact ⟨(hto a ha').trans (hfrom b hb'), (hto b hb').trans (hfrom a ha')⟩
      · have ha' := (hmem a).1 ha
        have hP := hab.keeps (P := fun x => s.at_ x ≠ 0 ∧ x ∉ s0.opn) (fun a b ha he => hcl a ha.1 ha.2 b he) ⟨h.inv.seen a (hsub' a ha'), hnot a ha'⟩
        by_cases ho : b ∈ s.opn
        · exact (hmem b).2 (hsplit b ho hP.2)
        · have hQ := hba.keeps (P := fun x => s.at_ x ≠ 0 ∧ x ∉ s.opn) (fun a b ha he => h.inv.closed a ha.1 ha.2 b he) ⟨hP.1, ho⟩
          exact absurd (hsub' a ha') hQ.2
  · intro x
    simp only
    constructor
    · rintro ⟨h1, h2⟩
      by_cases ho : x ∈ s.opn
      · exact ⟨S, by simp, (hmem x).2 (hsplit x ho h2)⟩
      · obtain ⟨T, hT, hx⟩ := (h.inv.told x).1 ⟨h1, ho⟩
        exact ⟨T, List.mem_append_left _ hT, hx⟩
    · rintro ⟨T, hT, hx⟩
      rcases List.mem_append.1 hT with hT | hT
      · obtain ⟨h1, h2⟩ := (h.inv.told x).2 ⟨T, hT, hx⟩
        exact ⟨h1, fun hm => h2 (hsub x hm)⟩
      · rw [List.mem_singleton.1 hT] at hx
        have := (hmem x).1 hx
        exact ⟨h.inv.seen x (hsub' x this), hnot x this⟩
  · show (s.sets ++ [S]).Pairwise _
    rw [List.pairwise_append]
    refine ⟨h.inv.apart, List.pairwise_singleton _ _, fun T hT U hU a ha haU => ?_⟩
    rw [List.mem_singleton.1 hU] at haU
    have h1 := ((h.inv.told a).2 ⟨T, hT, ha⟩).2
    exact h1 (hsub' a ((hmem a).1 haU))
  · show s.at_ v ≠ 0
    rw [h.num]; omega
end Go.Proofs.YtnfnebfioibndaaGreatDoor
namespace Go.Proofs.YtnfnebfioibndaaGreatDoor
set_option maxRecDepth 10000

theorem Rch.ahead {E : Nat → Nat → Prop} {P : Nat → Prop} (hP : ∀ a b, E a b → P b → P a) {a b : Nat} (h : Rch E a b) (hb : P b) : P a := by
  induction h with
  | refl => exact hb
  | step _ e ih => exact ih (hP _ _ e hb)

theorem filter_le {α : Type} {p q : α → Bool} {l : List α} (h : ∀ x ∈ l, p x = true → q x = true) : (l.filter p).length ≤ (l.filter q).length := by
  induction l with
  | nil => exact Nat.le_refl _
  | cons a l ih =>
    have := ih (fun x hx => h x (List.mem_cons_of_mem _ hx))
    rw [List.filter_cons, List.filter_cons]
    cases hp : p a <;> cases hq : q a
    · simpa using this
    · simp; omega
    · rw [h a (List.mem_cons_self ..) hp] at hq; cases hq
    · simpa using this
theorem filter_lt {α : Type} {p q : α → Bool} {l : List α} (h : ∀ x ∈ l, p x = true → q x = true) {y : α} (hy : y ∈ l) (hq : q y = true) (hp : p y = false) : (l.filter p).length < (l.filter q).length := by
  induction l with
  | nil => cases hy
  | cons a l ih =>
    rw [List.filter_cons, List.filter_cons]
    rcases List.mem_cons.1 hy with rfl | hy
    · have := filter_le (fun x hx => h x (List.mem_cons_of_mem _ hx))
      rw [hq, hp]
      simp
      omega
    · have := ih (fun x hx => h x (List.mem_cons_of_mem _ hx)) hy
      cases hp : p a <;> cases hq : q a
      · simpa using this
      · simp; omega
      · rw [h a (List.mem_cons_self ..) hp] at hq; cases hq
      · simpa using this

def ToldIn (outs : List (List Nat)) (i : Nat) : Prop := ∃ S ∈ outs, i ∈ S
/-- Nobody untold comes ahead of it, but those of its own ring. -/
structure Free (E : Nat → Nat → Prop) (n : Nat) (outs : List (List Nat)) (i : Nat) : Prop where
  lt : i < n
  un : ¬ ToldIn outs i
  ahead : ∀ j, j < n → ¬ ToldIn outs j → Rch E j i → Rch E i j
/-- The ring that comes next. -/
structure Nxt (E : Nat → Nat → Prop) (n : Nat) (outs : List (List Nat)) (S : List Nat) : Prop where
  ring : Ring E S
  free : ∀ a ∈ S, Free E n outs a
  least : ∀ i, Free E n outs i → ∀ a, S.head? = some a → a ≤ i

theorem Ring.head {E : Nat → Nat → Prop} {S : List Nat} (h : Ring E S) : ∃ a, S.head? = some a ∧ a ∈ S ∧ ∀ b ∈ S, a ≤ b := by
  cases S with
  | nil => exact absurd rfl h.ne
  | cons a S =>
    refine ⟨a, rfl, List.mem_cons_self .., fun b hb => ?_⟩
    rcases List.mem_cons.1 hb with rfl | hb
    · exact Nat.le_refl _
    · exact Nat.le_of_lt ((List.pairwise_cons.1 h.sorted).1 b hb)
theorem sorted_ext {S T : List Nat} (hS : S.Pairwise (· < ·)) (hT : T.Pairwise (· < ·)) (h : ∀ x, x ∈ S ↔ x ∈ T) : S = T := by
  induction S generalizing T with
  | nil =>
    cases T with
    | nil => rfl
    | cons b T => exact absurd ((h b).2 (List.mem_cons_self ..)) (by simp)
  | cons a S ih =>
    cases T with
    | nil => exact absurd ((h a).1 (List.mem_cons_self ..)) (by simp)
    | cons b T =>
      rw [List.pairwise_cons] at hS hT
      have e : a = b := by
        have h1 := (h a).1 (List.mem_cons_self ..)
        have h2 := (h b).2 (List.mem_cons_self ..)
        rcases List.mem_cons.1 h1 with e | h1
        · exact e
        · rcases List.mem_cons.1 h2 with e | h2
          · exact e.symm
          · have := hS.1 b h2; have := hT.1 a h1; omega
      subst e
      congr 1
      refine ih hS.2 hT.2 fun x => ?_
      constructor
      · intro hx
        rcases List.mem_cons.1 ((h x).1 (List.mem_cons_of_mem _ hx)) with e | h'
        · have := hS.1 x hx; omega
        · exact h'
      · intro hx
        rcases List.mem_cons.1 ((h x).2 (List.mem_cons_of_mem _ hx)) with e | h'
        · have := hT.1 x hx; omega
        · exact h'
theorem Ring.eq {E : Nat → Nat → Prop} {S T : List Nat} (hS : Ring E S) (hT : Ring E T) {a : Nat} (h1 : a ∈ S) (h2 : a ∈ T) : S = T :=
  sorted_ext hS.sorted hT.sorted fun b => (hS.mem a h1 b).trans (hT.mem a h2 b).symm
theorem Nxt.eq {E : Nat → Nat → Prop} {n : Nat} {outs : List (List Nat)} {S T : List Nat} (h1 : Nxt E n outs S) (h2 : Nxt E n outs T) : S = T := by
  obtain ⟨a, ha, ha', _⟩ := h1.ring.head
  obtain ⟨b, hb, hb', _⟩ := h2.ring.head
  have e : a = b := Nat.le_antisymm (h1.least b (h2.free b hb') a ha) (h2.least a (h1.free a ha') b hb)
  subst e
  exact h1.ring.eq h2.ring ha' hb'

/-- Rings in order, so far. -/
def InOrder (E : Nat → Nat → Prop) (n : Nat) (outs : List (List Nat)) : Prop := ∀ k S, outs[k]? = some S → Nxt E n (outs.take k) S
def AllTold (n : Nat) (outs : List (List Nat)) : Prop := ∀ i, i < n → ToldIn outs i

theorem InOrder.nil (E : Nat → Nat → Prop) (n : Nat) : InOrder E n [] := fun k S h => by simp at h
theorem InOrder.snoc {E : Nat → Nat → Prop} {n : Nat} {outs : List (List Nat)} {S : List Nat} (h : InOrder E n outs) (hS : Nxt E n outs S) : InOrder E n (outs ++ [S]) := by
  intro k T hk
  rcases Nat.lt_or_ge k outs.length with hl | hl
  · rw [List.getElem?_append_left hl] at hk
    rw [List.take_append_of_le_length (by omega)]
    exact h k T hk
  · rw [List.getElem?_append_right hl] at hk
    rcases Nat.eq_zero_or_pos (k - outs.length) with e | e
    · rw [e] at hk
      have : T = S := by simpa using hk.symm
      rw [this, show k = outs.length by omega, List.take_left']
      · exact hS
      · rfl
    · rw [List.getElem?_eq_none (by simp; omega)] at hk
      cases hk
theorem told_snoc {outs : List (List Nat)} {S : List Nat} {i : Nat} : ToldIn (outs ++ [S]) i ↔ ToldIn outs i ∨ i ∈ S := by
  unfold ToldIn
  constructor
  · rintro ⟨T, hT, hi⟩
    rcases List.mem_append.1 hT with hT | hT
    · exact Or.inl ⟨T, hT, hi⟩
    · rw [List.mem_singleton.1 hT] at hi; exact Or.inr hi
  · rintro (⟨T, hT, hi⟩ | hi)
    · exact ⟨T, List.mem_append_left _ hT, hi⟩
    · exact ⟨S, by simp, hi⟩
theorem AllTold.no {E : Nat → Nat → Prop} {n : Nat} {outs : List (List Nat)} (h : AllTold n outs) {S : List Nat} (hS : Nxt E n outs S) : False := by
  obtain ⟨a, _, ha, _⟩ := hS.ring.head
  have := hS.free a ha
  exact this.un (h a this.lt)
/-- Two orders of all are one. -/
theorem InOrder.eq {E : Nat → Nat → Prop} {n : Nat} {l1 l2 : List (List Nat)} (h1 : InOrder E n l1) (h2 : InOrder E n l2) (a1 : AllTold n l1) (a2 : AllTold n l2) : l1 = l2 := by
  have key : ∀ k, l1.take k = l2.take k := by
    intro k
    induction k with
    | zero => rfl
    | succ k ih =>
      rw [List.take_add_one, List.take_add_one, ih]
      congr 1
      cases e1 : l1[k]? with
      | none =>
        cases e2 : l2[k]? with
        | none => rfl
        | some T =>
          have hN := h2 k T e2
          rw [← ih, List.take_of_length_le (List.getElem?_eq_none_iff.1 e1)] at hN
          exact (a1.no hN).elim
      | some S =>
        have hN := h1 k S e1
        cases e2 : l2[k]? with
        | none =>
          rw [ih, List.take_of_length_le (List.getElem?_eq_none_iff.1 e2)] at hN
          exact (a2.no hN).elim
        | some T =>
          have hM := h2 k T e2
          rw [ih] at hN
          rw [hN.eq hM]
  have := key (l1.length + l2.length)
  rwa [List.take_of_length_le (by omega), List.take_of_length_le (by omega)] at this

/-- What comes ahead of what is told is told. -/
theorem InOrder.pre {E : Nat → Nat → Prop} {n : Nat} {outs : List (List Nat)} (h : InOrder E n outs) (hE : ∀ a b, E a b → a < n) {a b : Nat} (he : E a b) (hb : ToldIn outs b) : ToldIn outs a := by
  obtain ⟨S, hS, hbS⟩ := hb
  obtain ⟨k, hk, rfl⟩ := List.getElem_of_mem hS
  have hN := h k outs[k] (List.getElem?_eq_getElem hk)
  have hF := hN.free b hbS
  by_cases ht : ToldIn (outs.take k) a
  · obtain ⟨T, hT, ha⟩ := ht
    exact ⟨T, List.mem_of_mem_take hT, ha⟩
  · have hr := hF.ahead a (hE a b he) ht (.one he)
    exact ⟨outs[k], hS, (hN.ring.mem b hbS a).2 ⟨hr, .one he⟩⟩

/-- There is one that comes next, while not all are told. -/
theorem free_exists {E : Nat → Nat → Prop} {n : Nat} {outs : List (List Nat)} {i : Nat} (hi : i < n) (hu : ¬ ToldIn outs i) : ∃ j, Free E n outs j := by
  classical
  obtain ⟨m, hm⟩ : ∃ m, ((List.range n).filter (fun j => decide (¬ ToldIn outs j ∧ Rch E j i))).length = m := ⟨_, rfl⟩
  induction m using Nat.strongRecOn generalizing i with
  | ind m ih =>
    by_cases hf : ∀ j, j < n → ¬ ToldIn outs j → Rch E j i → Rch E i j
    · exact ⟨i, hi, hu, hf⟩
    · have ⟨j, hj⟩ := Classical.not_forall.1 hf
      have ⟨hjn, hj⟩ := Classical.not_forall.1 hj
      have ⟨hju, hj⟩ := Classical.not_forall.1 hj
      have ⟨hji, hij⟩ := Classical.not_forall.1 hj
      refine ih _ ?_ hjn hju rfl
      rw [← hm]
      refine filter_lt (y := i) (fun x _ hx => ?_) (List.mem_range.2 hi) ?_ ?_
      · have hx := of_decide_eq_true hx
        exact decide_eq_true ⟨hx.1, hx.2.trans hji⟩
      · exact decide_eq_true ⟨hu, .refl _⟩
      · exact decide_eq_false fun hx => hij hx.2

/-- A ring whose edges from elsewhere come from what is told. -/
def Waits (E : Nat → Nat → Prop) (outs : List (List Nat)) (S : List Nat) : Prop := ∃ p q, E p q ∧ q ∈ S ∧ p ∉ S ∧ ¬ ToldIn outs p

theorem free_of_ring {E : Nat → Nat → Prop} {n : Nat} {outs : List (List Nat)} {S : List Nat} (h : InOrder E n outs) (hE : ∀ a b, E a b → a < n) (hS : Ring E S) (hn : ∀ a ∈ S, a < n) (hu : ∀ a ∈ S, ¬ ToldIn outs a) (hw : ¬ Waits E outs S) : ∀ a ∈ S, Free E n outs a := by
  intro a ha
  refine ⟨hn a ha, hu a ha, fun j hj hju hr => ?_⟩
  have : j ∈ S ∨ ToldIn outs j := by
    refine hr.ahead (P := fun x => x ∈ S ∨ ToldIn outs x) (fun x y he hy => ?_) (Or.inl ha)
    by_cases hx : x ∈ S
    · exact Or.inl hx
    · refine Or.inr ?_
      rcases hy with hy | hy
      · exact Classical.byContradiction fun hn => hw ⟨x, y, he, hy, hx, hn⟩
      · exact h.pre hE he hy
  rcases this with hm | hm
  · exact ((hS.mem a ha j).1 hm).1
  · exact absurd hm hju
theorem Free.not_waits {E : Nat → Nat → Prop} {n : Nat} {outs : List (List Nat)} {S : List Nat} (hE : ∀ a b, E a b → a < n) (hS : Ring E S) {a : Nat} (ha : a ∈ S) (hf : Free E n outs a) : ¬ Waits E outs S := by
  rintro ⟨p, q, he, hq, hp, hu⟩
  have hqa := (hS.mem q hq a).1 ha
  have hpa := Rch.front he hqa.1
  exact hp ((hS.mem a ha p).2 ⟨hf.ahead p (hE p q he) hu hpa, hpa⟩)
/-- Of some rings that hold all, the one with the least head of those that wait for none is the next. -/
theorem nxt_of_best {E : Nat → Nat → Prop} {n : Nat} {outs sets : List (List Nat)} (h : InOrder E n outs) (hE : ∀ a b, E a b → a < n) (hR : ∀ S ∈ sets, Ring E S) (hn : ∀ S ∈ sets, ∀ a ∈ S, a < n) (hall : AllTold n sets)
    {S : List Nat} (hS : S ∈ sets) (hu : ∀ a ∈ S, ¬ ToldIn outs a) (hw : ¬ Waits E outs S)
    (hb : ∀ T ∈ sets, (∀ a ∈ T, ¬ ToldIn outs a) → ¬ Waits E outs T → ∀ a b, S.head? = some a → T.head? = some b → a ≤ b) : Nxt E n outs S := by
  refine ⟨hR S hS, free_of_ring h hE (hR S hS) (hn S hS) hu hw, fun i hi a ha => ?_⟩
  obtain ⟨T, hT, hiT⟩ := hall i hi.lt
  have hTR := hR T hT
  obtain ⟨b, hb1, hb2, hb3⟩ := hTR.head
  have hTu : ∀ x ∈ T, ¬ ToldIn outs x := by
    rintro x hx ⟨U, hU, hxU⟩
    obtain ⟨k, hk, rfl⟩ := List.getElem_of_mem hU
    have hUR := (h k outs[k] (List.getElem?_eq_getElem hk)).ring
    have := hUR.eq hTR hxU hx
    exact hi.un ⟨outs[k], hU, by rw [this]; exact hiT⟩
  exact Nat.le_trans (hb T hT hTu (hi.not_waits hE hTR hiT) a b ha hb1) (hb3 i hiT)
/-- The document's: the least that is free, with all that are come to both ways. -/
theorem nxt_of_least {E : Nat → Nat → Prop} {n : Nat} {outs : List (List Nat)} {i : Nat} {S : List Nat} (hE : ∀ a b, E a b → a < n ∧ b < n) (hf : Free E n outs i) (hl : ∀ j, j < i → ¬ Free E n outs j) (hs : S.Pairwise (· < ·)) (hm : ∀ j, j ∈ S ↔ (j < n ∧ Rch E i j ∧ Rch E j i))
    (hto : ∀ a b, ToldIn outs a → Rch E a b → Rch E b a → ToldIn outs b) : Nxt E n outs S := by
  have hi : i ∈ S := (hm i).2 ⟨hf.lt, .refl _, .refl _⟩
  have hring : Ring E S := by
    refine ⟨(fun e => by rw [e] at hi; cases hi), hs, fun a ha b => ?_⟩
    obtain ⟨_, ha1, ha2⟩ := (hm a).1 ha
    constructor
    · intro hb
      obtain ⟨_, hb1, hb2⟩ := (hm b).1 hb
      exact ⟨ha2.trans hb1, hb2.trans ha1⟩
    · rintro ⟨h1, h2⟩
      refine (hm b).2 ⟨?_, ha1.trans h1, h2.trans ha2⟩
      exact (ha1.trans h1).keeps (P := fun x => x < n) (fun x y _ he => (hE x y he).2) hf.lt
  have hfree : ∀ a ∈ S, Free E n outs a := by
    intro a ha
    obtain ⟨han, h1, h2⟩ := (hm a).1 ha
    exact ⟨han, fun ht => hf.un (hto a i ht h2 h1), fun j hj hju hr => h2.trans (hf.ahead j hj hju (hr.trans h2))⟩
  refine ⟨hring, hfree, fun j hj a ha => ?_⟩
  obtain ⟨a', ha1, ha2, _⟩ := hring.head
  rw [ha] at ha1
  injection ha1 with e
  subst e
  exact Classical.byContradiction fun hn => hl j (by
    have hai : a ≤ i := by
      obtain ⟨a'', hb1, _, hb3⟩ := hring.head
      rw [ha] at hb1
      injection hb1 with e
      subst e
      exact hb3 i hi
    omega) hj
theorem InOrder.both {E : Nat → Nat → Prop} {n : Nat} {outs : List (List Nat)} (h : InOrder E n outs) (a b : Nat) (ha : ToldIn outs a) (h1 : Rch E a b) (h2 : Rch E b a) : ToldIn outs b := by
  obtain ⟨S, hS, haS⟩ := ha
  obtain ⟨k, hk, rfl⟩ := List.getElem_of_mem hS
  exact ⟨outs[k], hS, (((h k outs[k] (List.getElem?_eq_getElem hk)).ring).mem a haS b).2 ⟨h1, h2⟩⟩
end Go.Proofs.YtnfnebfioibndaaGreatDoor
namespace Go.Proofs.YtnfnebfioibndaaGreatDoor
set_option maxRecDepth 10000

def fw (T : Nat → Nat → Bool) (k i j : Nat) : Bool := T i j || (T i k && T k j)
structure Table (E : Nat → Nat → Prop) (n : Nat) (T : Nat → Nat → Bool) (k : Nat) : Prop where
  sound : ∀ i j, i < n → j < n → T i j = true → Rch E i j
  refl : ∀ i, i < n → T i i = true
  edge : ∀ i j, E i j → T i j = true
  via : ∀ m, m < k → ∀ i j, i < n → j < n → T i m = true → T m j = true → T i j = true
theorem Table.step {E : Nat → Nat → Prop} {n k : Nat} {T : Nat → Nat → Bool} (h : Table E n T k) (hk : k < n) : Table E n (fw T k) (k + 1) := by
  have e1 : ∀ i j, fw T k i j = true ↔ (T i j = true ∨ (T i k = true ∧ T k j = true)) := fun i j => by simp [fw]
  refine ⟨fun i j hi hj hT => ?_, fun i hi => ?_, fun i j he => ?_, fun m hm i j hi hj h1 h2 => ?_⟩
  · rcases (e1 i j).1 hT with hT | ⟨h1, h2⟩
    · exact h.sound i j hi hj hT
    · exact (h.sound i k hi hk h1).trans (h.sound k j hk hj h2)
  · exact (e1 i i).2 (Or.inl (h.refl i hi))
  · exact (e1 i j).2 (Or.inl (h.edge i j he))
  · refine (e1 i j).2 ?_
    rcases (e1 i m).1 h1 with g1 | ⟨g1, g1'⟩ <;> rcases (e1 m j).1 h2 with g2 | ⟨g2, g2'⟩
    · rcases Nat.lt_or_ge m k with hmk | hmk
      · exact Or.inl (h.via m hmk i j hi hj g1 g2)
      · have e : m = k := by omega
        rw [e] at g1 g2
        exact Or.inr ⟨g1, g2⟩
    · refine Or.inr ⟨?_, g2'⟩
      rcases Nat.lt_or_ge m k with hmk | hmk
      · exact h.via m hmk i k hi hk g1 g2
      · have e : m = k := by omega
        rw [e] at g1
        exact g1
    · refine Or.inr ⟨g1, ?_⟩
      rcases Nat.lt_or_ge m k with hmk | hmk
      · exact h.via m hmk k j hk hj g1' g2
      · have e : m = k := by omega
        rw [e] at g2
        exact g2
    · exact Or.inr ⟨g1, g2'⟩
theorem Table.all {E : Nat → Nat → Prop} {n : Nat} {T : Nat → Nat → Bool} (h : Table E n T n) (hE : ∀ a b, E a b → a < n ∧ b < n) {i j : Nat} (hi : i < n) (hj : j < n) : T i j = true ↔ Rch E i j := by
  refine ⟨h.sound i j hi hj, fun hr => ?_⟩
  have : j < n → T i j = true := by
    induction hr with
    | refl => intro _; exact h.refl i hi
    | step _ e ih =>
      intro hc
      have hb := (hE _ _ e).1
      exact h.via _ hb i _ hi hc (ih hb hb) (h.edge _ _ e)
  exact this hj
/-- In the midst of a round: what is behind (a, b) is as it was. -/
def fwMix (T : Nat → Nat → Bool) (k a b : Nat) (i j : Nat) : Bool := if i < a ∨ (i = a ∧ j < b) then fw T k i j else T i j
theorem fw_col (T : Nat → Nat → Bool) (k i : Nat) : fw T k i k = T i k := by
  unfold fw
  cases T i k <;> simp
theorem fw_row (T : Nat → Nat → Bool) (k j : Nat) : fw T k k j = T k j := by
  unfold fw
  cases T k j <;> simp
theorem fwMix_col (T : Nat → Nat → Bool) (k a b i : Nat) : fwMix T k a b i k = T i k := by
  unfold fwMix
  split
  · exact fw_col T k i
  · rfl
theorem fwMix_row (T : Nat → Nat → Bool) (k a b j : Nat) : fwMix T k a b k j = T k j := by
  unfold fwMix
  split
  · exact fw_row T k j
  · rfl
theorem fwMix_at (T : Nat → Nat → Bool) (k a b : Nat) : (fwMix T k a b a b || (fwMix T k a b a k && fwMix T k a b k b)) = fw T k a b := by
  rw [fwMix_col, fwMix_row]
  have : fwMix T k a b a b = T a b := by
    unfold fwMix
    rw [if_neg (by omega)]
  rw [this]
  rfl
theorem fwMix_zero (T : Nat → Nat → Bool) (k : Nat) (i j : Nat) : fwMix T k 0 0 i j = T i j := by
  unfold fwMix
  rw [if_neg (by omega)]
theorem fwMix_next (T : Nat → Nat → Bool) (k a b i j : Nat) : fwMix T k a (b + 1) i j = if i = a ∧ j = b then fw T k a b else fwMix T k a b i j := by
  unfold fwMix
  by_cases h : i = a ∧ j = b
  · rw [if_pos h, if_pos (by omega), h.1, h.2]
  · rw [if_neg h]
    by_cases h2 : i < a ∨ (i = a ∧ j < b)
    · rw [if_pos h2, if_pos (by omega)]
    · rw [if_neg h2, if_neg (by omega)]
theorem fwMix_row_end (T : Nat → Nat → Bool) (k a n i j : Nat) (hj : j < n) : fwMix T k a n i j = fwMix T k (a + 1) 0 i j := by
  unfold fwMix
  by_cases h : i < a ∨ (i = a ∧ j < n)
  · rw [if_pos h, if_pos (by omega)]
  · rw [if_neg h, if_neg (by omega)]
theorem fwMix_end (T : Nat → Nat → Bool) (k n i j : Nat) (hi : i < n) : fwMix T k n 0 i j = fw T k i j := by
  unfold fwMix
  rw [if_pos (by omega)]
end Go.Proofs.YtnfnebfioibndaaGreatDoor
