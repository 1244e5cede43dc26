/- slices.DeleteFunc at an own row of offers, nil or not. -/
import Derived.Test.YtnfnebfioibndaaGreatDoorFit
namespace Go.Proofs.YtnfnebfioibndaaGreatDoor
open Go.RowKit
set_option maxRecDepth 100000
set_option maxHeartbeats 4000000

theorem deleteNil_calls (fg : FuncId) (caps : Array Value) (w : World) (eg : ∀ args w, (callFunc fg args).run Tryz.prog w = .ok (.enter fg args) w) :
    Calls Tryz.prog 24 #[.slice none 0 0, .func (.func fg) #[] caps] w fun e w' => e = .returned (.slice none 0 0) ∧ Below w.heap.size w w' := by
  have HI := Lib.hid (firstOff_calls (.slice none 0 0) 0 (fun _ => default) fg caps (fun _ => false) w (Sl.nil _ _ _) eg (fun i hi => absurd hi (by omega)))
  clear eg
  go_enter Tryz.func24, Tryz.ntmps24
  go_wp2_with fail
  refine HI.out.mono ?_
  rintro e w1 ⟨k, rfl, hk, hb⟩
  clear HI
  rcases hk with ⟨rfl, -⟩ | ⟨i0, rfl, hi0, -, -⟩
  · go_wp2_with fail
    go_ret
    exact ⟨rfl, hb⟩
  · omega

theorem deleteOwn_calls (base : Nat) (v : Value) (os : List OffD) (fg : FuncId) (caps : Array Value) (p : OffD → Bool) (w : World) (hn20 : os.length ≤ 20)
    (hown : w.ownsRow base 73 5 v os.length (rowsOf os)) (hbs : base ≤ w.heap.size)
    (hpv : ∀ o ∈ os, ∃ a k c, o.pv = .slice a k c)
    (eg : ∀ args w, (callFunc fg args).run Tryz.prog w = .ok (.enter fg args) w)
    (hf : ∀ o ∈ os, ∀ w', Below base w w' → w.heap.size ≤ w'.heap.size → Calls Tryz.prog fg (#[.agg #[.string o.name, .int .i64 o.ep, .string o.up, .string o.rv, o.pv]] ++ caps) w' fun e w'' => e = .returned (.bool (p o)) ∧ Below w'.heap.size w' w'') :
    Calls Tryz.prog 24 #[v, .func (.func fg) #[] caps] w (DelR base w os p) := by
  rcases id hown.2 with ⟨rfl, h0⟩ | ⟨g, cap, cur, rfl, hb, hg, h1, h2, _⟩
  · refine (deleteNil_calls fg caps w eg).mono ?_
    rintro e w1 ⟨rfl, hb⟩
    have : os = [] := List.eq_nil_of_length_eq_zero h0
    subst this
    exact ⟨_, rfl, ⟨Sl.nil _ _ _, trivial⟩, hb.mono hbs⟩
  · have hgl : g < w.heap.size := by
      rcases Nat.lt_or_ge g w.heap.size with hlt | hge
      · exact hlt
      · rw [Array.getElem?_eq_none hge] at hg; cases hg
    unfold maxLen at h2
    refine (deleteOff_calls g os.length cap base os fg caps p w rfl hn20 hown hb hgl ⟨h1, h2⟩ hpv eg (fun o ho w' hb' hs => hf o ho w' (hb'.mono hb) hs)).mono ?_
    rintro e w1 ⟨v', rfl, ho, hbb⟩
    exact ⟨v', rfl, ho, hbb.mono hb⟩

/-- The offers of those that work, but of one name. -/
theorem others_offs {ks : List KnownD} {os : List OffD} {nm : ByteArray} (h : os.map OffD.bare = (ks.filter (fun k => worksV k.state)).map KnownD.bare) :
    (os.filter (fun o => !(o.name.toList == nm.toList))).map OffD.bare = othersB ks nm := by
  have e1 : (os.filter (fun o => !(o.name.toList == nm.toList))).map OffD.bare = (os.map OffD.bare).filter (fun b => !(b.1.toList == nm.toList)) := by
    rw [List.filter_map]
    rfl
  rw [e1, h, List.filter_map, List.filter_filter]
  unfold othersB
  congr 1
  refine List.filter_congr (fun k _ => ?_)
  show (!(k.pack.name.toList == nm.toList) && worksV k.state) = (worksV k.state && !nameB k nm)
  rw [Bool.and_comm]
  rfl
theorem othersB_mem {ks : List KnownD} {nm : ByteArray} {b : BareD} (h : b ∈ othersB ks nm) : ∃ k ∈ ks, k.bare = b := by
  obtain ⟨k, hk, rfl⟩ := List.mem_map.1 h
  exact ⟨k, (List.mem_filter.1 hk).1, rfl⟩
theorem any_range_ks (ks : List KnownD) (f : KnownD → Bool) : (List.range ks.length).any (fun i => f (ks.getD i KnownD.none)) = ks.any f := by
  have : ks = (List.range ks.length).map (fun i => ks.getD i KnownD.none) := by
    apply List.ext_getElem
    · simp
    · intro i h1 h2
      simp [List.getD, List.getElem?_eq_getElem h1]
  conv => rhs; rw [this]
  rw [List.any_map]
  rfl
theorem small_of_bare' {ks : List KnownD} (hF : FitK ks) {w : World} {o : OffD} (ht : Terms w o.pv o.provides) (h : ∃ k ∈ ks, k.bare = o.bare) : OffOk w o := by
  obtain ⟨k, hk, e⟩ := h
  have hs := hF.small k hk
  have e1 : k.pack.up = o.up := congrArg (fun b : BareD => b.2.2.1) e
  have e2 : k.pack.rv = o.rv := congrArg (fun b : BareD => b.2.2.2.1) e
  have e3 : k.pack.provides = o.provides := congrArg (fun b : BareD => b.2.2.2.2) e
  exact ⟨ht, by rw [← e1, ← e2]; exact hs.sm, by rw [← e3]; exact hs.provides⟩
end Go.Proofs.YtnfnebfioibndaaGreatDoor
