/- BookKeeps: what is written stays written. No condition; the variable errors.errorType as the program's text lays it (tied); internal/bytealg.MaxLen holds some number (the world's shape). -/
import Derived.Test.YtodmnogoacghpaaGreatDoorM01
import Derived.HandedShaped
import Derived.Shelf.Vars
import Derived.LaidMore
import Derived.LaidHandle
import Derived.Stop.Joined
import Derived.Test.YtodmnogoacghpaaGreatDoorM42
import Derived.Test.YtodmnogoacghpaaGreatDoorTie
import Derived.Test.YtodmnogoacghpaaGreatDoorCards
import Derived.SevenTiedAt
import Derived.Lay
namespace Go.Proofs.YtodmnogoacghpaaGreatDoor
open Go.RowKit
variable {H : Type} {enc : TypeId × Value → H}

theorem handed_and_shaped {a : Assume} {C : Checked} {os : Os} {f : FuncId} {fn : Func} {s : ChangeSpec} {conds : List PathCond} {apart fresh handsOn again : Bool} {X : World → Array Value → Prop}
    (hX : ∀ (w w' : World) (args : Array Value), w.heap = w'.heap → X w args → X w' args)
    (own : ownKnob C.prog.godebug = none) (started : os.Started) (noInit : C.prog.inits.idxOf? f = none) (hfn : C.prog.funcs[f]? = some fn)
    (witness : ∃ (w : World) (tape : Tape) (i : Input), w.os = os ∧ (w.forCall tape i).Shaped C.prog ∧ i.vars = [] ∧ Input.okWide C.prog (w.forCall tape i) .any w.heap.size f i ∧
      ((s.pre enc C.prog fn conds apart (w.forCall tape i).memory i.args ∧ X (w.forCall tape i).memory i.args) ∧ sizedMet enc C.prog fn (OpenSpec.ofChange s) apart (w.forCall tape i).memory i.args) ∧ a.holds C.prog (lone (Frame.enter C.prog f i.args .normal) [] (w.forCall tape i)))
    (contract : ∀ (W : World) (base : Nat) (args : Array Value) (ds gs : List (DataW H)) (before : List MemPlace),
      (∀ (j : Nat) t v, fn.params[j]? = some t → args[j]? = some v → Value.okWide C.prog W .any base t v) →
      DataW.Whole enc C.prog fn.params.toList s.vars apart W args.toList ds gs before →
      conds.all (PathCond.test C.prog ⟨fn.params.toList, ds, s.plain.varTypes C.prog, gs⟩) = true →
      (DataW.weightsEach C.prog (fn.params.toList ++ s.plain.varTypes C.prog) (ds ++ gs)).all (· ≤ reachBytes) = true → X W args → W.ShapedOpen C.prog →
      a.holds C.prog (lone (Frame.enter C.prog f args .normal) [] W) →
      Calls C.prog f args W fun e W' => ∃ v, e = .returned v ∧ s.post enc C.prog fn apart fresh handsOn again W args v W') :
    ReturnsInHanded a C os f .any (fun w args => (s.pre enc C.prog fn conds apart w args ∧ X w args) ∧ sizedMet enc C.prog fn (OpenSpec.ofChange s) apart w args) (s.post enc C.prog fn apart fresh handsOn again) := by
  refine returnsInHanded_of_calls own started noInit witness ?_
  intro w tape i _ hsh _ hok hpre hholds
  obtain ⟨_, _, _, fn', hfn', _, _, _, _, hval⟩ := hok
  have e : fn' = fn := Option.some.inj (hfn'.symm.trans hfn)
  subst e
  obtain ⟨⟨⟨ds, gs, before, hw, hc⟩, hx⟩, hz⟩ := hpre
  have hw' := DataW.Whole.of_heap (w' := w.forCall tape i) (by rfl) hw
  refine (contract (w.forCall tape i) w.heap.size i.args ds gs before hval hw' hc (hz.weights hw) (hX _ _ _ (by rfl) hx) hsh hholds).mono fun e W' ⟨v, he, hp⟩ => ?_
  subst he
  exact ChangeSpec.post_blind hp
end Go.Proofs.YtodmnogoacghpaaGreatDoor
namespace Go.Proofs.YtodmnogoacghpaaGreatDoor
open Go.RowKit Go.ChangeShapes Go.WideShapes Go.ChangeAt

section
variable {H : Type} {enc : TypeId × Value → H} {P : Program} {w : World} {base fuel : Nat} {sp : Nat → Bool} {held : Bool} {cs : List Value} {p : List MemPlace}

/-- Element i of an array's datum is read off its own cells. -/
theorem arr_get {t e n k : Nat} {ds : List (DataW H)} (ht : P.underlying t = some (.array n e)) (hk : P.cellsOf e = k) (h : DataW.trod enc P w base sp held fuel t cs = some (.agg ds, p)) :
    ∃ m, ∀ (i : Nat) (d : DataW H), i < n → ds[i]? = some d → ∃ q, DataW.trod enc P w base sp held m e ((cs.drop (i * k)).take k) = some (d, q) := by
  obtain ⟨xs, m, rfl, hx, hlen, hn, hel⟩ := DataW.trod_array ht h
  simp only [Prod.mk.injEq, DataW.agg.injEq] at hx
  refine ⟨m, fun i d hi hd => ?_⟩
  have h1 := hel i hi
  rw [hk] at h1
  rw [hx.1] at hd
  simp only [List.getElem?_map, Option.map_eq_some_iff] at hd
  obtain ⟨y, hy, rfl⟩ := hd
  exact ⟨y.2, by rw [h1, hy]⟩

theorem seg_one {x : Value} {i : Nat} (h : (cs.drop (i * 1)).take 1 = [x]) : cs[i]? = some x := by
  have := congrArg (·[0]?) h
  simpa [List.getElem?_take, List.getElem?_drop] using this

/-- An array of texts. -/
theorem arr_strings {t e n : Nat} {T : Nat → List UInt8} (ht : P.underlying t = some (.array n e)) (he : P.underlying e = some .string) (hk : P.cellsOf e = 1)
    (h : DataW.trod enc P w base sp held fuel t cs = some (.agg ((List.range n).map fun i => .lit (.string (T i))), p)) (i : Nat) (hi : i < n) : cs[i]? = some (.string ⟨(T i).toArray⟩) := by
  obtain ⟨m, hm⟩ := arr_get ht hk h
  obtain ⟨q, hq⟩ := hm i (.lit (.string (T i))) hi (by simp [hi])
  obtain ⟨s, h1, h2, _⟩ := DataW.trod_string he hq
  simp only [Prod.mk.injEq, DataW.lit.injEq, Lit.string.injEq] at h2
  rw [seg_one h1, h2.1]

/-- An array of numbers. -/
theorem arr_ints {t e n : Nat} {kd : IntKind} {T : Nat → Int} (ht : P.underlying t = some (.array n e)) (he : P.underlying e = some (.int kd)) (hk : P.cellsOf e = 1)
    (h : DataW.trod enc P w base sp held fuel t cs = some (.agg ((List.range n).map fun i => .lit (.int kd (T i))), p)) (i : Nat) (hi : i < n) : cs[i]? = some (.int kd (T i)) := by
  obtain ⟨m, hm⟩ := arr_get ht hk h
  obtain ⟨q, hq⟩ := hm i (.lit (.int kd (T i))) hi (by simp [hi])
  obtain ⟨z, h1, h2, _⟩ := DataW.trod_int he hq
  simp only [Prod.mk.injEq, DataW.lit.injEq, Lit.int.injEq] at h2
  rw [seg_one h1, ← h2.1.2]

/-- An array of arrays of numbers. -/
theorem arr_ints2 {t e0 e n k : Nat} {kd : IntKind} {T : Nat → Nat → Int} (ht : P.underlying t = some (.array n e0)) (h0 : P.underlying e0 = some (.array k e)) (he : P.underlying e = some (.int kd)) (hk : P.cellsOf e = 1) (hk0 : P.cellsOf e0 = k)
    (h : DataW.trod enc P w base sp held fuel t cs = some (.agg ((List.range n).map fun i => .agg ((List.range k).map fun j => .lit (.int kd (T i j)))), p)) (i j : Nat) (hi : i < n) (hj : j < k) : cs[i * k + j]? = some (.int kd (T i j)) := by
  obtain ⟨m, hm⟩ := arr_get ht hk0 h
  obtain ⟨q, hq⟩ := hm i (.agg ((List.range k).map fun j => .lit (.int kd (T i j)))) hi (by simp [hi])
  have := arr_ints h0 he hk hq j hj
  rw [List.getElem?_take, if_pos hj, List.getElem?_drop] at this
  exact this
end

theorem h_et : Tryz.prog.globalNamed "errors.errorType" = some 0 := by kernel_rfl
theorem h_rt : (Tryz.prog.cutTypes.find? (·.1 == "internal/reflectlite.rtype")).map (·.2) = some 125 := by kernel_rfl
theorem h_oneRow : ((List.range Tryz.prog.types.size).filter fun t => Tryz.prog.rowNamed t [101, 114, 114, 111, 114]) = [29] := by kernel_rfl

/-- The variable errors.errorType. -/
theorem handle_cell {W : World} (h : handlesMet Tryz.prog [("errors.errorType", Rows.laid_errors_errorType)] W) : W.cell? ⟨0, 0, none⟩ = some (.iface 125 (.agg #[.pointer (some ⟨2, 29, none⟩)])) := by
  obtain ⟨name, u, ty, e1, e2, e3, e4, e5⟩ := h _ (List.mem_singleton.2 rfl)
  have en : name = [101, 114, 114, 111, 114] := (Option.some.inj e1).symm
  subst en
  obtain rfl := Option.some.inj (h_rt.symm.trans e2)
  have hm : ty ∈ (List.range Tryz.prog.types.size).filter fun t => Tryz.prog.rowNamed t [101, 114, 114, 111, 114] := List.mem_filter.2 ⟨List.mem_range.2 e3, e4⟩
  rw [h_oneRow] at hm
  obtain rfl := List.mem_singleton.1 hm
  have hh : typeHandle Tryz.prog 29 = .pointer (some ⟨2, 29, none⟩) := by kernel_rfl
  rw [hh] at e5
  simpa using World.var?_cell h_et e5 0

theorem cell_lt {W : World} {b o : Nat} {v : Value} (h : W.cell? ⟨b, o, none⟩ = some v) : b < W.heap.size := by
  rcases Nat.lt_or_ge b W.heap.size with h' | h'
  · exact h'
  · simp [World.cell?, Array.getElem?_eq_none h'] at h
end Go.Proofs.YtodmnogoacghpaaGreatDoor
namespace Go.Proofs.YtodmnogoacghpaaGreatDoor
open Go.RowKit Go.ChangeShapes Go.WideShapes Go.ChangeAt

namespace Bookkeeps
theorem own : ownKnob Tryz.prog.godebug = none := by kernel_rfl
theorem laidOut : laidOutB Tryz.prog = true := by kernel_rfl

theorem n_of_laid {W : World} (h : laidMetH Tryz.prog Rows.bookKeepsRow.laid W) : ErrVar W := by
  have h' : laidMet Tryz.prog [] W ∧ handlesMet Tryz.prog [("errors.errorType", Rows.laid_errors_errorType)] W := h
  have he := handle_cell h'.2
  exact ⟨he, cell_lt he⟩
theorem maxLen_cell {W : World} (h : W.ShapedOpen Tryz.prog) : MaxV W := by
  exact cell_of_shapedOpen_int (g := 1) (t := 3) (zero := #[.int .i64 0]) h (of_decide_eq_true (by kernel_rfl)) (by kernel_rfl) rfl (by kernel_rfl) (by kernel_rfl) Tryz.underlying3

theorem door_met (os : Os) (args : Array Value) : laidMetH Tryz.prog Rows.bookKeepsRow.laid ((World.doorLaid Tryz.prog 400 os).forCall (fun _ _ => 0) ⟨#[], args, []⟩).memory :=
  laidMetH_of_parts3 (fuel := 8) (laidMet_of_run' 8 (by kernel_rfl) (by kernel_rfl)) (by kernel_rfl) (by kernel_rfl)

set_option maxRecDepth 100000 in
theorem lifted (os : Os) (started : os.Started) (H : Type) (enc : TypeId × Value → H) :
    ReturnsInHanded {} Tryz.checked os 4 .any (fun w args => (Rows.bookKeepsSpec.pre enc Tryz.prog Tryz.f4 [] false w args ∧ laidMetH Tryz.prog Rows.bookKeepsRow.laid w) ∧ sizedMet enc Tryz.prog Tryz.f4 (OpenSpec.ofChange Rows.bookKeepsSpec) false w args)
      (Rows.bookKeepsSpec.post enc Tryz.prog Tryz.f4 false true false false) := by
  refine handed_and_shaped (C := Tryz.checked) (X := fun w _ => laidMetH Tryz.prog Rows.bookKeepsRow.laid w) (fun _ _ _ hh h => h.of_heap hh) own started (by kernel_rfl) Tryz.func4
    (ChangeSpec.witness_shaped (enc := enc) (C := Tryz.checked) (os := os) (X := fun w _ => laidMetH Tryz.prog Rows.bookKeepsRow.laid w) false (World.doorLaid Tryz.prog 400 os) #[.slice none 0 0, .slice none 0 0] 8 rfl (World.shaped_of_RefB (by kernel_rfl) (by kernel_rfl)) (by kernel_rfl) (by kernel_rfl) (by kernel_rfl) (door_met os _)) ?_
  intro W base args ds gs before hval0 hW _ hsz hL hsh _
  have hval : ∀ (j : Nat) t v, Tryz.f4.params[j]? = some t → args[j]? = some v → Value.okWide Tryz.prog W .any base t v := hval0
  have hW' := hW
  obtain ⟨p, q, hA0, hV, rfl, hfz, hnd⟩ := hW
  have hA : DataW.TrodAll enc Tryz.prog W 0 (fun _ => true) true Tryz.f4.params.toList args.toList ds p := hA0
  rw [Tryz.params4] at hA hval
  obtain ⟨v0, vs0, d0, ds0, p0, q0, hargs, rfl, rfl, h0, r0⟩ := trodAll_cons hA
  obtain ⟨v1, vs1, d1, ds1, p1, q1, rfl, rfl, rfl, h1, r1⟩ := trodAll_cons r0
  obtain ⟨rfl, rfl, rfl⟩ := trodAll_nil r1
  obtain rfl : args = #[v0, v1] := by cases args; simp_all
  obtain ⟨rfl, rfl⟩ := trodVars_none hV
  obtain ⟨a0, n0, c0, rfl⟩ := okWide_slice Tryz.underlying55 (hval 0 55 v0 rfl rfl)
  obtain ⟨a1, n1, c1, rfl⟩ := okWide_slice Tryz.underlying56 (hval 1 56 v1 rfl rfl)
  obtain ⟨fu0, hf0⟩ := h0
  obtain ⟨fu1, hf1⟩ := h1
  obtain ⟨ls, hAs⟩ := rd_notesK (v := .slice a0 n0 c0) hf0
  obtain ⟨cs, hCs⟩ := rd_ints (v := .slice a1 n1 c1) hf1
  have hErr := n_of_laid hL
  have hMax := maxLen_cell hsh
  refine (bookKeeps_calls _ _ ls cs W hErr hMax hAs hCs).mono fun ev W' ⟨he, hb⟩ => ⟨_, he, ?_⟩
  exact law_post laidOut (by kernel_rfl) hW' rfl rfl rfl Tryz.underlying4 hb

theorem holds : Rows.BookKeepsSaid :=
  OpenClaim.holds_of_wide 4 Tryz.f4 rfl rfl rfl rfl rfl rfl rfl ⟨rfl, rfl, rfl, rfl, rfl⟩ rfl rfl rfl rfl rfl (by kernel_rfl) Tryz.func4 (by kernel_rfl)
    (of_decide_eq_true (by kernel_rfl)) (by unfold Func.isWrapper; rw [if_neg (of_decide_eq_false (by kernel_rfl))]; exact ⟨rfl, rfl⟩)
    (fun os started H enc _ => lifted os started H enc)
end Bookkeeps

theorem bookKeeps_card : Rows.BookKeepsCardSaid :=
  Claim7.holds_tied_plain_at .later [] [.handle] true Rows.bookKeepsCard.stood.harness true
    Bookkeeps.holds (fun _ h => by cases h) (by kernel_rfl) (fun _ h => by cases h) bookKeeps_row_tie rfl ⟨rfl, rfl⟩ (by kernel_rfl) rfl
    (fun f fn hf hfn => by
      obtain rfl : f = 4 := Option.some.inj ((show Tryz.prog.funcNamed "stevedore/stevedorekeep.BookKeeps" = some 4 by kernel_rfl).symm.trans hf) |>.symm
      obtain rfl : fn = Tryz.f4 := (Option.some.inj (Tryz.func4.symm.trans hfn)).symm
      exact ⟨by kernel_rfl, fun j t ht => by
        rw [Tryz.params4] at ht
        have hm : t ∈ [55, 56] := by simpa using Array.mem_of_getElem? ht
        have hall : ([55, 56].all fun u => !Tryz.prog.wantsStandIn u) = true := by kernel_rfl
        exact (show Tryz.prog.wantsStandIn t = false by simpa using List.all_eq_true.1 hall t hm)⟩)
    (by kernel_rfl)
#print axioms bookKeeps_card
end Go.Proofs.YtodmnogoacghpaaGreatDoor
