/- From the row's condition on the listed variables to the cells that a walk reads. -/
import Derived.Test.YtpiobckemlkomaaDoorBase
import Derived.LaidMore
import Derived.LaidHandle
import Derived.Stop.Joined
namespace Go.Proofs.YtpiobckemlkomaaDoor
open Go.RowKit Go.ChangeShapes Go.WideShapes Go.ChangeAt

section
variable {H : Type} {enc : TypeId × Value → H} {P : Program} {w : World} {base fuel : Nat} {sp : Nat → Bool} {held : Bool} {cs : List Value} {p : List MemPlace}

/-- Element i of an array's datum is read off its own cells. -/
theorem arr_get {t e n k : Nat} {ds : List (DataW H)} (ht : P.underlying t = some (.array n e)) (hk : P.cellsOf e = k) (h : DataW.trod enc P w base sp held fuel t cs = some (.agg ds, p)) :
    ∃ m, ∀ (i : Nat) (d : DataW H), i < n → ds[i]? = some d → ∃ q, DataW.trod enc P w base sp held m e ((cs.drop (i * k)).take k) = some (d, q) := by
  obtain ⟨xs, m, rfl, hx, hlen, hn, hel⟩ := DataW.trod_array ht h
  simp only [Prod.mk.injEq, DataW.agg.injEq] at hx
  refine ⟨m, fun i d hi hd => ?_⟩
  have h1 := hel i hi
  rw [hk] at h1
  rw [hx.1] at hd
  simp only [List.getElem?_map, Option.map_eq_some_iff] at hd
  obtain ⟨y, hy, rfl⟩ := hd
  exact ⟨y.2, by rw [h1, hy]⟩

theorem seg_one {x : Value} {i : Nat} (h : (cs.drop (i * 1)).take 1 = [x]) : cs[i]? = some x := by
  have := congrArg (·[0]?) h
  simpa [List.getElem?_take, List.getElem?_drop] using this

/-- An array of texts. -/
theorem arr_strings {t e n : Nat} {T : Nat → List UInt8} (ht : P.underlying t = some (.array n e)) (he : P.underlying e = some .string) (hk : P.cellsOf e = 1)
    (h : DataW.trod enc P w base sp held fuel t cs = some (.agg ((List.range n).map fun i => .lit (.string (T i))), p)) (i : Nat) (hi : i < n) : cs[i]? = some (.string ⟨(T i).toArray⟩) := by
  obtain ⟨m, hm⟩ := arr_get ht hk h
  obtain ⟨q, hq⟩ := hm i (.lit (.string (T i))) hi (by simp [hi])
  obtain ⟨s, h1, h2, _⟩ := DataW.trod_string he hq
  simp only [Prod.mk.injEq, DataW.lit.injEq, Lit.string.injEq] at h2
  rw [seg_one h1, h2.1]

/-- An array of numbers. -/
theorem arr_ints {t e n : Nat} {kd : IntKind} {T : Nat → Int} (ht : P.underlying t = some (.array n e)) (he : P.underlying e = some (.int kd)) (hk : P.cellsOf e = 1)
    (h : DataW.trod enc P w base sp held fuel t cs = some (.agg ((List.range n).map fun i => .lit (.int kd (T i))), p)) (i : Nat) (hi : i < n) : cs[i]? = some (.int kd (T i)) := by
  obtain ⟨m, hm⟩ := arr_get ht hk h
  obtain ⟨q, hq⟩ := hm i (.lit (.int kd (T i))) hi (by simp [hi])
  obtain ⟨z, h1, h2, _⟩ := DataW.trod_int he hq
  simp only [Prod.mk.injEq, DataW.lit.injEq, Lit.int.injEq] at h2
  rw [seg_one h1, ← h2.1.2]

/-- An array of arrays of numbers. -/
theorem arr_ints2 {t e0 e n k : Nat} {kd : IntKind} {T : Nat → Nat → Int} (ht : P.underlying t = some (.array n e0)) (h0 : P.underlying e0 = some (.array k e)) (he : P.underlying e = some (.int kd)) (hk : P.cellsOf e = 1) (hk0 : P.cellsOf e0 = k)
    (h : DataW.trod enc P w base sp held fuel t cs = some (.agg ((List.range n).map fun i => .agg ((List.range k).map fun j => .lit (.int kd (T i j)))), p)) (i j : Nat) (hi : i < n) (hj : j < k) : cs[i * k + j]? = some (.int kd (T i j)) := by
  obtain ⟨m, hm⟩ := arr_get ht hk0 h
  obtain ⟨q, hq⟩ := hm i (.agg ((List.range k).map fun j => .lit (.int kd (T i j)))) hi (by simp [hi])
  have := arr_ints h0 he hk hq j hj
  rw [List.getElem?_take, if_pos hj, List.getElem?_drop] at this
  exact this
end

theorem h_et : Tryd.prog.globalNamed "errors.errorType" = some 3 := by kernel_rfl
theorem h_rt : (Tryd.prog.cutTypes.find? (·.1 == "internal/reflectlite.rtype")).map (·.2) = some 138 := by kernel_rfl
theorem h_oneRow : ((List.range Tryd.prog.types.size).filter fun t => Tryd.prog.rowNamed t [101, 114, 114, 111, 114]) = [29] := by kernel_rfl

/-- The variable errors.errorType. -/
theorem handle_cell {W : World} (h : handlesMet Tryd.prog [("errors.errorType", Rows.laid_errors_errorType)] W) : W.cell? ⟨3, 0, none⟩ = some (.iface 138 (.agg #[.pointer (some ⟨6, 29, none⟩)])) := by
  obtain ⟨name, u, ty, e1, e2, e3, e4, e5⟩ := h _ (List.mem_singleton.2 rfl)
  have en : name = [101, 114, 114, 111, 114] := (Option.some.inj e1).symm
  subst en
  obtain rfl := Option.some.inj (h_rt.symm.trans e2)
  have hm : ty ∈ (List.range Tryd.prog.types.size).filter fun t => Tryd.prog.rowNamed t [101, 114, 114, 111, 114] := List.mem_filter.2 ⟨List.mem_range.2 e3, e4⟩
  rw [h_oneRow] at hm
  obtain rfl := List.mem_singleton.1 hm
  have hh : typeHandle Tryd.prog 29 = .pointer (some ⟨6, 29, none⟩) := by kernel_rfl
  rw [hh] at e5
  simpa using World.var?_cell h_et e5 0

theorem cell_lt {W : World} {b o : Nat} {v : Value} (h : W.cell? ⟨b, o, none⟩ = some v) : b < W.heap.size := by
  rcases Nat.lt_or_ge b W.heap.size with h' | h'
  · exact h'
  · simp [World.cell?, Array.getElem?_eq_none h'] at h
end Go.Proofs.YtpiobckemlkomaaDoor
