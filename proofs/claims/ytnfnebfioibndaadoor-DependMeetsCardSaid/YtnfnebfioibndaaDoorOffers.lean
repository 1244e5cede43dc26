/- stevedorelaw.offers: packages are what they offer. -/
import Derived.Test.YtnfnebfioibndaaDoorRefMet
import Derived.Deep.RegionHeld3
import Derived.Deep.AppendLies
import Derived.Laws.OwnMore
namespace Go.Proofs.YtnfnebfioibndaaDoor
open Go.RowKit
set_option maxRecDepth 100000
set_option maxHeartbeats 4000000

theorem info_offer : (Tryd.prog.info? 54).map (fun i => (i.zero, i.size, i.bytes)) = some (some (.agg #[.string ⟨#[]⟩, .int .i64 0, .string ⟨#[]⟩, .string ⟨#[]⟩, .slice none 0 0]), 5, 80) := by kernel_rfl

def offAt (ps : List PackD) (F : Nat → Value) (i : Nat) : OffD := ⟨(ps.getD i PackD.none).name, (ps.getD i PackD.none).ep, (ps.getD i PackD.none).up, (ps.getD i PackD.none).rv, F i, (ps.getD i PackD.none).provides⟩
def offRow (o : OffD) : List Value := [.string o.name, .int .i64 o.ep, .string o.up, .string o.rv, o.pv]
def offRows (f : Nat → OffD) : Nat → List Value
  | 0 => []
  | k + 1 => offRows f k ++ offRow (f k)
theorem offRows_len (f : Nat → OffD) (k : Nat) : (offRows f k).length = k * 5 := by
  induction k with
  | zero => rfl
  | succ k ih => rw [offRows, List.length_append, ih]; simp [offRow]; omega
theorem offRows_at (f : Nat → OffD) (k i j : Nat) (hi : i < k) (hj : j < 5) : (offRows f k)[i * 5 + j]? = some ((f i).row j) := by
  induction k with
  | zero => omega
  | succ k ih =>
    rw [offRows]
    by_cases h : i < k
    · rw [List.getElem?_append_left (by rw [offRows_len]; omega)]
      exact ih h
    · obtain rfl : i = k := by omega
      rw [List.getElem?_append_right (by rw [offRows_len]; omega), offRows_len, show i * 5 + j - i * 5 = j by omega]
      match j, hj with
      | 0, _ => rfl
      | 1, _ => rfl
      | 2, _ => rfl
      | 3, _ => rfl
      | 4, _ => rfl

def OffersR (w : World) (ps : List PackD) (e : Ending) (w' : World) : Prop :=
  ∃ (ov : Value) (F : Nat → Value), e = .returned ov ∧ Offs w' ov ((List.range ps.length).map (offAt ps F)) ∧ (∀ i, i < ps.length → Terms w (F i) (ps.getD i PackD.none).provides) ∧ Below w.heap.size w w'

theorem offs_of_owns {w : World} {base : Nat} {e : TypeId} {v : Value} {n : Nat} {f : Nat → OffD} (h : w.ownsRow base e 5 v n (offRows f n)) : Offs w v ((List.range n).map f) := by
  refine ⟨?_, trivial⟩
  rw [List.length_map, List.length_range]
  rcases id h.2 with ⟨rfl, rfl⟩ | ⟨g, cap, cur, rfl, _, hg, h1, h2, _⟩
  · exact Sl.nil _ _ _
  · refine ⟨_, cap, rfl, h1, h2, Or.inr ⟨g, 0, rfl, ?_, fun i j hi hj => ?_⟩⟩
    · rcases Nat.lt_or_ge g w.heap.size with hlt | hge
      · exact hlt
      · rw [Array.getElem?_eq_none hge] at hg; cases hg
    · have := h.cellAt (i * 5 + j) (by omega)
      rw [offRows_at f n i j hi hj] at this
      rw [Nat.zero_add]
      simpa [List.getD, hi] using this

theorem offers_calls (pv : Value) (ps : List PackD) (w : World) (hP : Packs w pv ps) (hlen : ps.length ≤ 20) :
    Calls Tryd.prog 20 #[pv] w (OffersR w ps) := by
  obtain ⟨R, ⟨ap, capp, rfl, hcapp, hmaxp, hcellp⟩, hO⟩ := hP
  unfold maxLen at hmaxp
  obtain ⟨i0, hi0, hz0, hz1, hz2⟩ := info_parts info_offer
  have Hcellp := Lib.hid hcellp
  have HO := Lib.hid hO
  obtain ⟨m, hm⟩ : ∃ m, ps.length = m := ⟨_, rfl⟩
  rw [hm] at hcapp Hcellp HO hlen ⊢
  have Hm := Lib.hid hm
  have Hi0 := Lib.hid (And.intro hi0 (And.intro hz0 (And.intro hz1 hz2)))
  obtain ⟨F, hF⟩ : ∃ F : Nat → Value, (fun i => R i 9) = F := ⟨_, rfl⟩
  have HF := Lib.hid hF
  clear hcellp hO hm hi0 hz0 hz1 hz2 hF
  go_enter Tryd.func20, Tryd.ntmps20
  go_wp2_with fail
  go_loopg [3, 4] m (fun k v3 v4 wr => ∃ (i : Nat) (ov : Value), ov = v3 ∧ v4 = .int .i64 i ∧ i ≤ m ∧ k = m - i ∧ wr.ownsRow w.heap.size 54 5 ov i (offRows (offAt ps F) i) ∧ Below w.heap.size w wr)
  case atStart => exact ⟨0, _, rfl, rfl, Nat.zero_le _, rfl, World.ownsRow_nil _ _ _ _, Below.refl _ _⟩
  case round =>
    obtain ⟨i, ov, rfl, rfl, hi, hk, hown, hB⟩ := hrel
    have Hk := Lib.hid hk
    have Hown := Lib.hid hown
    clear hk hown
    by_cases hlt : i < m
    · obtain ⟨bp, op, rfl, hbp, hcp⟩ := Hcellp.out.resolve_left (by omega)
      obtain ⟨p, hp⟩ : ∃ p, ps.getD i PackD.none = p := ⟨_, rfl⟩
      have hpk := HO.out i hlt
      rw [hp] at hpk
      have e9 : R i 9 = F i := by rw [← HF.out]
      obtain ⟨f9, n9, q9, es⟩ := hpk.provides.1.slice
      have hat : ∀ k, k < 13 → wr.cell? ⟨bp, op + i * 13 + k, none⟩ = some (R i k) := fun k hk => (hB.cell (p := ⟨bp, op + i * 13 + k, none⟩) hbp).trans (hcp i k hlt hk)
      have p0 := hat 0 (by decide)
      have p1 := hat 1 (by decide)
      have p2 := hat 2 (by decide)
      have p3 := hat 3 (by decide)
      have p9 := hat 9 (by decide)
      rw [hpk.name, Nat.add_zero] at p0
      rw [hpk.ep] at p1
      rw [hpk.up] at p2
      rw [hpk.rv] at p3
      rw [es] at p9
      have HE : Hid (offRow (offAt ps F i) = [.string p.name, .int .i64 p.ep, .string p.up, .string p.rv, .slice f9 n9 q9]) := by
        show _ = _
        unfold offRow offAt
        rw [hp, ← e9, es]
      have ab : ov.ownBlock ≠ some bp := fun e => by have := (Hown.out.lt _ e).1; omega
      have hsz := hB.size
      have Hbp := Lib.hid hbp
      clear hat hcp es e9 hpk hp
      go_wp2_with fail
      go_region_held3 (fun w' => w'.cell? ⟨bp, op + i * 13, none⟩ = some (.string p.name) ∧ w'.cell? ⟨bp, op + i * 13 + 1, none⟩ = some (.int .i64 p.ep) ∧ w'.cell? ⟨bp, op + i * 13 + 2, none⟩ = some (.string p.up) ∧ w'.cell? ⟨bp, op + i * 13 + 3, none⟩ = some (.string p.rv) ∧ w'.cell? ⟨bp, op + i * 13 + 9, none⟩ = some (.slice f9 n9 q9))
        (first
          | go_keep
          | (go_split_ands
             refine ⟨?_, ?_, ?_, ?_, ?_⟩ <;> (rw [hgrow.cell_far _ (by simp; have := Hbp.out; omega) (Ne.symm ab)]; assumption)))
        ((refine step_append_lies _ (by rfl) _ _ _ (by rfl) w.heap.size 54 i0 _ 5 80 Tryd.underlying47 Hi0.out.1 Hi0.out.2.1 Hi0.out.2.2.1 Hi0.out.2.2.2 rfl (by omega) ov i (offRows (offAt ps F) i) (by rfl) ((Hown.out.alloc _).drew) ⟨wr.heap.size, 0, none⟩ 1 1 [.string p.name, .int .i64 p.ep, .string p.up, .string p.rv, .slice f9 n9 q9] (by rfl) (by rfl) (World.news_of_block (cs := #[.string p.name, .int .i64 p.ep, .string p.up, .string p.rv, .slice f9 n9 q9]) (t := 54) (fr := (0, 0)) (heap_alloc_new wr _)) (by simp [Value.oneCell']) (by omega) (by unfold maxLen; omega) (by omega) (by simp; omega) (wr.heap.size + 1) (by simp) ?_; intro gg cap w1 hown1 hgrow hat hlt1))
      have hB1 : Below w.heap.size w w1 := ((hB.alloc hB.size _).drew).grown hgrow (by simp; omega) (fun k e => (Hown.out.lt _ e).1)
      rw [← HE.out] at hown1
      have Hown1 := Lib.hid hown1
      clear hown1 hgrow hat p0 p1 p2 p3 p9
      go_wp2_with fail
      go_roundg (m - (i + 1))
      case rel => exact ⟨i + 1, _, rfl, by go_num, by omega, rfl, Hown1.out, hB1⟩
      case measure => have := Hk.out; omega
    · obtain rfl : i = m := by omega
      go_wp2_with fail
      go_ret
      refine ⟨ov, F, rfl, by rw [Hm.out]; exact offs_of_owns Hown.out, fun k hk => ?_, hB⟩
      have := (HO.out k (by rw [← Hm.out]; exact hk)).provides
      rwa [show R k 9 = F k by rw [← HF.out]] at this
end Go.Proofs.YtnfnebfioibndaaDoor
