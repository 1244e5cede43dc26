/- What is written is read back: in plain Lean. -/
import Derived.Test.YtpiobckemlkomaaDoorStanR
namespace Go.Proofs.YtpiobckemlkomaaDoor
open Go.RowKit
set_option maxRecDepth 100000

/-! ### lines -/
theorem splitC_app (c : UInt8) : ∀ (x y : List UInt8), splitC c (x ++ c :: y) = splitC c x ++ splitC c y
  | [], y => by
    simp [splitC]
  | a :: x, y => by
    show splitC c (a :: (x ++ c :: y)) = splitC c (a :: x) ++ _
    rw [splitC, splitC, splitC_app c x y]
    split
    · rfl
    · cases e : splitC c x with
      | nil => exact absurd e (splitC_ne c x)
      | cons p ps => rfl
theorem splitC_mem (c : UInt8) : ∀ (s p : List UInt8), p ∈ splitC c s → c ∉ p
  | [], p, h => by
    have : p = [] := by simpa [splitC] using h
    rw [this]
    simp
  | a :: s, p, h => by
    rw [splitC] at h
    split at h
    · rcases List.mem_cons.1 h with h | h
      · rw [h]; simp
      · exact splitC_mem c s p h
    · rename_i hne
      cases e : splitC c s with
      | nil => exact absurd e (splitC_ne c s)
      | cons q qs =>
        rw [e] at h
        rcases List.mem_cons.1 h with h | h
        · rw [h]
          have := splitC_mem c s q (by rw [e]; exact List.mem_cons_self ..)
          intro hc
          rcases List.mem_cons.1 hc with hc | hc
          · exact hne hc.symm
          · exact this hc
        · exact splitC_mem c s p (by rw [e]; exact List.mem_cons_of_mem _ h)
theorem splitC_lines (c : UInt8) : ∀ (Ls : List (List UInt8)) (t : List UInt8), (∀ x ∈ Ls, c ∉ x) → splitC c (Ls.flatMap (· ++ [c]) ++ t) = Ls ++ splitC c t
  | [], t, _ => rfl
  | x :: Ls, t, h => by
    rw [List.flatMap_cons, List.append_assoc, List.append_assoc]
    show splitC c (x ++ c :: (Ls.flatMap (· ++ [c]) ++ t)) = _
    rw [splitC_cons (h x (List.mem_cons_self ..)), splitC_lines c Ls t fun y hy => h y (List.mem_cons_of_mem _ hy)]
    rfl
theorem splitC_join : ∀ (c : UInt8) (s a : List UInt8) (ps : List (List UInt8)), splitC c s = a :: ps → a ++ ps.flatMap (c :: ·) = s
  | c, [], a, ps, h => by
    simp only [splitC, List.cons.injEq] at h
    rw [← h.1, ← h.2]
    rfl
  | c, x :: s, a, ps, h => by
    rw [splitC] at h
    cases e : splitC c s with
    | nil => exact absurd e (splitC_ne c s)
    | cons q qs =>
      rw [e] at h
      have ih := splitC_join c s q qs e
      split at h
      · rename_i hx
        injection h with h1 h2
        rw [← h1, ← h2, List.flatMap_cons]
        show c :: q ++ qs.flatMap (c :: ·) = _
        rw [List.cons_append, ih, hx]
      · injection h with h1 h2
        rw [← h1, ← h2, List.cons_append, ih]
def restN (x : List UInt8) : List UInt8 := 32 :: (if x.head? = some 46 then 46 :: x else x)
def firstN (n x : List UInt8) : List UInt8 := n ++ 58 :: (if x = [] then [] else 32 :: x)
def fLines (f : FieldD) : List (List UInt8) := firstN f.1.data.toList ((splitC 10 f.2.data.toList).headD []) :: (splitC 10 f.2.data.toList).tail.map restN
theorem restL_eq (x : List UInt8) : restL x = restN x ++ [10] := by
  unfold restL restN
  rfl
theorem firstL_eq (n x : List UInt8) : firstL n x = firstN n x ++ [10] := by
  unfold firstL firstN
  simp
theorem fieldL_lines (f : FieldD) : fieldL f = (fLines f).flatMap (· ++ [10]) := by
  unfold fieldL fLines
  rw [List.flatMap_cons, firstL_eq]
  congr 1
  rw [List.flatMap_map]
  congr 1
theorem textL_lines (l : List FieldD) : textL l = (l.flatMap fLines).flatMap (· ++ [10]) := by
  unfold textL
  rw [List.flatMap_assoc]
  congr 1
  funext f
  exact fieldL_lines f
theorem nameC_not (n : ByteArray) (h : nameS n = true) {c : UInt8} (hc : nameC c = false) : c ∉ n.data.toList := by
  intro hm
  unfold nameS at h
  simp only [Bool.and_eq_true, List.all_eq_true] at h
  have := h.1.1.1.1 c hm
  rw [hc] at this
  cases this
theorem fLines_no (f : FieldD) (hn : nameS f.1 = true) : ∀ x ∈ fLines f, (10 : UInt8) ∉ x := by
  intro x hx
  unfold fLines at hx
  cases e : splitC 10 f.2.data.toList with
  | nil => exact absurd e (splitC_ne 10 _)
  | cons a ps =>
    have hm : ∀ q ∈ a :: ps, (10 : UInt8) ∉ q := fun q hq => splitC_mem 10 f.2.data.toList q (by rw [e]; exact hq)
    rw [e] at hx
    rcases List.mem_cons.1 hx with h | h
    · rw [h]
      unfold firstN
      have h1 := nameC_not f.1 hn (c := 10) (by decide)
      have h2 := hm a (List.mem_cons_self ..)
      intro hc
      rcases List.mem_append.1 hc with hc | hc
      · exact h1 hc
      · rcases List.mem_cons.1 hc with hc | hc
        · exact absurd hc (by decide)
        · have hc9 : (10 : UInt8) ∈ (if a = [] then [] else 32 :: a) := hc
          clear hc
          by_cases ha : a = []
          · rw [if_pos ha] at hc9; cases hc9
          · rw [if_neg ha] at hc9
            rcases List.mem_cons.1 hc9 with hc | hc
            · exact absurd hc (by decide)
            · exact h2 hc
    · obtain ⟨q, hq, rfl⟩ := List.mem_map.1 h
      have h2 := hm q (List.mem_cons_of_mem _ hq)
      unfold restN
      intro hc
      rcases List.mem_cons.1 hc with hc | hc
      · exact absurd hc (by decide)
      · split at hc
        · rcases List.mem_cons.1 hc with hc | hc
          · exact absurd hc (by decide)
          · exact h2 hc
        · exact h2 hc

/-! ### a field is read back -/
theorem lineS_parts {s : ByteArray} (h : lineS s = true) : s.data.toList.all lineC = true ∧ trimB s = s := by
  unfold lineS at h
  rw [Bool.and_eq_true, decide_eq_true_iff] at h
  exact h
theorem trimB_cons32 (x : List UInt8) (h : trimB (ofL x) = ofL x) : trimB (ofL (32 :: x)) = ofL x := by
  rw [← h]
  unfold trimB
  rw [ofL_data, trimS_cons (by decide)]
  rfl
theorem trim_dot {x : List UInt8} (h : trimB (ofL x) = ofL x) (hd : x.head? = some 46) : trimB (ofL (46 :: x)) = ofL (46 :: x) := by
  unfold trimB
  rw [ofL_data, trimS_self]
  · intro y hy
    injection hy with hy
    rw [← hy]
    decide
  · intro y hy
    have hx : Lib.trimS x [32, 9] = x := by
      have := congrArg (fun b : ByteArray => b.data.toList) h
      exact this
    refine trimS_last x [32, 9] y ?_
    rw [hx]
    cases x with
    | nil => cases hd
    | cons a l => rw [List.getLast?_cons_cons] at hy; exact hy
theorem step_rest {st : PS} {x : List UInt8} (hl : st.l ≠ []) (hx : lineS (ofL x) = true) (hne : x ≠ []) : stepP st (ofL (restN x)) = some ⟨st.outs, addL st.l x⟩ := by
  obtain ⟨h1, h2⟩ := lineS_parts hx
  have hh : (restN x).head? = some 32 := rfl
  by_cases hd : x.head? = some 46
  · have e : restN x = 32 :: 46 :: x := by unfold restN; rw [if_pos hd]
    have ht : trimB (ofL (restN x)) = ofL (46 :: x) := by rw [e]; exact trimB_cons32 _ (trim_dot h2 hd)
    rw [stepP_more (by rw [ofL_data, hh]; decide) (by rw [ht]; intro e2; have := congrArg (fun b : ByteArray => b.data.toList) e2; cases this) (by rw [ofL_data]; rfl), ht, ofL_data]
    exact more_dot hl (by rw [List.all_cons]; rw [ofL_data] at h1; rw [h1]; rfl) rfl hd
  · have e : restN x = 32 :: x := by unfold restN; rw [if_neg hd]
    have ht : trimB (ofL (restN x)) = ofL x := by rw [e]; exact trimB_cons32 _ h2
    rw [stepP_more (by rw [ofL_data, hh]; decide) (by rw [ht]; intro e2; have := congrArg (fun b : ByteArray => b.data.toList) e2; exact hne this) (by rw [ofL_data]; rfl), ht, ofL_data]
    exact more_plain hl h1 hd
theorem name_head {n : ByteArray} (h : nameS n = true) : ∃ c l, n.data.toList = c :: l ∧ nameC c = true ∧ c.toNat ≠ 35 := by
  unfold nameS at h
  simp only [Bool.and_eq_true, decide_eq_true_iff, List.all_eq_true] at h
  obtain ⟨⟨⟨⟨h1, h2⟩, _⟩, h3⟩, _⟩ := h
  cases e : n.data.toList with
  | nil =>
    have : n.size = n.data.toList.length := rfl
    rw [this, e] at h2
    exact absurd h2 (by decide)
  | cons c l =>
    rw [e] at h1 h3
    exact ⟨c, l, rfl, h1 c (List.mem_cons_self ..), h3⟩
theorem mem_drop {p : UInt8 → Bool} {c : UInt8} (hp : p c = false) : ∀ {m : List UInt8}, c ∈ m → c ∈ m.dropWhile p
  | [], h => h
  | a :: m, h => by
    rw [List.dropWhile_cons]
    split
    · rename_i ha
      rcases List.mem_cons.1 h with h | h
      · rw [← h, hp] at ha; cases ha
      · exact mem_drop hp h
    · exact h
theorem mem_trim {l cs : List UInt8} {c : UInt8} (h : c ∈ l) (hc : cs.contains c = false) : c ∈ Lib.trimS l cs := by
  unfold Lib.trimS Lib.trimLeftS Lib.trimRightS
  refine mem_drop hc ?_
  rw [List.mem_reverse]
  exact mem_drop hc (List.mem_reverse.2 h)
theorem step_first {st : PS} {n : ByteArray} {x : List UInt8} (hn : nameS n = true) (hx : lineS (ofL x) = true) (h40 : st.l.length < 40) (hany : st.l.any (sameN n) = false) : stepP st (ofL (firstN n.data.toList x)) = some ⟨st.outs, st.l ++ [(n, ofL x)]⟩ := by
  obtain ⟨c, l, hc, hcn, h35⟩ := name_head hn
  obtain ⟨h1, h2⟩ := lineS_parts hx
  have hc2 := (nameC_iff c).1 hcn
  have hbl : blankC c = false := by
    cases e : blankC c
    · rfl
    · have := (blankC_iff c).1 e
      omega
  have hcons : firstN n.data.toList x = c :: (l ++ 58 :: (if x = [] then [] else 32 :: x)) := by unfold firstN; rw [hc]; rfl
  have hhead : ¬ (ofL (firstN n.data.toList x)).data.toList.head? = some 35 := by
    rw [ofL_data, hcons]
    intro e
    injection e with e
    rw [e] at h35
    exact h35 rfl
  have htr : ¬ trimB (ofL (firstN n.data.toList x)) = ⟨#[]⟩ := by
    intro e
    have e2 := congrArg (fun b : ByteArray => b.data.toList) e
    have e3 : Lib.trimS (firstN n.data.toList x) [32, 9] = [] := e2
    have hm : c ∈ firstN n.data.toList x := by rw [hcons]; exact List.mem_cons_self ..
    have := mem_trim (cs := [32, 9]) hm hbl
    rw [e3] at this
    cases this
  rw [stepP_field hhead htr (by rw [ofL_data, hcons]; exact hbl)]
  have hcut : Lib.cut (ofL (firstN n.data.toList x)).data.toList [58] = (n.data.toList, (if x = [] then [] else 32 :: x), true) := by
    rw [ofL_data]
    exact cut_hit (nameC_not n hn (by decide))
  rw [fieldP_eq hcut]
  have htx : trimB (ofL (if x = [] then [] else 32 :: x)) = ofL x := by
    by_cases hx0 : x = []
    · rw [if_pos hx0, hx0]
      rfl
    · rw [if_neg hx0]
      exact trimB_cons32 x h2
  rw [ofL_eta, htx, hn, hx, hany, decide_eq_true h40]
  rfl
theorem addL_snoc (l : List FieldD) (n v : ByteArray) (u : List UInt8) : addL (l ++ [(n, v)]) u = l ++ [(n, v ++ ofL (10 :: u))] := by
  unfold addL
  simp [List.getLastD_eq_getLast?]
theorem fold_rest (outs : List (List FieldD)) (l : List FieldD) (n : ByteArray) : ∀ (ps : List (List UInt8)) (v : ByteArray), (∀ x ∈ ps, lineS (ofL x) = true ∧ x ≠ []) → foldP ⟨outs, l ++ [(n, v)]⟩ ((ps.map restN).map ofL) = some ⟨outs, l ++ [(n, ofL (v.data.toList ++ ps.flatMap (10 :: ·)))]⟩
  | [], v, _ => by
    show some _ = some _
    simp [ofL_eta]
  | x :: ps, v, h => by
    obtain ⟨h1, h2⟩ := h x (List.mem_cons_self ..)
    show (match stepP ⟨outs, l ++ [(n, v)]⟩ (ofL (restN x)) with | none => none | some st' => foldP st' ((ps.map restN).map ofL)) = _
    rw [step_rest (by simp) h1 h2]
    dsimp only
    rw [addL_snoc, fold_rest outs l n ps _ fun y hy => h y (List.mem_cons_of_mem _ hy)]
    congr 6
    rw [List.flatMap_cons]
    simp [ofL]
theorem fold_field (outs : List (List FieldD)) (l : List FieldD) (f : FieldD) (hn : nameS f.1 = true) (hv : linesOk f.2 = true) (h40 : l.length < 40) (hany : l.any (sameN f.1) = false) : foldP ⟨outs, l⟩ ((fLines f).map ofL) = some ⟨outs, l ++ [f]⟩ := by
  obtain ⟨n, v⟩ := f
  unfold fLines
  unfold linesOk at hv
  cases e : splitC 10 v.data.toList with
  | nil => exact absurd e (splitC_ne 10 _)
  | cons a ps =>
    rw [e] at hv
    simp only [List.headD_cons, List.tail_cons, Bool.and_eq_true, List.all_eq_true, decide_eq_true_iff] at hv
    show (match stepP ⟨outs, l⟩ (ofL (firstN n.data.toList a)) with | none => none | some st' => foldP st' ((ps.map restN).map ofL)) = _
    rw [step_first hn hv.1 h40 hany]
    dsimp only
    rw [fold_rest outs l n ps (ofL a) fun x hx => hv.2 x hx]
    have := splitC_join 10 v.data.toList a ps e
    rw [ofL_data, this, ofL_eta]
theorem rightOne_parts {l : List FieldD} {i : Nat} (h : rightOne l i = true) : nameS (l.getD i default).1 = true ∧ (l.take i).any (sameN (l.getD i default).1) = false ∧ linesOk (l.getD i default).2 = true := by
  unfold rightOne at h
  rw [Bool.and_eq_true, Bool.and_eq_true, Bool.not_eq_true'] at h
  exact ⟨h.1.1, h.1.2, h.2⟩
theorem fold_fields (outs : List (List FieldD)) (l : List FieldD) (hl : l.length ≤ 40) (h : ∀ j, j < l.length → rightOne l j = true) : ∀ i, i ≤ l.length → foldP ⟨outs, []⟩ (((l.take i).flatMap fLines).map ofL) = some ⟨outs, l.take i⟩
  | 0, _ => rfl
  | i + 1, hi => by
    have ih := fold_fields outs l hl h i (by omega)
    obtain ⟨h1, h2, h3⟩ := rightOne_parts (h i (by omega))
    have e : l.take (i + 1) = l.take i ++ [l.getD i default] := by
      rw [List.take_succ_eq_append_getElem (show i < l.length by omega)]
      simp [List.getD, List.getElem?_eq_getElem (show i < l.length by omega)]
    rw [e, List.flatMap_append, List.map_append, foldP_append, ih]
    show foldP ⟨outs, l.take i⟩ (([l.getD i default].flatMap fLines).map ofL) = _
    rw [List.flatMap_cons, List.flatMap_nil, List.append_nil]
    exact fold_field outs (l.take i) (l.getD i default) h1 h3 (by rw [List.length_take]; omega) h2
theorem rightF_parts {l : List FieldD} (h : rightF l = true) : (1 ≤ l.length ∧ l.length ≤ 40) ∧ (∀ j, j < l.length → rightOne l j = true) ∧ (textL l).length ≤ 4000 := by
  have h2 := rightF_all h
  unfold rightF at h
  simp only [Bool.and_eq_true, decide_eq_true_iff] at h
  exact ⟨⟨h.1.1.1, h.1.1.2⟩, h2, h.2⟩
theorem fold_text (outs : List (List FieldD)) {l : List FieldD} (h : rightF l = true) : foldP ⟨outs, []⟩ ((l.flatMap fLines).map ofL) = some ⟨outs, l⟩ := by
  obtain ⟨⟨_, h1⟩, h2, _⟩ := rightF_parts h
  have := fold_fields outs l h1 h2 l.length (Nat.le_refl _)
  rwa [List.take_length] at this
theorem lines_no {l : List FieldD} (h : rightF l = true) : ∀ x ∈ l.flatMap fLines, (10 : UInt8) ∉ x := by
  intro x hx
  obtain ⟨f, hf, hx⟩ := List.mem_flatMap.1 hx
  obtain ⟨j, hj, rfl⟩ := List.getElem_of_mem hf
  have h1 := (rightOne_parts ((rightF_parts h).2.1 j hj)).1
  have e : l.getD j default = l[j] := by simp [List.getD, List.getElem?_eq_getElem hj]
  rw [e] at h1
  exact fLines_no _ h1 x hx
theorem flushP_some {outs : List (List FieldD)} {l : List FieldD} (h : l ≠ []) : flushP ⟨outs, l⟩ = ⟨outs ++ [l], []⟩ := by unfold flushP; rw [if_neg h]
theorem right_ne {l : List FieldD} (h : rightF l = true) : l ≠ [] := by
  intro e
  have := (rightF_parts h).1.1
  rw [e] at this
  exact absurd this (by decide)
/-- What a stanza is written as is that stanza. -/
theorem parse_text {l : List FieldD} (h : rightF l = true) : parseS (ofL (textL l)) = some [l] := by
  have e : linesB (ofL (textL l)) = (l.flatMap fLines).map ofL ++ [⟨#[]⟩] := by
    unfold linesB
    rw [ofL_data, textL_lines]
    have := splitC_lines 10 (l.flatMap fLines) [] (lines_no h)
    rw [List.append_nil] at this
    rw [this, List.map_append]
    rfl
  unfold parseS
  rw [e, foldP_append]
  have := fold_text [] h
  show Option.map _ (Option.bind (foldP ⟨[], []⟩ _) _) = _
  rw [this]
  show Option.map _ (foldP ⟨[], l⟩ [⟨#[]⟩]) = _
  rw [foldP_one, step_empty, flushP_some (right_ne h)]
  rfl
def midL : List UInt8 := [35, 32, 114, 101, 109, 97, 114, 107, 58, 32, 120, 10, 32, 10, 10]
def bothL (a b : List FieldD) : List UInt8 := [10] ++ textL a ++ midL ++ textL b ++ [10]
/-- Of two, with empty lines and a remark between, each. -/
theorem parse_both {a b : List FieldD} (ha : rightF a = true) (hb : rightF b = true) : parseS (ofL (bothL a b)) = some [a, b] := by
  have e : linesB (ofL (bothL a b)) = [⟨#[]⟩] ++ ((a.flatMap fLines).map ofL ++ ([ofL [35, 32, 114, 101, 109, 97, 114, 107, 58, 32, 120], ofL [32], ⟨#[]⟩] ++ ((b.flatMap fLines).map ofL ++ [⟨#[]⟩, ⟨#[]⟩]))) := by
    unfold linesB
    rw [ofL_data]
    have e1 : bothL a b = ([[]] ++ (a.flatMap fLines ++ ([[35, 32, 114, 101, 109, 97, 114, 107, 58, 32, 120], [32], []] ++ (b.flatMap fLines ++ [[]])))).flatMap (· ++ [10]) ++ [] := by
      unfold bothL midL
      rw [textL_lines, textL_lines]
      simp
    rw [e1, splitC_lines]
    · simp [splitC, ofL]
    · intro x hx
      simp only [List.mem_append, List.mem_cons, List.not_mem_nil, or_false] at hx
      rcases hx with hx | hx | (hx | hx | hx) | hx | hx
      · rw [hx]; simp
      · exact lines_no ha x hx
      · rw [hx]; decide
      · rw [hx]; decide
      · rw [hx]; simp
      · exact lines_no hb x hx
      · rw [hx]; simp
  unfold parseS
  rw [e, foldP_append, foldP_one, step_empty]
  show Option.map _ (foldP PS.zero _) = _
  rw [foldP_append]
  have h1 := fold_text [] ha
  show Option.map _ (Option.bind (foldP ⟨[], []⟩ _) _) = _
  rw [h1]
  show Option.map _ (foldP ⟨[], a⟩ _) = _
  rw [foldP_append]
  have h2 : foldP ⟨[], a⟩ [ofL [35, 32, 114, 101, 109, 97, 114, 107, 58, 32, 120], ofL [32], ⟨#[]⟩] = some ⟨[a], []⟩ := by
    show (match stepP ⟨[], a⟩ (ofL [35, 32, 114, 101, 109, 97, 114, 107, 58, 32, 120]) with | none => none | some st' => foldP st' [ofL [32], ⟨#[]⟩]) = _
    rw [stepP_hash (by rfl)]
    show (match stepP ⟨[], a⟩ (ofL [32]) with | none => none | some st' => foldP st' [⟨#[]⟩]) = _
    rw [stepP_blank (by decide) (by rfl)]
    show foldP (flushP ⟨[], a⟩) [⟨#[]⟩] = _
    rw [flushP_some (right_ne ha), foldP_one, step_empty]
    rfl
  rw [h2]
  show Option.map _ (foldP ⟨[a], []⟩ _) = _
  rw [foldP_append, fold_text [a] hb]
  show Option.map _ (foldP ⟨[a], b⟩ [⟨#[]⟩, ⟨#[]⟩]) = _
  have h3 : foldP ⟨[a], b⟩ [⟨#[]⟩, ⟨#[]⟩] = some ⟨[a, b], []⟩ := by
    show (match stepP ⟨[a], b⟩ ⟨#[]⟩ with | none => none | some st' => foldP st' [⟨#[]⟩]) = _
    rw [step_empty, flushP_some (right_ne hb)]
    dsimp only
    rw [foldP_one, step_empty]
    rfl
  rw [h3]
  rfl
end Go.Proofs.YtpiobckemlkomaaDoor
