/- StanzaBack: the walk. (Written by gen_stanw.py.) -/
import Derived.Test.YtpiobckemlkomaaDoorStanV
import Derived.Test.YtpiobckemlkomaaDoorStanL
namespace Go.Proofs.YtpiobckemlkomaaDoor
open Go.RowKit
set_option maxRecDepth 100000
set_option maxHeartbeats 4000000

def linedB : ByteArray := ⟨#[35, 32, 120, 10, 65, 58, 32, 98, 10, 32, 99, 10, 32, 46, 46, 100, 10, 10, 69, 58, 102, 10]⟩
theorem lined_parse : parseS linedB = some [[(⟨#[65]⟩, ⟨#[98, 10, 99, 10, 46, 100]⟩)], [(⟨#[69]⟩, ⟨#[102]⟩)]] := by kernel_rfl
/-- A row of two rows, each of one field. -/
theorem grps_two {w : World} {v : Value} {f g : FieldD} (h : Grps w v [[f], [g]]) : ∃ b o c b0 o0 c0 b1 o1 c1, v = .slice (some ⟨b, o, none⟩) 2 c ∧ 2 ≤ c ∧ c ≤ maxLen ∧ b < w.heap.size ∧ w.cell? ⟨b, o, none⟩ = some (.slice (some ⟨b0, o0, none⟩) 1 c0) ∧ w.cell? ⟨b, o + 1, none⟩ = some (.slice (some ⟨b1, o1, none⟩) 1 c1) ∧
    (b0 < w.heap.size ∧ w.cell? ⟨b0, o0, none⟩ = some (.string f.1) ∧ w.cell? ⟨b0, o0 + 1, none⟩ = some (.string f.2)) ∧ (b1 < w.heap.size ∧ w.cell? ⟨b1, o1, none⟩ = some (.string g.1) ∧ w.cell? ⟨b1, o1 + 1, none⟩ = some (.string g.2)) ∧ (1 ≤ c0 ∧ c0 ≤ maxLen) ∧ (1 ≤ c1 ∧ c1 ≤ maxLen) := by
  obtain ⟨V, ⟨a, c, rfl, h1, h2, h3⟩, hE⟩ := h
  obtain ⟨b, o, rfl, hb, hc⟩ := h3.resolve_left (by simp)
  obtain ⟨⟨a0, c0, e0, k1, k2, k3⟩, _⟩ := hE 0 (by simp)
  obtain ⟨⟨a1, c1, e1, m1, m2, m3⟩, _⟩ := hE 1 (by simp)
  obtain ⟨b0, o0, rfl, hb0, hc0⟩ := k3.resolve_left (by simp)
  obtain ⟨b1, o1, rfl, hb1, hc1⟩ := m3.resolve_left (by simp)
  refine ⟨b, o, c, b0, o0, c0, b1, o1, c1, rfl, h1, h2, hb, ?_, ?_, ⟨hb0, ?_, ?_⟩, ⟨hb1, ?_, ?_⟩, ⟨k1, k2⟩, m1, m2⟩
  · have h : w.cell? ⟨b, o + 0 * 1 + 0, none⟩ = some (V 0) := hc 0 0 (by simp) (by decide)
    rw [e0] at h
    exact h
  · have h : w.cell? ⟨b, o + 1 * 1 + 0, none⟩ = some (V 1) := hc 1 0 (by simp) (by decide)
    rw [e1] at h
    exact h
  · exact hc0 0 0 (by simp) (by decide)
  · exact hc0 0 1 (by simp) (by decide)
  · exact hc1 0 0 (by simp) (by decide)
  · exact hc1 0 1 (by simp) (by decide)
theorem lined_calls (w : World) (hm : MaxV w) : Calls Tryd.prog 21 #[] w fun e w' => e = .returned (.bool true) ∧ Below w.heap.size w w' := by
  have PC := Lib.hid (parse_calls linedB w (by decide) hm)
  unfold linedB at PC
  clear hm
  go_enter Tryd.func21, Tryd.ntmps21
  go_wp2_with fail
  refine PC.out.mono ?_
  rintro e1 w1 ⟨v, ev, rfl, hb, hr⟩
  have HB := Lib.hid hb
  have HG : Hid (Grps w1 v [[(⟨#[65]⟩, ⟨#[98, 10, 99, 10, 46, 100]⟩)], [(⟨#[69]⟩, ⟨#[102]⟩)]] ∧ ev = .nilIface) := by
    rcases hr with ⟨outs, h1, h2, h3⟩ | ⟨_, h1, _⟩
    · have h4 := lined_parse
      unfold linedB at h4
      rw [h4] at h1
      injection h1 with h1
      rw [← h1] at h2
      exact ⟨h2, h3⟩
    · have h4 := lined_parse
      unfold linedB at h4
      rw [h4] at h1
      cases h1
  obtain ⟨hg, rfl⟩ := HG.out
  obtain ⟨b, o, c, b0, o0, c0, b1, o1, c1, rfl, hc1, hc2, hbl, d0, d1, ⟨g0, g1, g2⟩, ⟨k0, k1, k2⟩, ⟨l1, l2⟩, l3, l4⟩ := grps_two hg
  unfold maxLen at hc2 l2 l4
  dsimp only at g1 g2 k1 k2
  clear hb hr PC HG hg
  go_wp2_with fail
  go_ret
  exact ⟨by simp, HB.out⟩

theorem stanzaBack_calls (va vb : Value) (a b : List FieldD) (s : ByteArray) (w : World) (hTa : FldsM w va a) (hTb : FldsM w vb b) (hs : s.size ≤ maxLen) (hm : MaxV w) :
    Calls Tryd.prog 5 #[va, vb, .string s] w fun e w' => e = .returned (.bool true) ∧ Below w.heap.size w w' := by
  unfold maxLen at hs
  have FA := Lib.hid (kfields_calls va a w hTa)
  have FB := Lib.hid (kfields_calls vb b w hTb)
  obtain ⟨aa, ca, rfl, hca, hma, -⟩ := hTa.1
  obtain ⟨ab, cb, rfl, hcb, hmb, -⟩ := hTb.1
  clear hca hma hcb hmb
  cases hfa : fieldsB a
  case' false =>
    rw [hfa] at FA
    clear hfa
    go_enter Tryd.func5, Tryd.ntmps5
    go_wp2_with fail
    refine FA.out.mono ?_
    rintro e0 w0 ⟨rfl, rfl⟩
    clear FA
    go_wp2_with fail
    go_ret
    exact ⟨rfl, Below.refl _ _⟩
  rw [hfa] at FA
  cases hfb : fieldsB b
  case' false =>
    rw [hfb] at FB
    clear hfa hfb
    go_enter Tryd.func5, Tryd.ntmps5
    go_wp2_with fail
    refine FA.out.mono ?_
    rintro e0 w0 ⟨rfl, hw0⟩
    obtain rfl : w = w0 := hw0
    clear FA
    go_wp2_with fail
    refine FB.out.mono ?_
    rintro e1 w1 ⟨rfl, rfl⟩
    clear FB
    go_wp2_with fail
    go_ret
    exact ⟨rfl, Below.refl _ _⟩
  rw [hfb] at FB
  obtain ⟨hFa, hla, -⟩ := fieldsB_yes hTa hfa
  obtain ⟨hFb, hlb, -⟩ := fieldsB_yes hTb hfb
  by_cases h1 : 1000 < s.size
  case' pos =>
    have q1 : decide ((1000 : Int) < s.size) = true := decide_eq_true (by omega)
    clear hfa hfb hFa hFb
    go_enter Tryd.func5, Tryd.ntmps5
    go_wp2_with fail
    refine FA.out.mono ?_
    rintro e0 w0 ⟨rfl, hw0⟩
    obtain rfl : w = w0 := hw0
    clear FA
    go_wp2_with fail
    refine FB.out.mono ?_
    rintro e1 w1 ⟨rfl, hw1⟩
    obtain rfl : w = w1 := hw1
    clear FB
    go_wp2_with fail
    go_ret
    exact ⟨rfl, Below.refl _ _⟩
  have q1 : decide ((1000 : Int) < s.size) = false := decide_eq_false (by omega)
  have hs1 : s.size ≤ 1000 := by omega
  have Hs1 := Lib.hid hs1
  have HFa := Lib.hid hFa
  have HFb := Lib.hid hFb
  have HMx := Lib.hid hm
  have HLab : Hid (a.length ≤ 60 ∧ b.length ≤ 60) := ⟨hla, hlb⟩
  have LN := Lib.hid (lined_calls w hm)
  obtain ⟨z, hz⟩ : ∃ z, w.heap.size = z := ⟨_, rfl⟩
  have Hz := Lib.hid hz
  have HMV : Hid (∀ w', Below z w w' → MaxV w') := fun w' hb => HMx.out.below hb (by rw [← Hz.out]; exact HMx.out.lt)
  have HZ : Hid (∀ w', Below z w w' → z ≤ w'.heap.size) := fun w' hb => by have := hb.size; rw [Hz.out] at this; exact this
  have HFA : Hid (∀ w', Below z w w' → Flds w' (.slice aa a.length ca) a) := fun w' hb => HFa.out.below hb (by rw [Hz.out]; exact Nat.le_refl _)
  have HFB : Hid (∀ w', Below z w w' → Flds w' (.slice ab b.length cb) b) := fun w' hb => HFb.out.below hb (by rw [Hz.out]; exact Nat.le_refl _)
  have PA : Hid (∀ w', Below z w w' → Calls Tryd.prog 12 #[.slice aa a.length ca] w' fun e w'' => e = .returned (if rightF a = true then .tuple #[.string (ofL (textL a)), .nilIface] else .tuple #[.string ⟨#[]⟩, .iface 23 (.int .i64 1)]) ∧ Below w'.heap.size w' w'') := fun w' hb => print_calls _ a w' (HFA.out w' hb) (HMV.out w' hb) HLab.out.1
  have PB : Hid (∀ w', Below z w w' → Calls Tryd.prog 12 #[.slice ab b.length cb] w' fun e w'' => e = .returned (if rightF b = true then .tuple #[.string (ofL (textL b)), .nilIface] else .tuple #[.string ⟨#[]⟩, .iface 23 (.int .i64 1)]) ∧ Below w'.heap.size w' w'') := fun w' hb => print_calls _ b w' (HFB.out w' hb) (HMV.out w' hb) HLab.out.2
  obtain ⟨Ra, hRa⟩ : ∃ Ra, rightF a = Ra := ⟨_, rfl⟩
  obtain ⟨Rb, hRb⟩ : ∃ Rb, rightF b = Rb := ⟨_, rfl⟩
  have HRa := Lib.hid hRa
  have HRb := Lib.hid hRb
  obtain ⟨Ta, hTa'⟩ : ∃ Ta, ofL (textL a) = Ta := ⟨_, rfl⟩
  obtain ⟨Tb, hTb'⟩ : ∃ Tb, ofL (textL b) = Tb := ⟨_, rfl⟩
  have HTa := Lib.hid hTa'
  have HTb := Lib.hid hTb'
  rw [hRa, hTa'] at PA
  rw [hRb, hTb'] at PB
  rw [hz] at LN ⊢
  clear hm hla hlb hfa hfb hFa hFb hTa hTb hz hRa hRb hTa' hTb' h1
  go_enter Tryd.func5, Tryd.ntmps5
  go_wp2_with fail
  refine FA.out.mono ?_
  rintro e0 w0 ⟨rfl, hw0⟩
  obtain rfl : w = w0 := hw0
  clear FA
  go_wp2_with fail
  refine FB.out.mono ?_
  rintro e1 w1 ⟨rfl, hw1⟩
  obtain rfl : w = w1 := hw1
  clear FB
  go_wp2_with fail
  refine LN.out.mono ?_
  rintro e2 w2 ⟨rfl, hb2⟩
  have HB2 := Lib.hid hb2
  clear hb2 LN
  go_wp2_with fail
  refine (PA.out w2 HB2.out).mono ?_
  rintro e3 w3 ⟨rfl, hb3⟩
  have HB3 : Hid (Below z w w3) := HB2.out.trans (hb3.mono (HZ.out _ HB2.out))
  clear hb3 PA HB2
  obtain ⟨ea, hea⟩ : ∃ ea, (if Ra = true then Value.tuple #[.string Ta, .nilIface] else .tuple #[.string ⟨#[]⟩, .iface 23 (.int .i64 1)]) = .tuple #[.string (if Ra = true then Ta else ⟨#[]⟩), ea] ∧ ea = (if Ra = true then .nilIface else .iface 23 (.int .i64 1)) := by
    cases Ra
    · exact ⟨_, rfl, rfl⟩
    · exact ⟨_, rfl, rfl⟩
  obtain ⟨eb, heb⟩ : ∃ eb, (if Rb = true then Value.tuple #[.string Tb, .nilIface] else .tuple #[.string ⟨#[]⟩, .iface 23 (.int .i64 1)]) = .tuple #[.string (if Rb = true then Tb else ⟨#[]⟩), eb] ∧ eb = (if Rb = true then .nilIface else .iface 23 (.int .i64 1)) := by
    cases Rb
    · exact ⟨_, rfl, rfl⟩
    · exact ⟨_, rfl, rfl⟩
  obtain ⟨hea1, hea2⟩ := hea
  obtain ⟨heb1, heb2⟩ := heb
  rw [hea1]
  rw [heb1] at PB
  obtain ⟨Xa, hXa⟩ : ∃ Xa, (if Ra = true then Ta else ⟨#[]⟩) = Xa := ⟨_, rfl⟩
  obtain ⟨Xb, hXb⟩ : ∃ Xb, (if Rb = true then Tb else ⟨#[]⟩) = Xb := ⟨_, rfl⟩
  rw [hXa]
  rw [hXb] at PB
  have HEA := Lib.hid (And.intro hea2 hXa)
  have HEB := Lib.hid (And.intro heb2 hXb)
  clear hea1 hea2 heb1 heb2 hXa hXb
  go_wp2_with fail
  refine (PB.out w3 HB3.out).mono ?_
  rintro e4 w4 ⟨rfl, hb4⟩
  have HB4 : Hid (Below z w w4) := HB3.out.trans (hb4.mono (HZ.out _ HB3.out))
  clear hb4 PB HB3
  go_upto_region 7 with fail
  go_cut [52] (fun v52 wx => v52 = .bool (Ra && Rb) ∧ wx = w4)
  case first =>
    have hA := HEA.out.1
    have hB := HEB.out.1
    cases Ra
    · rw [if_neg (by decide)] at hA
      subst hA
      go_wp2_with fail
      go_meet
      exact ⟨rfl, rfl⟩
    · rw [if_pos rfl] at hA
      subst hA
      cases Rb
      · rw [if_neg (by decide)] at hB
        subst hB
        go_wp2_with fail
        go_meet
        exact ⟨rfl, rfl⟩
      · rw [if_pos rfl] at hB
        subst hB
        go_wp2_with fail
        go_meet
        exact ⟨rfl, rfl⟩
  case rest =>
    obtain ⟨rfl, hwc⟩ := hcut
    obtain rfl : w4 = wc := hwc.symm
    go_upto_if 52 with fail
    go_cut [] (fun wx => Below z w wx)
    case first =>
      cases hR : (Ra && Rb)
      · go_wp2_with fail
        go_meet
        exact HB4.out
      · obtain ⟨hR1, hR2⟩ : Ra = true ∧ Rb = true := by simpa using hR
        have hA := HEA.out.2
        have hB := HEB.out.2
        rw [if_pos hR1] at hA
        rw [if_pos hR2] at hB
        have hra : rightF a = true := HRa.out.trans hR1
        have hrb : rightF b = true := HRb.out.trans hR2
        have hla := (rightF_parts hra).2.2
        have hlb := (rightF_parts hrb).2.2
        have hXas : Xa.size ≤ 4000 := by rw [← hA, ← HTa.out]; exact hla
        have hXbs : Xb.size ≤ 4000 := by rw [← hB, ← HTb.out]; exact hlb
        obtain ⟨S, hS⟩ : ∃ S, (⟨#[10]⟩ ++ Xa ++ ⟨#[35, 32, 114, 101, 109, 97, 114, 107, 58, 32, 120, 10, 32, 10, 10]⟩ ++ Xb ++ ⟨#[10]⟩ : ByteArray) = S := ⟨_, rfl⟩
        have hSe : S = ofL (bothL a b) := by
          rw [← hS]
          refine ofL_ext ?_
          rw [← hA, ← hB, ← HTa.out, ← HTb.out]
          simp [bothL, midL, ofL]
        have hSs : S.size ≤ 20000 := by
          rw [← hS]
          simp only [ByteArray.size_append]
          have e1 : (⟨#[10]⟩ : ByteArray).size = 1 := rfl
          have e2 : (⟨#[35, 32, 114, 101, 109, 97, 114, 107, 58, 32, 120, 10, 32, 10, 10]⟩ : ByteArray).size = 15 := rfl
          omega
        have PC := parse_calls S w4 hSs (HMV.out _ HB4.out)
        have HPS : Hid (parseS S = some [a, b]) := by show _ = _; rw [hSe]; exact parse_both hra hrb
        replace PC := Lib.hid PC
        have HS := Lib.hid hS
        clear hR hR1 hR2 hA hB hra hrb hla hlb hSe hSs
        go_wp2_with fail
        refine PC.out.mono ?_
        rintro e5 w5 ⟨v5, ev5, rfl, hb5, hr5⟩
        have HB5 : Hid (Below z w w5) := HB4.out.trans (hb5.mono (HZ.out _ HB4.out))
        have HG5 : Hid (Grps w5 v5 [a, b] ∧ ev5 = .nilIface) := by
          rcases hr5 with ⟨outs, k1, k2, k3⟩ | ⟨_, k1, _⟩
          · rw [HPS.out] at k1
            injection k1 with k1
            rw [← k1] at k2
            exact ⟨k2, k3⟩
          · rw [HPS.out] at k1
            cases k1
        obtain ⟨hg, rfl⟩ := HG5.out
        obtain ⟨V, ⟨ag, cg, rfl, hc1, hc2, hc3⟩, hE⟩ := hg
        obtain ⟨bg, og, rfl, hbg, hcg⟩ := hc3.resolve_left (show ¬ ([a, b] : List (List FieldD)).length = 0 by simp)
        have hlen2 : ([a, b] : List (List FieldD)).length = 2 := rfl
        rw [hlen2] at hc1 hcg hE ⊢
        unfold maxLen at hc2
        obtain ⟨x0, hx0⟩ : ∃ x0, V 0 = x0 := ⟨_, rfl⟩
        obtain ⟨x1, hx1⟩ : ∃ x1, V 1 = x1 := ⟨_, rfl⟩
        have d0 : w5.cell? ⟨bg, og, none⟩ = some x0 := by have h := hcg 0 0 (by decide) (by decide); dsimp only at h; rw [hx0] at h; exact h
        have d1 : w5.cell? ⟨bg, og + 1, none⟩ = some x1 := by have h := hcg 1 0 (by decide) (by decide); dsimp only at h; rw [hx1] at h; exact h
        have f0 : Flds w5 x0 a := by rw [← hx0]; exact hE 0 (by decide)
        have f1 : Flds w5 x1 b := by rw [← hx1]; exact hE 1 (by decide)
        have HD1 : Hid (∀ w', Below w5.heap.size w5 w' → w'.cell? ⟨bg, og + 1, none⟩ = some x1 ∧ Flds w' x1 b) := fun w' hb => ⟨(hb.cell (p := ⟨bg, og + 1, none⟩) hbg).trans d1, f1.below hb (Nat.le_refl _)⟩
        have SA := Lib.hid (ksame_calls x0 (.slice aa a.length ca) a w5 f0 (HFA.out w5 HB5.out))
        obtain ⟨y0, n0, c0, rfl⟩ : ∃ p n c, x0 = .slice p n c := by obtain ⟨⟨p, c, e, _⟩, _⟩ := f0; exact ⟨p, _, c, e⟩
        obtain ⟨y1, n1, c1, rfl⟩ : ∃ p n c, x1 = .slice p n c := by obtain ⟨⟨p, c, e, _⟩, _⟩ := f1; exact ⟨p, _, c, e⟩
        clear hb5 hr5 PC HG5 hcg hE hx0 hx1 d1 f0 f1 hc3
        go_wp2_with fail
        refine SA.out.mono ?_
        rintro e6 w6 ⟨rfl, hb6⟩
        have HB6 : Hid (Below z w w6) := HB5.out.trans (hb6.mono (HZ.out _ HB5.out))
        obtain ⟨d1, f1⟩ := HD1.out w6 hb6
        have SB := Lib.hid (ksame_calls _ (.slice ab b.length cb) b w6 f1 (HFB.out w6 HB6.out))
        have hbg6 : bg < w6.heap.size := Nat.lt_of_lt_of_le hbg hb6.size
        clear hb6 SA f1 d0 HD1 hbg
        go_wp2_with fail
        refine SB.out.mono ?_
        rintro e7 w7 ⟨rfl, hb7⟩
        have HB7 : Hid (Below z w w7) := HB6.out.trans (hb7.mono (HZ.out _ HB6.out))
        clear hb7 SB
        go_wp2_with fail
        go_meet
        exact HB7.out
    case rest =>
      have HBc := Lib.hid hcut
      clear hcut HB4 HEA HEB HRa HRb HTa HTb HFA HFB HFa HFb HLab
      have PC := Lib.hid (parse_calls s wc (by omega) (HMV.out _ HBc.out))
      go_wp2_with fail
      refine PC.out.mono ?_
      rintro e5 w5 ⟨v5, ev5, rfl, hb5, hr5⟩
      have HB5 : Hid (Below z w w5) := HBc.out.trans (hb5.mono (HZ.out _ HBc.out))
      clear hb5 PC
      rcases hr5 with ⟨outs, hps, hg, rfl⟩ | ⟨rfl, _, i, r, _, rfl, _⟩
      case' inr =>
        go_wp2_with fail
        go_ret
        exact ⟨rfl, HB5.out⟩
      have HRT := Lib.hid (parsed_right Hs1.out hps)
      obtain ⟨V, ⟨ag, cg, rfl, hc1, hc2, hc3⟩, hE⟩ := hg
      unfold maxLen at hc2
      obtain ⟨n, hn⟩ : ∃ n, outs.length = n := ⟨_, rfl⟩
      rw [hn] at hc1 hc3 hE ⊢
      have HC3 := Lib.hid hc3
      have HEV := Lib.hid hE
      have Hn := Lib.hid hn
      clear hc3 hE hn hps
      go_wp2_with fail
      go_loopg [15] n (fun k vk wr => ∃ i : Nat, vk = .int .i64 i ∧ i ≤ n ∧ k = n - i ∧ Below w5.heap.size w5 wr)
      case atStart => exact ⟨0, rfl, Nat.zero_le _, rfl, Below.refl _ _⟩
      case round =>
        obtain ⟨i, rfl, hi, hk, hB⟩ := hrel
        have Hk := Lib.hid hk
        have HB := Lib.hid hB
        clear hk hB
        have HBZ : Hid (∀ w', Below w5.heap.size w5 w' → Below z w w') := fun w' hb => HB5.out.trans (hb.mono (HZ.out _ HB5.out))
        by_cases hlt : i < n
        case' neg =>
          go_wp2_with fail
          go_ret
          exact ⟨rfl, HBZ.out _ HB.out⟩
        obtain ⟨bg, og, rfl, hbg, hcg⟩ := HC3.out.resolve_left (by omega)
        obtain ⟨l, hl⟩ : ∃ l, outs.getD i [] = l := ⟨_, rfl⟩
        have hr : rightF l = true := by
          rw [← hl]
          refine HRT.out _ ?_
          have hi' : i < outs.length := by rw [Hn.out]; exact hlt
          rw [List.getD_eq_getElem?_getD, List.getElem?_eq_getElem hi']
          exact List.getElem_mem hi'
        have HR := Lib.hid hr
        obtain ⟨xi, hxi⟩ : ∃ xi, V i = xi := ⟨_, rfl⟩
        have HXI : Hid (∀ w', Below w5.heap.size w5 w' → w'.cell? ⟨bg, og + i, none⟩ = some xi ∧ Flds w' xi l) := fun w' hb => by
          refine ⟨(hb.cell (p := ⟨bg, og + i, none⟩) hbg).trans ?_, ?_⟩
          · have h := hcg i 0 hlt (by decide)
            rw [hxi] at h
            simpa using h
          · have h := (HEV.out i hlt).below hb (Nat.le_refl _)
            rw [hl, hxi] at h
            exact h
        obtain ⟨pl, pc, rfl⟩ : ∃ p c, xi = .slice p l.length c := by
          obtain ⟨⟨p, c, e, _⟩, _⟩ := (HXI.out w5 (Below.refl _ _)).2
          exact ⟨p, c, e⟩
        have HLN : Hid (l.length ≤ 40 ∧ (textL l).length ≤ 4000) := ⟨(rightF_parts hr).1.2, (rightF_parts hr).2.2⟩
        have PR : Hid (∀ w', Below w5.heap.size w5 w' → Calls Tryd.prog 12 #[.slice pl l.length pc] w' fun e w'' => e = .returned (.tuple #[.string (ofL (textL l)), .nilIface]) ∧ Below w'.heap.size w' w'') := fun w' hb => by
          have h := print_calls _ l w' (HXI.out w' hb).2 (HMV.out _ (HBZ.out _ hb)) (by have := HLN.out.1; omega)
          rw [if_pos HR.out] at h
          exact h
        have PT : Hid (∀ w', Below w5.heap.size w5 w' → Calls Tryd.prog 7 #[.string (ofL (textL l))] w' fun e w'' => ∃ b2 o2 c2 y, e = .returned (.tuple #[.slice (some ⟨b2, o2, none⟩) 1 c2, .nilIface]) ∧ Below w'.heap.size w' w'' ∧ b2 < w''.heap.size ∧ 1 ≤ c2 ∧ c2 ≤ maxLen ∧ w''.cell? ⟨b2, o2, none⟩ = some y ∧ Flds w'' y l) := fun w' hb => by
          refine (parse_calls (ofL (textL l)) w' (by have := HLN.out.2; rw [ofL_size']; omega) (HMV.out _ (HBZ.out _ hb))).mono ?_
          rintro e w'' ⟨v, ev, rfl, hb', hr'⟩
          rcases hr' with ⟨o', k1, k2, rfl⟩ | ⟨_, k1, _⟩
          · rw [parse_text HR.out] at k1
            injection k1 with k1
            rw [← k1] at k2
            obtain ⟨V2, ⟨a2, c2, rfl, m1, m2, m3⟩, m4⟩ := k2
            obtain ⟨b2, o2, rfl, hb2, hc2⟩ := m3.resolve_left (by simp)
            exact ⟨b2, o2, c2, V2 0, rfl, hb', hb2, m1, m2, hc2 0 0 (by simp) (by decide), m4 0 (by simp)⟩
          · rw [parse_text HR.out] at k1
            cases k1
        obtain ⟨T, hT⟩ : ∃ T, ofL (textL l) = T := ⟨_, rfl⟩
        rw [hT] at PR PT
        obtain ⟨dxi, _⟩ := HXI.out wr HB.out
        have hbr : bg < wr.heap.size := Nat.lt_of_lt_of_le hbg HB.out.size
        clear hcg hl hr hxi hT
        go_wp2_with fail
        refine (PR.out wr HB.out).mono ?_
        rintro e6 w6 ⟨rfl, hb6⟩
        have HB6 : Hid (Below w5.heap.size w5 w6) := HB.out.trans (hb6.mono HB.out.size)
        clear hb6 dxi hbr
        go_wp2_with fail
        refine (PT.out w6 HB6.out).mono ?_
        rintro e7 w7 ⟨b2, o2, c2, y, rfl, hb7, hb2l, hc2a, hc2b, hyc, hyF⟩
        have HB7 : Hid (Below w5.heap.size w5 w7) := HB6.out.trans (hb7.mono HB6.out.size)
        unfold maxLen at hc2b
        obtain ⟨yp, yc, rfl⟩ : ∃ p c, y = .slice p l.length c := by
          obtain ⟨⟨p, c, e, _⟩, _⟩ := hyF
          exact ⟨p, c, e⟩
        have HKP : Hid (∀ w', Below w7.heap.size w7 w' → Below w7.heap.size w7 w' ∧ w'.cell? ⟨bg, og + i, none⟩ = some (.slice pl l.length pc) ∧ w'.cell? ⟨b2, o2, none⟩ = some (.slice yp l.length yc)) := fun w' hb => ⟨hb, (HXI.out w' (HB7.out.trans (hb.mono HB7.out.size))).1, (hb.cell (p := ⟨b2, o2, none⟩) hb2l).trans hyc⟩
        have h0 := HKP.out w7 (Below.refl _ _)
        have h0d := HKP.out w7.drew (Below.refl _ _).drew
        have SF : Hid (∀ w', Below w7.heap.size w7 w' → Calls Tryd.prog 22 #[.slice yp l.length yc, .slice pl l.length pc] w' fun e w'' => e = .returned (.bool true) ∧ Below w'.heap.size w' w'') := fun w' hb => ksame_calls _ _ l w' (hyF.below hb (Nat.le_refl _)) (HXI.out w' (HB7.out.trans (hb.mono HB7.out.size))).2
        clear hb7 hyc hyF PR PT
        go_upto_region 21 with fail
        go_cut [134] (fun v134 wx => v134 = .bool false ∧ Below w7.heap.size w7 wx)
        case first =>
          go_region_held3 (fun w' => Below w7.heap.size w7 w' ∧ w'.cell? ⟨bg, og + i, none⟩ = some (.slice pl l.length pc) ∧ w'.cell? ⟨b2, o2, none⟩ = some (.slice yp l.length yc)) (first | exact h0 | exact h0d | assumption | exact HKP.out _ hbz)
            (first
              | (go_at_call 22; refine (SF.out _ (And.left (by assumption))).mono ?_; rintro e w' ⟨rfl, hbz0⟩; have hbz := (And.left (by assumption : Below w7.heap.size w7 _ ∧ _)).trans (hbz0.mono (And.left (by assumption : Below w7.heap.size w7 _ ∧ _)).size)))
          all_goals go_wp2_with fail
          all_goals go_meet
          all_goals exact ⟨rfl, And.left (by assumption : Below w7.heap.size w7 _ ∧ _)⟩
        case rest =>
          obtain ⟨rfl, hb8⟩ := hcut
          have HB8 : Hid (Below w5.heap.size w5 wc) := HB7.out.trans (hb8.mono HB7.out.size)
          clear hb8 HKP h0 h0d SF hb2l
          go_wp2_with fail
          obtain ⟨w8, rfl⟩ : ∃ w8, w8 = wc := ⟨_, rfl⟩
          go_loopg [19] l.length (fun k vk wr => ∃ j : Nat, vk = .int .i64 j ∧ j ≤ l.length ∧ k = l.length - j ∧ Below w5.heap.size w5 wr)
          case atStart => exact ⟨0, rfl, Nat.zero_le _, rfl, HB8.out⟩
          case round =>
            obtain ⟨j, rfl, hj, hkj, hBj⟩ := hrel
            have Hkj := Lib.hid hkj
            have HBj := Lib.hid hBj
            clear hkj hBj
            have hl40 : l.length ≤ 40 := HLN.out.1
            obtain ⟨dxi, hfx⟩ := HXI.out wr HBj.out
            have hbr : bg < wr.heap.size := Nat.lt_of_lt_of_le hbg HBj.out.size
            have HFX := Lib.hid hfx
            clear hfx
            by_cases hjl : j < l.length
            case' neg =>
              obtain rfl : j = l.length := by omega
              go_wp2_with fail
              go_roundg (n - (i + 1))
              case rel => exact ⟨i + 1, by go_num, by omega, rfl, HBj.out⟩
              case measure => have := Hk.out; omega
            obtain ⟨⟨p9, c9, e9, m9, M9, h9⟩, hsz9⟩ := HFX.out
            obtain ⟨rfl, rfl⟩ : pl = p9 ∧ pc = c9 := by cases e9; exact ⟨rfl, rfl⟩
            obtain ⟨bf, of_, rfl, hbf, hcf⟩ := h9.resolve_left (by omega)
            unfold maxLen at M9
            obtain ⟨t, ht⟩ : ∃ t, l.getD j default = t := ⟨_, rfl⟩
            have hnm : nameS t.1 = true := by rw [← ht]; exact (rightOne_parts ((rightF_parts HR.out).2.1 j hjl)).1
            have hge : getF l (upB t.1) = (t.2, true) := by rw [← ht]; exact get_up HR.out hjl
            have hszt : SzF t := by rw [← ht]; exact SzF.at_ hsz9 j
            obtain ⟨x, y⟩ := t
            dsimp only at hnm hge
            obtain ⟨U, hU⟩ : ∃ U, upB x = U := ⟨_, rfl⟩
            have hUs : U.size ≤ 100000 := by rw [← hU, upB_size]; exact hszt.1
            have UC : Hid (∀ w', Calls Tryd.prog 23 #[.string x] w' fun e w'' => e = .returned (.string U) ∧ Below w'.heap.size w' w'') := fun w' => by
              rw [← hU]
              exact Tryd.strings_ToUpper_ascii x w' (by have := hszt.1; dsimp only at this; omega) (fun q c hc => name_ascii hnm c (List.mem_of_getElem? hc))
            rw [hU] at hge
            have GC : Hid (∀ w', Below wr.heap.size wr w' → Calls Tryd.prog 14 #[.slice (some ⟨bf, of_, none⟩) l.length pc, .string U] w' fun e w'' => e = .returned (.tuple #[.string y, .bool true]) ∧ Below w'.heap.size w' w'') := fun w' hb => by
              have h := get_calls _ l U w' (HFX.out.below hb (Nat.le_refl _)) hUs
              rw [hge] at h
              exact h
            have HKP : Hid (∀ w', Below wr.heap.size wr w' → Below wr.heap.size wr w' ∧ w'.cell? ⟨bg, og + i, none⟩ = some (.slice (some ⟨bf, of_, none⟩) l.length pc) ∧ w'.cell? ⟨bf, of_ + j * 2, none⟩ = some (.string x)) := fun w' hb => ⟨hb, (HXI.out w' (HBj.out.trans (hb.mono HBj.out.size))).1, (hb.cell (p := ⟨bf, of_ + j * 2, none⟩) hbf).trans (by have := hcf j 0 hjl (by decide); dsimp only at this; rw [ht] at this; exact this)⟩
            have HKV : Hid (∀ w', Below wr.heap.size wr w' → w'.cell? ⟨bg, og + i, none⟩ = some (.slice (some ⟨bf, of_, none⟩) l.length pc) ∧ w'.cell? ⟨bf, of_ + j * 2 + 1, none⟩ = some (.string y) ∧ bf < w'.heap.size ∧ bg < w'.heap.size) := fun w' hb => ⟨(HXI.out w' (HBj.out.trans (hb.mono HBj.out.size))).1, (hb.cell (p := ⟨bf, of_ + j * 2 + 1, none⟩) hbf).trans (by have := hcf j 1 hjl (by decide); dsimp only at this; rw [ht] at this; exact this), Nat.lt_of_lt_of_le hbf hb.size, Nat.lt_of_lt_of_le hbr hb.size⟩
            have h0 := HKP.out wr (Below.refl _ _)
            have h0d := HKP.out wr.drew (Below.refl _ _).drew
            have tY : (y.toList == y.toList) = true := by simp
            have tY2 : (y.toList != y.toList) = false := by simp
            clear hcf ht hnm hge hszt hU e9 h9 hsz9
            go_upto_region 26 with fail
            go_cut [20, 21] (fun v20 v21 wx => v20 = .string y ∧ v21 = .bool true ∧ Below wr.heap.size wr wx)
            case first =>
              go_region_held3 (fun w' => Below wr.heap.size wr w' ∧ w'.cell? ⟨bg, og + i, none⟩ = some (.slice (some ⟨bf, of_, none⟩) l.length pc) ∧ w'.cell? ⟨bf, of_ + j * 2, none⟩ = some (.string x)) (first | exact h0 | exact h0d | assumption | exact HKP.out _ hbz)
                (first
                  | (go_at_call 23; refine (UC.out _).mono ?_; rintro e w' ⟨rfl, hbz0⟩; have hbz := (And.left (by assumption : Below wr.heap.size wr _ ∧ _)).trans (hbz0.mono (And.left (by assumption : Below wr.heap.size wr _ ∧ _)).size))
                  | (go_at_call 14; refine (GC.out _ (And.left (by assumption))).mono ?_; rintro e w' ⟨rfl, hbz0⟩; have hbz := (And.left (by assumption : Below wr.heap.size wr _ ∧ _)).trans (hbz0.mono (And.left (by assumption : Below wr.heap.size wr _ ∧ _)).size)))
              all_goals go_wp2_with fail
              all_goals go_meet
              all_goals exact ⟨rfl, rfl, And.left (by assumption : Below wr.heap.size wr _ ∧ _)⟩
            case rest =>
              obtain ⟨rfl, rfl, hb9⟩ := hcut
              obtain ⟨e0, e1, e2, e3⟩ := HKV.out wc hb9
              have HB9 : Hid (Below w5.heap.size w5 wc) := HBj.out.trans (hb9.mono HBj.out.size)
              clear hb9 h0 h0d dxi HKP HKV UC GC
              go_wp2_with fail
              go_roundg (l.length - (j + 1))
              case rel => exact ⟨j + 1, by go_num, by omega, rfl, HB9.out⟩
              case measure => have := Hkj.out; omega
end Go.Proofs.YtpiobckemlkomaaDoor
