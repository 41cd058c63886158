/- Chapter 31: two caches have one value: the law. -/
import Derived.Test.YtjededkgblbamaaGreatDoorCPCache
set_option linter.unusedVariables false
set_option linter.unusedSimpArgs false
set_option linter.unnecessarySimpa false
namespace Go.Proofs.YtjededkgblbamaaGreatDoor.Ev.F
open Go.Proofs.YtjededkgblbamaaGreatDoor.Ev

/-- one value -/
structure One (w last m k0 l0 k1 l1 : Int) : Prop where
  fit : allfit [m, k0, l0, k1, l1] [w, 2, w, 2, w] = true
  coh : cCoh m k0 l0 k1 l1 = true
  a : k0 ≠ 0 → l0 = last
  b : k1 ≠ 0 → l1 = last
  c : k0 ≠ 2 → k1 ≠ 2 → m = last
/-- the last value after a rule -/
def cLast (last l0 l1 r : Int) : Int := if r = 2 then l0 else if r = 8 then l1 else last

theorem coh_iff {m k0 l0 k1 l1 : Int} : cCoh m k0 l0 k1 l1 = true ↔ (k0 ≤ 2 ∧ k1 ≤ 2 ∧ k0 + k1 ≤ 2) ∧ (k0 = 1 → l0 = m) ∧ (k1 = 1 → l1 = m) := by
  unfold cCoh
  simp only [Bool.and_eq_true, decide_eq_true_eq, Bool.or_eq_true, bne_iff_ne, ne_eq, beq_iff_eq]
  constructor
  · rintro ⟨⟨h1, h2⟩, h3⟩
    refine ⟨h1, fun h => ?_, fun h => ?_⟩
    · rcases h2 with h2 | h2
      · exact absurd h h2
      · exact h2
    · rcases h3 with h3 | h3
      · exact absurd h h3
      · exact h3
  · rintro ⟨h1, h2, h3⟩
    refine ⟨⟨h1, ?_⟩, ?_⟩
    · by_cases h : k0 = 1
      · exact .inr (h2 h)
      · exact .inl h
    · by_cases h : k1 = 1
      · exact .inr (h3 h)
      · exact .inl h
theorem fit_iff {w m k0 l0 k1 l1 : Int} : allfit [m, k0, l0, k1, l1] [w, 2, w, 2, w] = true ↔ (0 ≤ m ∧ m < pw w) ∧ (0 ≤ k0 ∧ k0 ≤ 3) ∧ (0 ≤ l0 ∧ l0 < pw w) ∧ (0 ≤ k1 ∧ k1 ≤ 3) ∧ (0 ≤ l1 ∧ l1 < pw w) := by
  constructor
  · exact fit5
  · intro h
    simp only [allfit, Bool.and_eq_true, vwithin_iff, Bool.and_true, pw2]
    omega

theorem next_val {w x : Int} (hw : w ≤ 32) (h0 : 0 ≤ x) (h1 : x < pw w) : 0 ≤ Int.tmod (IntKind.wrap .i64 (x + 1)) (pw w) ∧ Int.tmod (IntKind.wrap .i64 (x + 1)) (pw w) < pw w := by
  have hp := pw_pos w
  have := pw_32 hw
  rw [wrap_i64 (by omega) (by omega), Int.tmod_eq_emod_of_nonneg (by omega)]
  exact ⟨Int.emod_nonneg _ (by omega), Int.emod_lt_of_pos _ hp⟩

/-- a rule keeps one value -/
theorem One.next {w last m k0 l0 k1 l1 r : Int} (hw : w ≤ 32) (h : One w last m k0 l0 k1 l1) (hr0 : 0 ≤ r) (hr1 : r ≤ 11) (he : cEn k0 k1 r = true) :
    ∃ m' k0' l0' k1' l1', cNx (pw w) m k0 l0 k1 l1 r = [m', k0', l0', k1', l1'] ∧ One w (cLast last l0' l1' r) m' k0' l0' k1' l1' := by
  obtain ⟨hf, hc, ha, hb, hd⟩ := h
  have hf := fit_iff.1 hf
  have hc := coh_iff.1 hc
  have n0 := next_val hw hf.2.2.1.1 hf.2.2.1.2
  have n1 := next_val hw hf.2.2.2.2.1 hf.2.2.2.2.2
  have hp := pw_pos w
  generalize hx0 : Int.tmod (IntKind.wrap .i64 (l0 + 1)) (pw w) = x0 at n0
  generalize hx1 : Int.tmod (IntKind.wrap .i64 (l1 + 1)) (pw w) = x1 at n1
  have : r = 0 ∨ r = 1 ∨ r = 2 ∨ r = 3 ∨ r = 4 ∨ r = 5 ∨ r = 6 ∨ r = 7 ∨ r = 8 ∨ r = 9 ∨ r = 10 ∨ r = 11 := by omega
  have mk : ∀ {m' k0' l0' k1' l1' : Int}, cNx (pw w) m k0 l0 k1 l1 r = [m', k0', l0', k1', l1'] → ((0 ≤ m' ∧ m' < pw w) ∧ (0 ≤ k0' ∧ k0' ≤ 3) ∧ (0 ≤ l0' ∧ l0' < pw w) ∧ (0 ≤ k1' ∧ k1' ≤ 3) ∧ (0 ≤ l1' ∧ l1' < pw w)) → ((k0' ≤ 2 ∧ k1' ≤ 2 ∧ k0' + k1' ≤ 2) ∧ (k0' = 1 → l0' = m') ∧ (k1' = 1 → l1' = m')) → (k0' ≠ 0 → l0' = cLast last l0' l1' r) → (k1' ≠ 0 → l1' = cLast last l0' l1' r) → (k0' ≠ 2 → k1' ≠ 2 → m' = cLast last l0' l1' r) →
      ∃ m' k0' l0' k1' l1', cNx (pw w) m k0 l0 k1 l1 r = [m', k0', l0', k1', l1'] ∧ One w (cLast last l0' l1' r) m' k0' l0' k1' l1' :=
    fun e a b c d f => ⟨_, _, _, _, _, e, fit_iff.2 a, coh_iff.2 b, c, d, f⟩
  rcases this with rfl | rfl | rfl | rfl | rfl | rfl | rfl | rfl | rfl | rfl | rfl | rfl <;> simp [cEn] at he
  · exact mk rfl (by omega) (by omega) (by simp [cLast]; omega) (by simp [cLast]; omega) (by simp [cLast]; omega)
  · by_cases h0 : k0 = 0
    · refine mk (l0' := m) (by simp [cNx, h0]; exact ⟨rfl, rfl, rfl, rfl⟩) (by omega) (by omega) (by simp [cLast]; omega) (by simp [cLast]; omega) (by simp [cLast])
    · refine mk (l0' := l0) (by simp [cNx, h0]; exact ⟨rfl, rfl, rfl, rfl⟩) (by omega) (by omega) (by simp [cLast]; omega) (by simp [cLast]; omega) (by simp [cLast])
  · exact mk (by simp [cNx, hx0]; exact ⟨rfl, rfl, rfl, rfl, rfl⟩) (by omega) (by omega) (by simp [cLast]) (by simp [cLast]; omega) (by simp [cLast]; omega)
  · exact mk rfl (by omega) (by omega) (by simp [cLast]) (by simp [cLast]; omega) (by simp [cLast]; omega)
  · exact mk rfl (by omega) (by omega) (by simp [cLast]; omega) (by simp [cLast]; omega) (by simp [cLast]; omega)
  · exact mk rfl (by omega) (by omega) (by simp [cLast]) (by simp [cLast]; omega) (by simp [cLast])
  · exact mk rfl (by omega) (by omega) (by simp [cLast]; omega) (by simp [cLast]; omega) (by simp [cLast]; omega)
  · by_cases h0 : k1 = 0
    · refine mk (l1' := m) (by simp [cNx, h0]; exact ⟨rfl, rfl, rfl, rfl⟩) (by omega) (by omega) (by simp [cLast]; omega) (by simp [cLast]; omega) (by simp [cLast])
    · refine mk (l1' := l1) (by simp [cNx, h0]; exact ⟨rfl, rfl, rfl, rfl⟩) (by omega) (by omega) (by simp [cLast]; omega) (by simp [cLast]; omega) (by simp [cLast])
  · exact mk (by simp [cNx, hx1]; exact ⟨rfl, rfl, rfl, rfl, rfl⟩) (by omega) (by omega) (by simp [cLast]; omega) (by simp [cLast]) (by simp [cLast]; omega)
  · exact mk rfl (by omega) (by omega) (by simp [cLast]; omega) (by simp [cLast]) (by simp [cLast]; omega)
  · exact mk rfl (by omega) (by omega) (by simp [cLast]; omega) (by simp [cLast]; omega) (by simp [cLast]; omega)
  · exact mk rfl (by omega) (by omega) (by simp [cLast]; omega) (by simp [cLast]) (by simp [cLast])

theorem lw (x : Int) (h0 : 0 ≤ x) (h1 : x ≤ 10) : IntKind.wrap .i64 (1 + IntKind.wrap .i64 (2 * x)) = 1 + 2 * x ∧ IntKind.wrap .i64 (2 + IntKind.wrap .i64 (2 * x)) = 2 + 2 * x := by
  rw [wrap_i64 (x := 2 * x) (by omega) (by omega), wrap_i64 (by omega) (by omega), wrap_i64 (by omega) (by omega)]
  exact ⟨rfl, rfl⟩
section
variable {w : Int} {rules : List Int} {last i : Int} {D0 : ByteArray} {D1 : List api_Element} {D2 : List api_Node} {D3 : List api_Rule} {m k0 l0 k1 l1 : Int}
/-- what is asked of the cores -/
theorem cores (h : One w last m k0 l0 k1 l1) : run_ratchetlaw31_MachineCoherent (.p4182655 w rules last i D0 D1 D2 D3 [m, k0, l0, k1, l1]) = run_ratchetlaw31_MachineCoherent (.p4084 w rules last (IntKind.wrap .i64 (i + 1)) D0 D1 D2 D3 [m, k0, l0, k1, l1]) := by
  have fin : run_ratchetlaw31_MachineCoherent (.p66922484 w rules last i 2 D0 D1 D2 D3 [m, k0, l0, k1, l1]) = run_ratchetlaw31_MachineCoherent (.p4084 w rules last (IntKind.wrap .i64 (i + 1)) D0 D1 D2 D3 [m, k0, l0, k1, l1]) := by
    conv => lhs; rw [run_ratchetlaw31_MachineCoherent.eq_8]
    simp only [show decide ((2 : Int) < 2) = false from rfl, Bool.false_eq_true, if_false, ix0, ix1, ix3, some_bind', List.length_cons, List.length_nil]
    have e1 : (decide ((0 : Int) ≤ 1) && decide ((1 : Int) < ((0 + 1 + 1 + 1 + 1 + 1 : Nat) : Int))) = true := by decide
    have e3 : (decide ((0 : Int) ≤ 3) && decide ((3 : Int) < ((0 + 1 + 1 + 1 + 1 + 1 : Nat) : Int))) = true := by decide
    have e0 : (decide ((0 : Int) ≤ 0) && decide ((0 : Int) < ((0 + 1 + 1 + 1 + 1 + 1 : Nat) : Int))) = true := by decide
    rw [if_pos e1]
    by_cases a : k0 = 2
    · rw [if_neg (by simpa using a)]
    · rw [if_pos (by simpa using a), if_pos e3]
      by_cases b : k1 = 2
      · rw [if_neg (by simpa using b)]
      · rw [if_pos (by simpa using b), if_pos e0, if_neg (by simpa using h.c a b)]
  have one : run_ratchetlaw31_MachineCoherent (.p66922484 w rules last i 1 D0 D1 D2 D3 [m, k0, l0, k1, l1]) = run_ratchetlaw31_MachineCoherent (.p66922484 w rules last i 2 D0 D1 D2 D3 [m, k0, l0, k1, l1]) := by
    conv => lhs; rw [run_ratchetlaw31_MachineCoherent.eq_8]
    have e1 : IntKind.wrap .i64 (1 + IntKind.wrap .i64 (2 * 1)) = 3 := by kernel_rfl
    have e2 : IntKind.wrap .i64 (2 + IntKind.wrap .i64 (2 * 1)) = 4 := by kernel_rfl
    simp only [show decide ((1 : Int) < 2) = true from rfl, if_true, e1, e2, ix3, ix4, some_bind', List.length_cons, List.length_nil, w2]
    rw [if_pos (by decide)]
    by_cases a : k1 = 0
    · rw [if_neg (by simpa using a)]
    · rw [if_pos (by simpa using a), if_pos (by decide), if_neg (by simpa using h.b a)]
  rw [run_ratchetlaw31_MachineCoherent.eq_7]
  conv => lhs; rw [run_ratchetlaw31_MachineCoherent.eq_8]
  have e1 : IntKind.wrap .i64 (1 + IntKind.wrap .i64 (2 * 0)) = 1 := by kernel_rfl
  have e2 : IntKind.wrap .i64 (2 + IntKind.wrap .i64 (2 * 0)) = 2 := by kernel_rfl
  simp only [show decide ((0 : Int) < 2) = true from rfl, if_true, e1, e2, ix1, ix2, some_bind', List.length_cons, List.length_nil, w1]
  rw [if_pos (by decide)]
  by_cases a : k0 = 0
  · rw [if_neg (by simpa using a), one, fin]
  · rw [if_pos (by simpa using a), if_pos (by decide), if_neg (by simpa using h.a a), one, fin]
/-- the last value -/
theorem lastw {r : Int} (hr0 : 0 ≤ r) (hr1 : r ≤ 11) : run_ratchetlaw31_MachineCoherent (.p2091327 w rules last i r D0 D1 D2 D3 [m, k0, l0, k1, l1]) = run_ratchetlaw31_MachineCoherent (.p4182655 w rules (cLast last l0 l1 r) i D0 D1 D2 D3 [m, k0, l0, k1, l1]) := by
  have : r = 0 ∨ r = 1 ∨ r = 2 ∨ r = 3 ∨ r = 4 ∨ r = 5 ∨ r = 6 ∨ r = 7 ∨ r = 8 ∨ r = 9 ∨ r = 10 ∨ r = 11 := by omega
  rw [run_ratchetlaw31_MachineCoherent.eq_6]
  rcases this with rfl | rfl | rfl | rfl | rfl | rfl | rfl | rfl | rfl | rfl | rfl | rfl <;> (refine Eq.trans ?_ (Eq.refl _); kernel_rfl)
theorem loop {w : Int} (hw : vwithin w 1 3 = true) {rules : List Int} (hl : rules.length ≤ 40) (hwf : ∀ x ∈ rules, (Lit.int .i64 x).wf = true) : ∀ (k i : Nat) (last m k0 l0 k1 l1 : Int), i + k = rules.length → One w last m k0 l0 k1 l1 →
    run_ratchetlaw31_MachineCoherent (.p4084 w rules last (i : Int) cName (cEls w) (cNodes w) cRules [m, k0, l0, k1, l1]) = some ((true, ()), ())
 | 0, i, last, m, k0, l0, k1, l1, h, ho => by
   rw [run_ratchetlaw31_MachineCoherent.eq_4]
   simp [show ¬ i < rules.length by omega]
 | k + 1, i, last, m, k0, l0, k1, l1, h, ho => by
   have hi : i < rules.length := by omega
   have D := cd hw
   have hww := vwithin_iff.1 hw
   have hr := lit_i64.1 (hwf _ (List.getElem_mem hi))
   have b1 : 0 ≤ rules[i] % 12 := Int.emod_nonneg _ (by decide)
   have b2 : rules[i] % 12 < 12 := Int.emod_lt_of_pos _ (by decide)
   obtain ⟨_, hk0, _, hk1, _⟩ := fit5 ho.fit
   obtain ⟨s1, s2, s3⟩ := D.step m l0 l1 hk0.1 hk0.2 hk1.1 hk1.2 b1 (by omega)
   have s1 := runF_ratchetbase_Enabled_le 300 _ _ s1
   rw [run_ratchetlaw31_MachineCoherent.eq_4]
   simp only [show (decide ((i : Int) < (List.length rules : Int))) = true by simpa using hi, if_true, idx_nat, List.getElem?_eq_getElem hi, some_bind', rmod hr.1 hr.2, s1]
   rw [vwrap_succ hi (by omega)]
   cases he : cEn k0 k1 (rules[i] % 12) with
   | false =>
     simp only [Bool.not_false, if_true]
     exact loop hw hl hwf k (i + 1) last m k0 l0 k1 l1 (by omega) ho
   | true =>
     have s3 := runF_ratchetbase_Happened_le 300 _ _ (s3 he)
     obtain ⟨m', k0', l0', k1', l1', e, ho'⟩ := ho.next (by omega) b1 (by omega) he
     rw [e] at s3
     obtain ⟨_, hk0', _, hk1', _⟩ := fit5 ho'.fit
     have hce : cErr w [m', k0', l0', k1', l1'] = 0 := by
       unfold cErr
       simp only [hw, ho'.fit, if_true, List.length_cons, List.length_nil]
     simp only [Bool.not_true, Bool.false_eq_true, if_false, s3, some_bind', rerr w [m', k0', l0', k1', l1'] (by simp), hce, bne_self_eq_false, rcoh (w := w) (m := m') (l0 := l0') (l1 := l1') hk0' hk1', ho'.coh]
     rw [run_ratchetlaw31_MachineCoherent.eq_5]
     have hcopy : run_ratchetbase_CopyInts (.start [m', k0', l0', k1', l1']) = some (((), ()), ([m', k0', l0', k1', l1'], ())) := by
       rw [run_ratchetbase_CopyInts]
       rfl
     simp only [hcopy, some_bind', pcoh hww.1 hww.2 ho'.fit, ho'.coh, bne_self_eq_false, Bool.false_eq_true, if_false, Bool.not_true]
     rw [lastw b1 (by omega), cores ho', vwrap_succ hi (by omega)]
     exact loop hw hl hwf k (i + 1) _ m' k0' l0' k1' l1' (by omega) ho'
end
theorem coherent_law (w : Int) (rules : List Int) (hwf : ∀ x ∈ rules, (Lit.int .i64 x).wf = true) : run_ratchetlaw31_MachineCoherent (.start w rules) = some ((true, ()), ()) := by
  rw [run_ratchetlaw31_MachineCoherent]
  simp only [some_bind', Bool.not_true, Bool.false_eq_true, if_false, rwidth]
  cases hw : vwithin w 1 3 with
  | false => simp
  | true =>
    simp only [if_true, bne_self_eq_false, Bool.false_eq_true, if_false]
    by_cases hl : rules.length ≤ 40
    rotate_left
    · have : decide ((List.length rules : Int) > 40) = true := by simp; omega
      simp only [this, if_true]
    have h8 : decide ((List.length rules : Int) > 40) = false := by simp; omega
    have D := cd hw
    have hww := vwithin_iff.1 hw
    have e3 : ((List.length (cEls w) : Int) != 5) = false := by rw [D.els]; rfl
    have e4 : ((List.length cRules : Int) != 12) = false := by kernel_rfl
    simp only [h8, Bool.false_eq_true, if_false]
    rw [run_ratchetlaw31_MachineCoherent.eq_2]
    simp only [D.made, cDes, some_bind', bne_self_eq_false, Bool.false_eq_true, if_false, D.good, Bool.not_true, e3, e4, show decide ((0 : Int) > 0) = false from rfl]
    rw [run_ratchetlaw31_MachineCoherent.eq_3]
    simp only [D.reset, some_bind']
    have hp : 0 < pw w := pw_pos w
    exact loop hw hl hwf rules.length 0 0 0 0 0 0 0 (by omega) ⟨fit_iff.2 (by omega), coh_iff.2 (by omega), fun _ => rfl, fun _ => rfl, fun _ _ => rfl⟩
theorem coherent_law2 (w : Int) (rules : List Int) {n : Nat} (h : rules.length ≤ n ∧ ∀ x ∈ rules, (Lit.int .i64 x).wf = true) : run_ratchetlaw31_MachineCoherent (.start w rules) = some ((true, ()), ()) := coherent_law w rules h.2
end Go.Proofs.YtjededkgblbamaaGreatDoor.Ev.F
