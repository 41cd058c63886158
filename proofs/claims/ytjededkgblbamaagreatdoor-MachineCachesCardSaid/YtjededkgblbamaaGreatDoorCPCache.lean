/- Chapter 31: which states of two caches are coherent; the law of caches. -/
import Derived.Test.YtjededkgblbamaaGreatDoorCPC2
import Derived.Test.YtjededkgblbamaaGreatDoorCPCw
import Derived.Test.YtjededkgblbamaaGreatDoorCPVal
set_option linter.unusedVariables false
set_option linter.unusedSimpArgs false
set_option linter.unnecessarySimpa false
namespace Go.Proofs.YtjededkgblbamaaGreatDoor.Ev.F
open Go.Proofs.YtjededkgblbamaaGreatDoor.Ev

theorem kA0 : run_machine_kindAt (.start 0) = some ((1, ()), ()) := by kernel_rfl
theorem kA1 : run_machine_kindAt (.start 1) = some ((3, ()), ()) := by kernel_rfl
theorem lA0 : run_machine_lineAt (.start 0) = some ((2, ()), ()) := by kernel_rfl
theorem lA1 : run_machine_lineAt (.start 1) = some ((4, ()), ()) := by kernel_rfl
theorem ix0 {α : Type} (a b c d e : α) : idx [a, b, c, d, e] 0 = some a := rfl
theorem ix1 {α : Type} (a b c d e : α) : idx [a, b, c, d, e] 1 = some b := rfl
theorem ix2 {α : Type} (a b c d e : α) : idx [a, b, c, d, e] 2 = some c := rfl
theorem ix3 {α : Type} (a b c d e : α) : idx [a, b, c, d, e] 3 = some d := rfl
theorem ix4 {α : Type} (a b c d e : α) : idx [a, b, c, d, e] 4 = some e := rfl

def cCoh (m k0 l0 k1 l1 : Int) : Bool := ((decide (k0 ≤ 2) && (decide (k1 ≤ 2) && decide (k0 + k1 ≤ 2))) && (k0 != 1 || l0 == m)) && (k1 != 1 || l1 == m)
theorem w1 : IntKind.wrap .i64 ((0 : Int) + 1) = 1 := by kernel_rfl
theorem w2 : IntKind.wrap .i64 ((1 : Int) + 1) = 2 := by kernel_rfl
theorem coh0 (m k0 l0 k1 l1 : Int) (c : Bool) : run_machine_IsCoherent (.p1012 [m, k0, l0, k1, l1] c 0) = run_machine_IsCoherent (.p1012 [m, k0, l0, k1, l1] (c && (k0 != 1 || l0 == m)) 1) := by
  conv => lhs; rw [run_machine_IsCoherent]
  rw [if_pos (by decide)]
  cases c with
  | false => rw [if_neg (by decide), w1]; rfl
  | true =>
    rw [if_pos rfl, kA0]
    simp only [some_bind', ix1]
    by_cases h : k0 = 1
    · subst h
      rw [if_neg (by decide), lA0]
      simp only [some_bind', ix2, ix0, w1]
      rfl
    · rw [if_pos (by simpa using h), w1, show (true && (k0 != 1 || l0 == m)) = true by simp [h]]
theorem coh1 (m k0 l0 k1 l1 : Int) (c : Bool) : run_machine_IsCoherent (.p1012 [m, k0, l0, k1, l1] c 1) = some ((c && (k1 != 1 || l1 == m), ((0 : Int), ())), ()) := by
  have fin : ∀ c, run_machine_IsCoherent (.p1012 [m, k0, l0, k1, l1] c 2) = some ((c, ((0 : Int), ())), ()) := fun c => by
    rw [run_machine_IsCoherent, if_neg (by decide)]
  rw [run_machine_IsCoherent]
  rw [if_pos (by decide)]
  cases c with
  | false => rw [if_neg (by decide), w2, fin]; rfl
  | true =>
    rw [if_pos rfl, kA1]
    simp only [some_bind', ix3]
    by_cases h : k1 = 1
    · subst h
      rw [if_neg (by decide), lA1]
      simp only [some_bind', ix4, ix0, w2, fin]
      rfl
    · rw [if_pos (by simpa using h), w2, fin]
      simp [h]
theorem pw1 : pw 1 = 2 := rfl
theorem pw2 : pw 2 = 4 := rfl
theorem pw3 : pw 3 = 8 := rfl
theorem fit5 {w m k0 l0 k1 l1 : Int} (h : allfit [m, k0, l0, k1, l1] [w, 2, w, 2, w] = true) : (0 ≤ m ∧ m < pw w) ∧ (0 ≤ k0 ∧ k0 ≤ 3) ∧ (0 ≤ l0 ∧ l0 < pw w) ∧ (0 ≤ k1 ∧ k1 ≤ 3) ∧ (0 ≤ l1 ∧ l1 < pw w) := by
  simp only [allfit, Bool.and_eq_true, vwithin_iff, Bool.and_true, pw2] at h
  omega
theorem pcoh {w m k0 l0 k1 l1 : Int} (h1 : 1 ≤ w) (h2 : w ≤ 3) (hf : allfit [m, k0, l0, k1, l1] [w, 2, w, 2, w] = true) : run_machine_IsCoherent (.start w [m, k0, l0, k1, l1]) = some ((cCoh m k0 l0 k1 l1, ((0 : Int), ())), ()) := by
  have hl : run_machine_lineErr (.start w) = some ((0, ()), ()) := by
    rw [run_machine_lineErr, pvwithin]
    simp only [some_bind', pvunless, vwithin_iff.2 ⟨h1, h2⟩, if_true]
  have hv : run_machine_valuesErr (.start [m, k0, l0, k1, l1] [w, 2, w, 2, w]) = some ((0, ()), ()) := by
    rw [pvals (by simp) (by intro x hx; simp at hx; omega)]
    simp [hf]
  have fin : ∀ c, run_machine_IsCoherent (.p63 [m, k0, l0, k1, l1] c) = some (((c && (k0 != 1 || l0 == m)) && (k1 != 1 || l1 == m), ((0 : Int), ())), ()) := fun c => by
    rw [run_machine_IsCoherent, coh0, coh1]
  obtain ⟨_, hk0, _, hk1, _⟩ := fit5 hf
  rw [run_machine_IsCoherent, hl]
  simp only [some_bind', hv, bne_self_eq_false, Bool.false_eq_true, if_false, kA0, kA1, ix1, ix3, fin]
  rw [wrap_i64 (by omega) (by omega)]
  unfold cCoh
  by_cases a : k0 ≤ 2 <;> by_cases b : k1 ≤ 2 <;> simp [a, b]

theorem rcoh {w m k0 l0 k1 l1 : Int} (hk0 : 0 ≤ k0 ∧ k0 ≤ 3) (hk1 : 0 ≤ k1 ∧ k1 ≤ 3) : run_ratchetref31_IsCoherent (.start [m, k0, l0, k1, l1]) = some ((cCoh m k0 l0 k1 l1, ()), ()) := by
  have fin : run_ratchetref31_IsCoherent (.p7 [m, k0, l0, k1, l1]) = some (((k0 != 1 || l0 == m) && (k1 != 1 || l1 == m), ()), ()) := by
    rw [run_ratchetref31_IsCoherent]
    simp only [some_bind', ix0, ix1, ix2, ix3, ix4]
    by_cases a : k0 = 1 <;> by_cases b : k1 = 1 <;> by_cases c : l0 = m <;> simp [a, b, c]
  rw [run_ratchetref31_IsCoherent]
  simp only [some_bind', ix0, ix1, ix2, ix3, ix4, fin]
  clear fin
  unfold cCoh
  have a : k0 = 0 ∨ k0 = 1 ∨ k0 = 2 ∨ k0 = 3 := by omega
  have b : k1 = 0 ∨ k1 = 1 ∨ k1 = 2 ∨ k1 = 3 := by omega
  rcases a with rfl | rfl | rfl | rfl <;> rcases b with rfl | rfl | rfl | rfl <;> simp

/-- the error of a width and a state -/
def cErr (w : Int) (s : List Int) : Int := if vwithin w 1 3 = true then (if s.length = 5 then (if allfit s [w, 2, w, 2, w] = true then 0 else 2) else 10) else 2
theorem rwidth (w : Int) : run_ratchetref31_WidthErr (.start w) = some ((if vwithin w 1 3 = true then 0 else 2, ()), ()) := by
  rw [run_ratchetref31_WidthErr, rvwithin]
  cases h : vwithin w 1 3 <;> simp
theorem rerr (w : Int) (s : List Int) (hn : s.length ≤ 1000) : run_ratchetref31_CacheErr (.start w s) = some ((cErr w s, ()), ()) := by
  rw [run_ratchetref31_CacheErr, rwidth]
  simp only [some_bind']
  unfold cErr
  cases h : vwithin w 1 3 with
  | false => simp
  | true =>
    have hw := vwithin_iff.1 h
    simp only [if_true, bne_self_eq_false, Bool.false_eq_true, if_false]
    by_cases hl : s.length = 5
    · rw [rvals (by simpa using hl) hn (by intro x hx; simp at hx; omega)]
      simp only [some_bind', hl, List.length_cons, List.length_nil]
      cases h2 : allfit s [w, 2, w, 2, w] <;> simp
    · have : ((s.length : Int) != (List.length [w, 2, w, 2, w] : Int)) = true := by simp; omega
      simp only [this, if_true, if_neg hl]
theorem perr (w : Int) (s : List Int) (hn : s.length ≤ 1000) (h : cErr w s ≠ 0) : run_machine_IsCoherent (.start w s) = some ((false, (cErr w s, ())), ()) := by
  rw [run_machine_IsCoherent, run_machine_lineErr, pvwithin]
  simp only [some_bind', pvunless]
  unfold cErr at h ⊢
  cases h1 : vwithin w 1 3 with
  | false => simp
  | true =>
    have hw := vwithin_iff.1 h1
    rw [h1] at h
    simp only [if_true, bne_self_eq_false, Bool.false_eq_true, if_false] at h ⊢
    rw [pvals hn (by intro x hx; simp at hx; omega)]
    simp only [some_bind', List.length_cons, List.length_nil]
    by_cases hl : s.length = 5
    · simp only [hl] at h ⊢
      cases h2 : allfit s [w, 2, w, 2, w] with
      | false => simp
      | true => simp [h2] at h
    · simp [hl]
theorem five {s : List Int} (h : s.length = 5) : ∃ a b c d e, s = [a, b, c, d, e] := by
  match s, h with
  | [a, b, c, d, e], _ => exact ⟨a, b, c, d, e, rfl⟩
theorem rmod {n : Int} (h0 : -9223372036854775808 ≤ n) (h1 : n ≤ 9223372036854775807) : run_ratchetbase_Mod (.start n 12) = some ((n % 12, ()), ()) := by
  rw [run_ratchetbase_Mod]
  have e := Int.emod_add_mul_ediv n 12
  have e2 := Int.tmod_add_mul_tdiv n 12
  have b1 : 0 ≤ n % 12 := Int.emod_nonneg _ (by decide)
  have b2 : n % 12 < 12 := Int.emod_lt_of_pos _ (by decide)
  simp only [show (!((12 : Int) == 0)) = true from rfl, if_true]
  by_cases hn : 0 ≤ n
  · rw [Int.tmod_eq_emod_of_nonneg hn]
    have : ¬ n % 12 < 0 := by omega
    simp [this]
  · have ht : Int.tmod n 12 = -((-n) % 12) := by
      rw [← Int.tmod_eq_emod_of_nonneg (show 0 ≤ -n by omega), Int.neg_tmod, Int.neg_neg]
    by_cases hz : Int.tmod n 12 < 0
    · simp only [show decide (Int.tmod n 12 < 0) = true by simpa using hz, if_true]
      rw [wrap_i64 (by omega) (by omega)]
      have : Int.tmod n 12 + 12 = n % 12 := by omega
      rw [this]
    · simp only [show decide (Int.tmod n 12 < 0) = false by simpa using hz, Bool.false_eq_true, if_false]
      have : Int.tmod n 12 = n % 12 := by omega
      rw [this]
theorem ints_at {l : List Int} (hn : l.length ≤ 1000) : ∀ (k i : Nat), i + k = l.length → run_ratchetbase_Ints (.p116 l l (i : Int)) = some ((true, ()), ())
 | 0, i, h => by
   rw [run_ratchetbase_Ints]
   simp [show ¬ i < l.length by omega]
 | k + 1, i, h => by
   have hi : i < l.length := by omega
   rw [run_ratchetbase_Ints]
   simp only [show (decide ((i : Int) < (List.length l : Int))) = true by simpa using hi, if_true, idx_nat, List.getElem?_eq_getElem hi, some_bind', bne_self_eq_false, Bool.false_eq_true, if_false]
   rw [vwrap_succ hi (by omega)]
   exact ints_at hn k (i + 1) (by omega)
theorem ints_self {l : List Int} (hn : l.length ≤ 1000) : run_ratchetbase_Ints (.start l l) = some ((true, ()), ()) := by
  rw [run_ratchetbase_Ints]
  simp only [bne_self_eq_false, Bool.false_eq_true, if_false]
  exact ints_at hn l.length 0 (by omega)
theorem cNx_len (p m k0 l0 k1 l1 r : Int) : (cNx p m k0 l0 k1 l1 r).length = 5 := by
  unfold cNx
  repeat' split
  all_goals rfl

/-- what is known of a design -/
structure CD (w : Int) : Prop where
  made : run_machine_CachesOf (.start w) = some (cDes w)
  good : run_ratchetbase_IsDesign (.start cName [] (cEls w) (cNodes w) cRules [] []) = some ((true, ()), ())
  reset : run_ratchetbase_Resets (.start cName [] (cEls w) (cNodes w) cRules [] []) = some (((), ()), ([0, 0, 0, 0, 0], ()))
  els : (cEls w).length = 5
  walk : ∀ s rule c, run_ratchetlaw31_MachineCaches (.p2047 w s rule c cNames cName (cEls w) (cNodes w) cRules) = run_ratchetlaw31_MachineCaches (.p65524 w s rule c 12 cName (cEls w) (cNodes w) cRules)
  step : ∀ (m l0 l1 : Int) {k0 k1 r : Int}, 0 ≤ k0 → k0 ≤ 3 → 0 ≤ k1 → k1 ≤ 3 → 0 ≤ r → r ≤ 11 → cSt w (pw w) k0 k1 r m l0 l1
theorem cd1 : CD 1 := ⟨runF_machine_CachesOf_le 100 _ _ caches1, runF_ratchetbase_IsDesign_le 300 _ _ design1, runF_ratchetbase_Resets_le 300 _ _ resets1, rfl, walk1, fun m l0 l1 => cStep1 m l0 l1⟩
theorem cd2 : CD 2 := ⟨runF_machine_CachesOf_le 100 _ _ caches2, runF_ratchetbase_IsDesign_le 300 _ _ design2, runF_ratchetbase_Resets_le 300 _ _ resets2, rfl, walk2, fun m l0 l1 => cStep2 m l0 l1⟩
theorem cd3 : CD 3 := ⟨runF_machine_CachesOf_le 100 _ _ caches3, runF_ratchetbase_IsDesign_le 300 _ _ design3, runF_ratchetbase_Resets_le 300 _ _ resets3, rfl, walk3, fun m l0 l1 => cStep3 m l0 l1⟩
theorem cd {w : Int} (h : vwithin w 1 3 = true) : CD w := by
  have hw := vwithin_iff.1 h
  have : w = 1 ∨ w = 2 ∨ w = 3 := by omega
  rcases this with rfl | rfl | rfl
  · exact cd1
  · exact cd2
  · exact cd3

theorem caches_law (w : Int) (s : List Int) (rule : Int) (hr : (Lit.int .i64 rule).wf = true) : run_ratchetlaw31_MachineCaches (.start w s rule) = some ((true, ()), ()) := by
  have hr := lit_i64.1 hr
  rw [run_ratchetlaw31_MachineCaches]
  simp only [some_bind', Bool.not_true, Bool.false_eq_true, if_false]
  by_cases hn : s.length ≤ 8
  rotate_left
  · have : decide ((List.length s : Int) > 8) = true := by simp; omega
    simp only [this, if_true]
  have hn1 : s.length ≤ 1000 := by omega
  have h8 : decide ((List.length s : Int) > 8) = false := by simp; omega
  have hcopy : run_ratchetbase_CopyInts (.start s) = some (((), ()), (s, ())) := by
    rw [run_ratchetbase_CopyInts]
    have : fits (List.length ([] : List Int)) s.length 8 = true := Nat.ble_eq_true_of_le (by simp; omega)
    rw [if_pos this]
    rfl
  simp only [h8, Bool.false_eq_true, if_false, hcopy, some_bind', rerr w s hn1]
  -- the second half
  have second : ∀ c, c = cErr w s → run_ratchetlaw31_MachineCaches (.p127 w s rule c) = some ((true, ()), ()) := by
    intro c hc
    rw [run_ratchetlaw31_MachineCaches, rwidth]
    cases hw : vwithin w 1 3 with
    | false =>
      have hm : run_machine_CachesOf (.start w) = some ((((⟨#[]⟩ : ByteArray), ((), ([], ([], ([], ((), ((), ()))))))), (2, ())), ()) := by
        rw [run_machine_CachesOf, run_machine_lineErr, pvwithin, hw]
        simp only [some_bind', pvunless, Bool.false_eq_true, if_false]
        rfl
      simp only [hm, some_bind', Bool.false_eq_true, if_false]
      simp only [show ((2 : Int) != 0) = true from rfl, if_true, show ((2 : Int) == 2) = true from rfl, runF_ratchetbase_SameDesign_le 300 _ _ same0, some_bind']
    | true =>
      have D := cd hw
      simp only [D.made, cDes, some_bind', if_true, bne_self_eq_false, Bool.false_eq_true, if_false, D.good, Bool.not_true]
      have e1 : seq cName (⟨#[99, 97, 99, 104, 101, 115]⟩ : ByteArray) = true := by kernel_rfl
      have e2 : decide ((IntKind.wrap .i64 ((IntKind.wrap .i64 ((0 : Int) + (0 : Int))) + (0 : Int))) > (0 : Int)) = false := by kernel_rfl
      have e3 : ((List.length (cEls w) : Int) != 5) = false := by rw [D.els]; rfl
      have e4 : ((List.length cRules : Int) != 12) = false := by kernel_rfl
      simp only [e1, e2, e3, e4, Bool.not_true, Bool.false_eq_true, if_false]
      refine (D.walk s rule c).trans ?_
      rw [run_ratchetlaw31_MachineCaches.eq_6]
      simp only [show decide ((12 : Int) < 12) = false from rfl, Bool.false_eq_true, if_false]
      by_cases h0 : c = 0
      rotate_left
      · have : (c != 0) = true := by simpa using h0
        simp only [this, if_true]
      subst h0
      simp only [bne_self_eq_false, Bool.false_eq_true, if_false, rmod hr.1 hr.2, some_bind']
      -- the state
      unfold cErr at hc
      rw [hw] at hc
      simp only [if_true] at hc
      by_cases hl : s.length = 5
      rotate_left
      · rw [if_neg hl] at hc; cases hc
      rw [if_pos hl] at hc
      cases hf : allfit s [w, 2, w, 2, w] with
      | false => rw [hf] at hc; cases hc
      | true =>
        obtain ⟨m, k0, l0, k1, l1, rfl⟩ := five hl
        obtain ⟨_, hk0, _, hk1, _⟩ := fit5 hf
        have b1 : 0 ≤ rule % 12 := Int.emod_nonneg _ (by decide)
        have b2 : rule % 12 < 12 := Int.emod_lt_of_pos _ (by decide)
        obtain ⟨s1, s2, s3⟩ := D.step m l0 l1 hk0.1 hk0.2 hk1.1 hk1.2 b1 (by omega)
        have s1 := runF_ratchetbase_Enabled_le 300 _ _ s1
        have s2 := runF_ratchetref31_CacheRule_le 300 _ _ s2
        simp only [s1, s2, some_bind', beq_self_eq_true, Bool.not_true, Bool.false_eq_true, if_false]
        cases he : cEn k0 k1 (rule % 12) with
        | false => simp
        | true =>
          have s3 := runF_ratchetbase_Happened_le 300 _ _ (s3 he)
          simp only [Bool.not_true, Bool.false_eq_true, if_false, s3, some_bind', ints_self (show (cNx (pw w) m k0 l0 k1 l1 (rule % 12)).length ≤ 1000 by rw [cNx_len]; omega)]
  by_cases h0 : cErr w s = 0
  · have hc := h0
    unfold cErr at hc
    cases hw : vwithin w 1 3 with
    | false => rw [hw] at hc; cases hc
    | true =>
      rw [hw] at hc
      simp only [if_true] at hc
      by_cases hl : s.length = 5
      rotate_left
      · rw [if_neg hl] at hc; cases hc
      rw [if_pos hl] at hc
      cases hf : allfit s [w, 2, w, 2, w] with
      | false => rw [hf] at hc; cases hc
      | true =>
        obtain ⟨m, k0, l0, k1, l1, rfl⟩ := five hl
        obtain ⟨_, hk0, _, hk1, _⟩ := fit5 hf
        have hww := vwithin_iff.1 hw
        simp only [pcoh hww.1 hww.2 hf, some_bind', h0, bne_self_eq_false, Bool.false_eq_true, if_false, beq_self_eq_true, if_true, rcoh (m := m) (l0 := l0) (l1 := l1) (w := w) hk0 hk1, Bool.not_true]
        exact second 0 h0.symm
  · have e1 : (cErr w s != 0) = true := by simpa using h0
    have e2 : (cErr w s == 0) = false := by simpa using h0
    simp only [perr w s hn1 h0, some_bind', e1, if_true, bne_self_eq_false, Bool.false_eq_true, if_false, e2]
    exact second _ rfl
end Go.Proofs.YtjededkgblbamaaGreatDoor.Ev.F
