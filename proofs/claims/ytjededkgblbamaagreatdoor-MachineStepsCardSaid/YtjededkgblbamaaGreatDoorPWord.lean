/- Words of instructions, and the law MachineChecks. -/
import Derived.Test.YtjededkgblbamaaGreatDoorPMach
set_option linter.unusedVariables false
set_option linter.unusedSimpArgs false
set_option linter.unnecessarySimpa false
namespace Go.Proofs.YtjededkgblbamaaGreatDoor.Ev.F
open Go.Proofs.YtjededkgblbamaaGreatDoor.Ev

theorem or_nat {a b : Nat} (ha : a < 2 ^ 62) (hb : b < 2 ^ 62) : bits .or .i64 (a : Int) (b : Int) = ((a ||| b : Nat) : Int) := by
  rw [bits_eq]
  unfold bits0
  show IntKind.wrap .i64 (((BitVec.ofInt 64 (a : Int) ||| BitVec.ofInt 64 (b : Int)).toNat : Nat) : Int) = _
  rw [BitVec.toNat_or, BitVec.ofInt_natCast, BitVec.ofInt_natCast, BitVec.toNat_ofNat, BitVec.toNat_ofNat, Nat.mod_eq_of_lt (by omega), Nat.mod_eq_of_lt (by omega)]
  have := Nat.or_lt_two_pow ha hb
  exact wrap_i64 (by omega) (by omega)
theorem or_disj {v b k : Nat} (hb : b < 2 ^ k) (hk : k ≤ 16) (hv : v < 65536) : bits .or .i64 ((v * 2 ^ k : Nat) : Int) (b : Int) = ((v * 2 ^ k + b : Nat) : Int) := by
  have h1 : 2 ^ k ≤ 2 ^ 16 := Nat.pow_le_pow_right (by decide) hk
  have h2 : v * 2 ^ k ≤ v * 2 ^ 16 := Nat.mul_le_mul_left _ h1
  rw [or_nat (by omega) (by omega), Nat.mul_comm v, ← Nat.two_pow_add_eq_or_of_lt hb]
theorem shl_nat {v k : Nat} (hv : v < 65536) (hk : k ≤ 16) : shl .i64 (v : Int) (k : Int) = ((v * 2 ^ k : Nat) : Int) := by
  have h1 : 2 ^ k ≤ 2 ^ 16 := Nat.pow_le_pow_right (by decide) hk
  have h2 : v * 2 ^ k ≤ v * 2 ^ 16 := Nat.mul_le_mul_left _ h1
  have e : pw (k : Int) = ((2 ^ k : Nat) : Int) := by simp [pw]
  have h3 : (v : Int) * pw (k : Int) = ((v * 2 ^ k : Nat) : Int) := by rw [e, ← Int.natCast_mul]
  rw [shl_eq (by omega) (by rw [h3]; omega) (by rw [h3]; omega), h3]

theorem codeE_zero {op a b n : Int} (h : codeE op a b n = 0) : within op 0 9 = true ∧ within a 0 3 = true ∧ within b 0 3 = true ∧ within n 0 255 = true ∧ within n 0 (mostN op) = true ∧ strange op a b n = false := by
  unfold codeE at h
  split at h
  · rename_i h1
    split at h
    · rename_i h2
      simp only [Bool.and_eq_true] at h2
      split at h
      · cases h
      · rename_i h3
        refine ⟨h1, h2.1, h2.2.1, ?_, h2.2.2, by simpa using h3⟩
        have h4 := h2.2.2
        rw [within_iff] at h4 ⊢
        unfold mostN at h4
        split at h4 <;> omega
    · cases h
  · cases h
theorem pwordOf {op a b n : Int} (h : codeE op a b n = 0) : run_machine_wordOf (.start op a b n) = some ((wordE op a b n, ()), ()) := by
  obtain ⟨h1, h2, h3, h4, _, _⟩ := codeE_zero h
  rw [within_iff] at h1 h2 h3 h4
  obtain ⟨o, rfl⟩ := Int.eq_ofNat_of_zero_le h1.1
  obtain ⟨a, rfl⟩ := Int.eq_ofNat_of_zero_le h2.1
  obtain ⟨b, rfl⟩ := Int.eq_ofNat_of_zero_le h3.1
  obtain ⟨n, rfl⟩ := Int.eq_ofNat_of_zero_le h4.1
  rw [run_machine_wordOf, if_pos (show decide ((0 : Int) ≤ 12) = true from rfl), if_pos (show decide ((0 : Int) ≤ 10) = true from rfl), if_pos (show decide ((0 : Int) ≤ 8) = true from rfl)]
  have e1 : shl .i64 (o : Int) (12 : Int) = (((o * 4) * 2 ^ 10 : Nat) : Int) := by rw [show (12 : Int) = ((12 : Nat) : Int) from rfl, shl_nat (by omega) (by omega)]; omega
  have e2 : shl .i64 (a : Int) (10 : Int) = ((a * 2 ^ 10 : Nat) : Int) := by rw [show (10 : Int) = ((10 : Nat) : Int) from rfl, shl_nat (by omega) (by omega)]
  have e3 : shl .i64 (b : Int) (8 : Int) = ((b * 2 ^ 8 : Nat) : Int) := by rw [show (8 : Int) = ((8 : Nat) : Int) from rfl, shl_nat (by omega) (by omega)]
  rw [e1, e2, e3, show ((o * 4) * 2 ^ 10 : Nat) = (o * 2 ^ 12 : Nat) by omega, or_disj (k := 12) (by omega) (by omega) (by omega)]
  rw [show (o * 2 ^ 12 + a * 2 ^ 10 : Nat) = ((o * 4 + a) * 2 ^ 10 : Nat) by omega, or_disj (k := 10) (by omega) (by omega) (by omega)]
  rw [show ((o * 4 + a) * 2 ^ 10 + b * 2 ^ 8 : Nat) = ((o * 16 + a * 4 + b) * 2 ^ 8 : Nat) by omega, or_disj (k := 8) (by omega) (by omega) (by omega)]
  have e : (((o * 16 + a * 4 + b) * 2 ^ 8 + n : Nat) : Int) = wordE (o : Int) (a : Int) (b : Int) (n : Int) := by unfold wordE; omega
  rw [e]
theorem rword {op a b n : Int} (h : codeE op a b n = 0) : run_ratchetref31_Word (.start op a b n) = some ((wordE op a b n, ()), ()) := by
  obtain ⟨h1, h2, h3, h4, _, _⟩ := codeE_zero h
  rw [within_iff] at h1 h2 h3 h4
  simp only [run_ratchetref31_Word]
  rw [wrap_i64 (x := op * 4096) (by omega) (by omega), wrap_i64 (x := a * 1024) (by omega) (by omega), wrap_i64 (x := b * 256) (by omega) (by omega), wrap_i64 (x := op * 4096 + a * 1024) (by omega) (by omega), wrap_i64 (x := op * 4096 + a * 1024 + b * 256) (by omega) (by omega), wrap_i64 (by omega) (by omega)]
  rfl
theorem pWord (op a b n : Int) : run_machine_WordOf (.start op a b n) = some ((if codeE op a b n = 0 then wordE op a b n else 0, (codeE op a b n, ())), ()) := by
  simp only [run_machine_WordOf, pcode, some_bind']
  by_cases h : codeE op a b n = 0
  · simp [h, pwordOf h]
  · simp [h]

/-- the instruction with a word, or the error -/
def codeOf (w : Int) : (Int × Int × Int × Int) × Int :=
  if within w 0 65535 = true then (let c := (w / 4096, w / 1024 % 4, w / 256 % 4, w % 256); let e := codeE c.1 c.2.1 c.2.2.1 c.2.2.2; if e = 0 then (c, 0) else ((0, 0, 0, 0), e)) else ((0, 0, 0, 0), 2)
theorem pCode (w : Int) : run_machine_CodeOf (.start w) = some ((((codeOf w).1.1, ((codeOf w).1.2.1, ((codeOf w).1.2.2.1, ((codeOf w).1.2.2.2, ())))), ((codeOf w).2, ())), ()) := by
  simp only [run_machine_CodeOf, pwithin, some_bind']
  unfold codeOf
  cases h : within w 0 65535 with
  | false => simp
  | true =>
    have h' := within_iff.1 h
    have e1 : shr .i64 w 12 = w / 4096 := by rw [shr_eq (by omega)]; rfl
    have e2 : shr .i64 w 10 = w / 1024 := by rw [shr_eq (by omega)]; rfl
    have e3 : shr .i64 w 8 = w / 256 := by rw [shr_eq (by omega)]; rfl
    have m : ∀ x : Int, 0 ≤ x → x < 65536 → bits .and .i64 x 3 = x % 4 := fun x h0 h1 => and_mask (x := x) (w := 2) (by omega) (by omega) (by omega) (by omega)
    have m2 : bits .and .i64 w 255 = w % 256 := and_mask (x := w) (w := 8) (by omega) (by omega) (by omega) (by omega)
    simp only [Bool.not_true, Bool.false_eq_true, if_false, if_true, show decide ((0 : Int) ≤ 12) = true from rfl, show decide ((0 : Int) ≤ 10) = true from rfl, show decide ((0 : Int) ≤ 8) = true from rfl, e1, e2, e3, m2, m (w / 1024) (by omega) (by omega), m (w / 256) (by omega) (by omega), pcode, some_bind']
    by_cases hc : codeE (w / 4096) (w / 1024 % 4) (w / 256 % 4) (w % 256) = 0 <;> simp [hc]
theorem rCode (w : Int) : run_ratchetref31_Code (.start w) = some ((((codeOf w).1.1, ((codeOf w).1.2.1, ((codeOf w).1.2.2.1, ((codeOf w).1.2.2.2, ())))), ((codeOf w).2, ())), ()) := by
  simp only [run_ratchetref31_Code, rwithin, some_bind']
  unfold codeOf
  cases h : within w 0 65535 with
  | false => simp
  | true =>
    have h' := within_iff.1 h
    have d : ∀ k : Int, 0 < k → IntKind.wrap .i64 (Int.tdiv w k) = w / k := by
      intro k hk
      rw [Int.tdiv_eq_ediv_of_nonneg h'.1]
      have := Int.ediv_nonneg h'.1 (Int.le_of_lt hk)
      have := Int.ediv_le_self k h'.1
      exact wrap_i64 (by omega) (by omega)
    have t : ∀ x k : Int, 0 ≤ x → Int.tmod x k = x % k := fun x k hx => Int.tmod_eq_emod_of_nonneg hx
    simp only [Bool.not_true, Bool.false_eq_true, if_false, if_true, show (!((4096 : Int) == 0)) = true from rfl, show (!((1024 : Int) == 0)) = true from rfl, show (!((4 : Int) == 0)) = true from rfl, show (!((256 : Int) == 0)) = true from rfl,
      d 4096 (by omega), d 1024 (by omega), d 256 (by omega), t (w / 1024) 4 (by omega), t (w / 256) 4 (by omega), t w 256 (by omega), rcode, some_bind']
    by_cases hc : codeE (w / 4096) (w / 1024 % 4) (w / 256 % 4) (w % 256) = 0 <;> simp [hc]
theorem codeOf_word {op a b n : Int} (h : codeE op a b n = 0) : codeOf (wordE op a b n) = ((op, a, b, n), 0) := by
  obtain ⟨h1, h2, h3, h4, _, _⟩ := codeE_zero h
  rw [within_iff] at h1 h2 h3 h4
  have e0 : within (wordE op a b n) 0 65535 = true := by rw [within_iff]; unfold wordE; omega
  have e1 : wordE op a b n / 4096 = op := by unfold wordE; omega
  have e2 : wordE op a b n / 1024 % 4 = a := by unfold wordE; omega
  have e3 : wordE op a b n / 256 % 4 = b := by unfold wordE; omega
  have e4 : wordE op a b n % 256 = n := by unfold wordE; omega
  unfold codeOf
  simp only [e0, e1, e2, e3, e4, h, if_true]

theorem checks_true (l : List api_MachineCode) (op a b n w : Int) : run_ratchetlaw31_MachineChecks (.start l op a b n w) = some ((true, ()), ()) := by
  have h2047 : ∀ w9 f10 : Int, w9 = (if codeE op a b n = 0 then wordE op a b n else 0) → f10 = codeE op a b n → run_ratchetlaw31_MachineChecks (.p2047 w9 f10 op a b n) = some ((true, ()), ()) := by
    intro w9 f10 hw hf
    rw [run_ratchetlaw31_MachineChecks]
    simp only [rcode, some_bind']
    by_cases h : codeE op a b n = 0
    · rw [if_pos h] at hw
      subst hw hf
      simp only [h, pCode, codeOf_word h, rword h, some_bind']
      simp
    · rw [if_neg h] at hw
      subst hw hf
      simp [h]
  rw [run_ratchetlaw31_MachineChecks]
  simp only [some_bind', Bool.not_true, Bool.false_eq_true, if_false]
  by_cases hl : (List.length l : Int) > 20
  · simp [hl]
  · simp only [hl, decide_false, Bool.false_eq_true, if_false, rcopyP (show l.length ≤ 1000 by omega), some_bind', pprog, rprog, pWord, pCode]
    simp only [bne_self_eq_false, Bool.false_eq_true, if_false]
    rw [run_ratchetlaw31_MachineChecks]
    simp only [rCode, some_bind', bne_self_eq_false, Bool.false_eq_true, if_false, beq_self_eq_true, Bool.and_true, Bool.not_true]
    exact h2047 _ _ rfl rfl
end Go.Proofs.YtjededkgblbamaaGreatDoor.Ev.F
