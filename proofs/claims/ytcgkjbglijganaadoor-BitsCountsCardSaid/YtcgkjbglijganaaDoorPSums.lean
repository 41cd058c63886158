/- Sums and differences. -/
import Derived.Test.YtcgkjbglijganaaDoorPBits
set_option linter.unusedVariables false
set_option linter.unusedSimpArgs false
namespace Go.Proofs.YtcgkjbglijganaaDoor.Ev.F
open Go.Proofs.YtcgkjbglijganaaDoor.Ev

theorem PairErr_eq (w v w' v' : Int) : run_ratchetref01_PairErr (.start w v w' v') = some ((fst (chk w v) (chk w' v'), ()), ()) := by
  simp only [run_ratchetref01_PairErr, BitsErr_eq, some_bind', fst]
  by_cases h : chk w v = 0 <;> simp [h]
theorem TwinErr_eq (w v w' v' : Int) : run_ratchetref01_TwinErr (.start w v w' v') = some ((fst (chk w v) (fst (chk w' v') (if w = w' then 0 else 25)), ()), ()) := by
  simp only [run_ratchetref01_TwinErr, PairErr_eq, some_bind', fst]
  generalize chk w v = a
  generalize chk w' v' = b
  by_cases h : a = 0 <;> by_cases h2 : b = 0 <;> by_cases h3 : w = w' <;> simp [h, h2, h3]
/-- the error of two values and a carry -/
def carr (w v w' v' c : Int) : Int := fst (fst (chk w v) (fst (chk w' v') (if w = w' then 0 else 25))) (if 0 ≤ c ∧ c ≤ 1 then 0 else 2)
theorem CarryErr_eq (w v w' v' c : Int) : run_ratchetref01_CarryErr (.start w v w' v' c) = some ((carr w v w' v' c, ()), ()) := by
  simp only [run_ratchetref01_CarryErr, TwinErr_eq, some_bind', Within_eq, carr]
  generalize fst (chk w v) (fst (chk w' v') (if w = w' then 0 else 25)) = e
  unfold fst
  by_cases h : e = 0 <;> by_cases h2 : 0 ≤ c ∧ c ≤ 1 <;> simp [h, h2]
theorem carr_zero {w v w' v' c : Int} : carr w v w' v' c = 0 ↔ (1 ≤ w ∧ w ≤ 16 ∧ 0 ≤ v ∧ v < pw w) ∧ (0 ≤ v' ∧ v' < pw w) ∧ w = w' ∧ 0 ≤ c ∧ c ≤ 1 := by
  unfold carr
  rw [fst_zero, fst_zero, fst_zero, chk_zero, chk_zero]
  constructor
  · rintro ⟨⟨h1, h2, h3⟩, h4⟩
    have h3 : w = w' := by split at h3 <;> first | assumption | cases h3
    have h4 : 0 ≤ c ∧ c ≤ 1 := by split at h4 <;> first | assumption | cases h4
    subst h3
    exact ⟨h1, h2.2.2, rfl, h4⟩
  · rintro ⟨h1, h2, rfl, h4⟩
    exact ⟨⟨h1, ⟨h1.1, h1.2.1, h2⟩, if_pos rfl⟩, if_pos h4⟩

abbrev R6 := Int × (Int × (Int × (Int × (Int × (Int × Unit)))))
def zero6 : R6 := (0, 0, 0, 0, 0, 0, ())
def addx (w v v' c : Int) : R6 := flg w (v + v' + c) (sgn w v + sgn w v' + c)
def subx (w v v' c : Int) : R6 := flg w (v - v' - c) (sgn w v - sgn w v' - c)
theorem eta6 (x : R6) : (x.1, x.2.1, x.2.2.1, x.2.2.2.1, x.2.2.2.2.1, x.2.2.2.2.2.1, ()) = x := rfl

section
variable {w v v' c : Int} (h : 1 ≤ w) (hw : w ≤ 16) (h0 : 0 ≤ v) (h1 : v < pw w) (k0 : 0 ≤ v') (k1 : v' < pw w) (c0 : 0 ≤ c) (c1 : c ≤ 1)
include h hw h0 h1 k0 k1 c0 c1
theorem wraps_add : IntKind.wrap .i64 (IntKind.wrap .i64 (v + v') + c) = v + v' + c ∧ IntKind.wrap .i64 (IntKind.wrap .i64 (sgn w v + sgn w v') + c) = sgn w v + sgn w v' + c ∧ i64 (v + v' + c) := by
  have hp := pw_16 hw
  have s1 := sgn_bound h hw h0 h1
  have s2 := sgn_bound h hw k0 k1
  rw [wrap_i64 (x := v + v') (by omega) (by omega), wrap_i64 (x := sgn w v + sgn w v') (by omega) (by omega), wrap_i64 (by omega) (by omega), wrap_i64 (by omega) (by omega)]
  exact ⟨rfl, rfl, by omega, by omega⟩
theorem wraps_sub : IntKind.wrap .i64 (IntKind.wrap .i64 (v - v') - c) = v - v' - c ∧ IntKind.wrap .i64 (IntKind.wrap .i64 (sgn w v - sgn w v') - c) = sgn w v - sgn w v' - c ∧ i64 (v - v' - c) := by
  have hp := pw_16 hw
  have s1 := sgn_bound h hw h0 h1
  have s2 := sgn_bound h hw k0 k1
  rw [wrap_i64 (x := v - v') (by omega) (by omega), wrap_i64 (x := sgn w v - sgn w v') (by omega) (by omega), wrap_i64 (by omega) (by omega), wrap_i64 (by omega) (by omega)]
  exact ⟨rfl, rfl, by omega, by omega⟩
theorem Add_eq : run_ratchetref01_Add (.start w v w v' c) = some ((addx w v v' c, ()), ()) := by
  obtain ⟨e1, e2, e3⟩ := wraps_add h hw h0 h1 k0 k1 c0 c1
  simp only [run_ratchetref01_Add, Signed_eq h hw h0 h1, Signed_eq h hw k0 k1, some_bind', e1, e2, Flags_eq h hw e3]
  rfl
theorem Sub_eq : run_ratchetref01_Sub (.start w v w v' c) = some ((subx w v v' c, ()), ()) := by
  obtain ⟨e1, e2, e3⟩ := wraps_sub h hw h0 h1 k0 k1 c0 c1
  simp only [run_ratchetref01_Sub, Signed_eq h hw h0 h1, Signed_eq h hw k0 k1, some_bind', e1, e2, Flags_eq h hw e3]
  rfl
end
theorem carr_first (w v w' v' c : Int) : run_bits_first (.start [fst (chk w v) (fst (chk w' v') (if w = w' then 0 else 25)), if decide (0 ≤ c ∧ c ≤ 1) = true then 0 else 2]) = some ((carr w v w' v' c, ()), ()) := by
  rw [first2]
  simp [carr]
theorem AddWith_eq (w v w' v' c : Int) : run_bits_AddWith (.start w v w' v' c) = some ((if carr w v w' v' c = 0 then addx w v v' c else zero6, carr w v w' v' c, ()), ()) := by
  simp only [run_bits_AddWith, pair_eq, isBit_eq, unless_eq, some_bind', carr_first]
  by_cases hc : carr w v w' v' c = 0
  · rw [if_neg (by simp [hc]), if_pos hc]
    obtain ⟨⟨h, hw, h0, h1⟩, ⟨k0, k1⟩, rfl, c0, c1⟩ := carr_zero.1 hc
    obtain ⟨e1, e2, e3⟩ := wraps_add h hw h0 h1 k0 k1 c0 c1
    simp only [signed_eq h hw h0 h1, signed_eq h hw k0 k1, some_bind', e1, e2, flags_eq h hw e3]
    rw [hc]
    rfl
  · rw [if_pos (by simpa using hc), if_neg hc]
    rfl
theorem SubWith_eq (w v w' v' c : Int) : run_bits_SubWith (.start w v w' v' c) = some ((if carr w v w' v' c = 0 then subx w v v' c else zero6, carr w v w' v' c, ()), ()) := by
  simp only [run_bits_SubWith, pair_eq, isBit_eq, unless_eq, some_bind', carr_first]
  by_cases hc : carr w v w' v' c = 0
  · rw [if_neg (by simp [hc]), if_pos hc]
    obtain ⟨⟨h, hw, h0, h1⟩, ⟨k0, k1⟩, rfl, c0, c1⟩ := carr_zero.1 hc
    obtain ⟨e1, e2, e3⟩ := wraps_sub h hw h0 h1 k0 k1 c0 c1
    simp only [signed_eq h hw h0 h1, signed_eq h hw k0 k1, some_bind', e1, e2, flags_eq h hw e3]
    rw [hc]
    rfl
  · rw [if_pos (by simpa using hc), if_neg hc]
    rfl

theorem sums_true (w v w' v' c : Int) : run_ratchetlaw01_BitsSums (.start w v w' v' c) = some ((true, ()), ()) := by
  simp only [run_ratchetlaw01_BitsSums, some_bind', AddWith_eq, SubWith_eq, CheckBits_eq, BitsErr_eq, CarryErr_eq]
  rw [if_neg (by simp), if_neg (by simp)]
  by_cases hc : carr w v w' v' c = 0
  · obtain ⟨⟨h, hw, h0, h1⟩, ⟨k0, k1⟩, rfl, c0, c1⟩ := carr_zero.1 hc
    simp only [Add_eq h hw h0 h1 k0 k1 c0 c1, Sub_eq h hw h0 h1 k0 k1 c0 c1, some_bind', hc]
    simp
  · simp [hc, zero6]
end Go.Proofs.YtcgkjbglijganaaDoor.Ev.F
