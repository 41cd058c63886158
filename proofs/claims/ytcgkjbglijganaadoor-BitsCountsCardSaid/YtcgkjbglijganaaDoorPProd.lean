/- Products and quotients; numbers as values. -/
import Derived.Test.YtcgkjbglijganaaDoorPSums
set_option linter.unusedVariables false
set_option linter.unusedSimpArgs false
namespace Go.Proofs.YtcgkjbglijganaaDoor.Ev.F
open Go.Proofs.YtcgkjbglijganaaDoor.Ev

def mulE (w v w' v' : Int) : Int := fst (fst (chk w v) (chk w' v')) (if IntKind.wrap .i64 (w + w') ≤ 16 then 0 else 8)
theorem MulErr_eq (w v w' v' : Int) : run_ratchetref01_MulErr (.start w v w' v') = some ((mulE w v w' v', ()), ()) := by
  simp only [run_ratchetref01_MulErr, PairErr_eq, some_bind', mulE]
  generalize fst (chk w v) (chk w' v') = e
  generalize IntKind.wrap .i64 (w + w') = m
  unfold fst
  by_cases h : e = 0 <;> by_cases h2 : m ≤ 16 <;> simp [h, h2] <;> omega
theorem mulE_zero {w v w' v' : Int} : mulE w v w' v' = 0 → (1 ≤ w ∧ w ≤ 16 ∧ 0 ≤ v ∧ v < pw w) ∧ (1 ≤ w' ∧ w' ≤ 16 ∧ 0 ≤ v' ∧ v' < pw w') ∧ w + w' ≤ 16 := by
  unfold mulE
  rw [fst_zero, fst_zero, chk_zero, chk_zero]
  rintro ⟨⟨h1, h2⟩, h3⟩
  refine ⟨h1, h2, ?_⟩
  rw [wrap_i64 (by omega) (by omega)] at h3
  split at h3 <;> first | assumption | cases h3
theorem fst_assoc (a b c : Int) : fst a (fst b c) = fst (fst a b) c := by
  unfold fst
  by_cases h : a = 0 <;> simp [h]
theorem mul_fits {w v w' v' : Int} (h0 : 0 ≤ w) (h1 : 0 ≤ w') (h : w + w' ≤ 16) (a0 : 0 ≤ v) (a1 : v < pw w) (b0 : 0 ≤ v') (b1 : v' < pw w') : 0 ≤ v * v' ∧ v * v' < pw (w + w') ∧ pw (w + w') ≤ 65536 := by
  have hp := pw_pos w'
  have e1 : v * v' ≤ v * pw w' := Int.mul_le_mul_of_nonneg_left (by omega) a0
  have e2 : v * pw w' < pw w * pw w' := Int.mul_lt_mul_of_pos_right a1 hp
  rw [pw_add h0 h1]
  refine ⟨Int.mul_nonneg a0 b0, by omega, ?_⟩
  rw [← pw_add h0 h1]
  exact pw_16 h
theorem MulWide_eq (w v w' v' : Int) : run_bits_MulWide (.start w v w' v') = some (((if mulE w v w' v' = 0 then (w + w', v * v', ()) else (0, 0, ())), mulE w v w' v', ()), ()) := by
  simp only [run_bits_MulWide, CheckBits_eq, unless_eq, some_bind']
  rw [first3]
  simp only [some_bind', decide_eq_true_eq]
  rw [fst_assoc]
  by_cases hc : mulE w v w' v' = 0
  · obtain ⟨⟨h, hw, a0, a1⟩, ⟨k, kw, b0, b1⟩, hs⟩ := mulE_zero hc
    have hc' := hc
    unfold mulE at hc'
    rw [if_neg (by simp [hc']), if_pos hc]
    obtain ⟨m0, m1, m2⟩ := mul_fits (by omega) (by omega) hs a0 a1 b0 b1
    rw [wrap_i64 (x := w + w') (by omega) (by omega), wrap_i64 (x := v * v') (by omega) (by omega), of_eq (by omega) (by omega) ⟨by omega, by omega⟩]
    simp only [some_bind', hc, Int.emod_eq_of_lt m0 m1]
  · have hc' := hc
    unfold mulE at hc'
    rw [if_pos (by simpa using hc'), if_neg hc]
    rfl

def divE (w v w' v' : Int) : Int := fst (fst (chk w v) (fst (chk w' v') (if w = w' then 0 else 25))) (if v' = 0 then 11 else 0)
theorem DivErr_eq (w v w' v' : Int) : run_ratchetref01_DivErr (.start w v w' v') = some ((divE w v w' v', ()), ()) := by
  simp only [run_ratchetref01_DivErr, TwinErr_eq, some_bind', divE]
  generalize fst (chk w v) (fst (chk w' v') (if w = w' then 0 else 25)) = e
  unfold fst
  by_cases h : e = 0 <;> by_cases h2 : v' = 0 <;> simp [h, h2]
theorem divE_zero {w v w' v' : Int} (hc : divE w v w' v' = 0) : (1 ≤ w ∧ w ≤ 16 ∧ 0 ≤ v ∧ v < pw w) ∧ (0 < v' ∧ v' < pw w) ∧ w = w' := by
  unfold divE at hc
  rw [fst_zero, fst_zero, fst_zero, chk_zero, chk_zero] at hc
  obtain ⟨⟨h1, h2, h3⟩, h4⟩ := hc
  have h3 : w = w' := by split at h3 <;> first | assumption | cases h3
  have h4 : ¬ v' = 0 := by split at h4 <;> first | assumption | cases h4
  subst h3
  exact ⟨h1, ⟨by omega, h2.2.2.2⟩, rfl⟩
theorem DivMod_eq (w v w' v' : Int) : run_bits_DivMod (.start w v w' v') = some (((if divE w v w' v' = 0 then (w, v / v', ()) else (0, 0, ())), (if divE w v w' v' = 0 then (w, v % v', ()) else (0, 0, ())), divE w v w' v', ()), ()) := by
  simp only [run_bits_DivMod, pair_eq, unless_eq, some_bind']
  rw [first2]
  have e1 : (if (v' != 0) = true then (0 : Int) else 11) = if v' = 0 then 11 else 0 := by by_cases h : v' = 0 <;> simp [h]
  simp only [some_bind', e1]
  by_cases hc : divE w v w' v' = 0
  · obtain ⟨⟨h, hw, a0, a1⟩, ⟨b0, b1⟩, rfl⟩ := divE_zero hc
    have hc' := hc
    unfold divE at hc'
    rw [if_neg (by rw [hc']; decide), if_pos hc]
    have hne : (!(v' == 0)) = true := by simp; omega
    have hp := pw_16 hw
    have d1 : v.tdiv v' = v / v' := Int.tdiv_eq_ediv_of_nonneg a0
    have d2 : v.tmod v' = v % v' := Int.tmod_eq_emod_of_nonneg a0
    have q0 : 0 ≤ v / v' := Int.ediv_nonneg a0 (by omega)
    have q1 : v / v' ≤ v := Int.ediv_le_self _ a0
    have r0 := Int.emod_nonneg v (show v' ≠ 0 by omega)
    have r1 := Int.emod_lt_of_pos v b0
    rw [d1, d2, wrap_i64 (x := v / v') (by omega) (by omega)]
    simp only [hne, if_true]
    rw [of_eq (by omega) (by omega) ⟨by omega, by omega⟩, of_eq (by omega) (by omega) ⟨by omega, by omega⟩]
    simp only [some_bind', hc, if_true, Int.emod_eq_of_lt q0 (show v / v' < pw w by omega), Int.emod_eq_of_lt r0 (show v % v' < pw w by omega)]
  · have hc' := hc
    unfold divE at hc'
    rw [if_pos (by simpa using hc'), if_neg hc, if_neg hc]
    rfl

theorem prod_p63 (w v w' v' : Int) : run_ratchetlaw01_BitsProducts (.p63 (divE w v w' v') w v w' v' (if divE w v w' v' = 0 then (w, v / v', ()) else (0, 0, ()) : Int × Int × Unit).1 (if divE w v w' v' = 0 then (w, v / v', ()) else (0, 0, ()) : Int × Int × Unit).2.1
    (if divE w v w' v' = 0 then (w, v % v', ()) else (0, 0, ()) : Int × Int × Unit).1 (if divE w v w' v' = 0 then (w, v % v', ()) else (0, 0, ()) : Int × Int × Unit).2.1) = some ((true, ()), ()) := by
  rw [run_ratchetlaw01_BitsProducts, DivErr_eq]
  simp only [some_bind', of_law]
  by_cases hc : divE w v w' v' = 0
  · obtain ⟨⟨h, hw, a0, a1⟩, ⟨b0, b1⟩, rfl⟩ := divE_zero hc
    have hp := pw_16 hw
    have d1 : v.tdiv v' = v / v' := Int.tdiv_eq_ediv_of_nonneg a0
    have d2 : v.tmod v' = v % v' := Int.tmod_eq_emod_of_nonneg a0
    have q0 : 0 ≤ v / v' := Int.ediv_nonneg a0 (by omega)
    have q1 : v / v' ≤ v := Int.ediv_le_self _ a0
    have hne : (!(v' == 0)) = true := by simp; omega
    rw [d1, d2, wrap_i64 (x := v / v') (by omega) (by omega)]
    simp [hc, hne]
  · simp [hc]
theorem products_true (w v w' v' : Int) : run_ratchetlaw01_BitsProducts (.start w v w' v') = some ((true, ()), ()) := by
  rw [run_ratchetlaw01_BitsProducts, MulWide_eq, DivMod_eq, MulErr_eq]
  simp only [some_bind', of_law, prod_p63]
  rw [if_neg (by simp)]
  by_cases hc : mulE w v w' v' = 0
  · obtain ⟨⟨h, hw, a0, a1⟩, ⟨k, kw, b0, b1⟩, hs⟩ := mulE_zero hc
    obtain ⟨m0, m1, m2⟩ := mul_fits (by omega) (by omega) hs a0 a1 b0 b1
    rw [wrap_i64 (x := w + w') (by omega) (by omega), wrap_i64 (x := v * v') (by omega) (by omega)]
    simp [hc]
  · simp [hc]

/-! ### numbers as values -/
def sgnE (n w : Int) : Int := if 1 ≤ w ∧ w ≤ 16 then (if -(pw (w - 1)) ≤ n ∧ n ≤ pw (w - 1) - 1 then 0 else 2) else 25
theorem sgnE_zero {n w : Int} : sgnE n w = 0 ↔ (1 ≤ w ∧ w ≤ 16) ∧ -(pw (w - 1)) ≤ n ∧ n < pw (w - 1) := by
  unfold sgnE
  constructor
  · intro h
    split at h
    · split at h
      · omega
      · cases h
    · cases h
  · rintro ⟨h1, h2⟩
    rw [if_pos h1, if_pos (by omega)]
theorem half_wraps {w : Int} (h : 1 ≤ w) (hw : w ≤ 16) : IntKind.wrap .i64 (w - 1) = w - 1 ∧ IntKind.wrap .i64 (0 - pw (w - 1)) = -(pw (w - 1)) ∧ IntKind.wrap .i64 (pw (w - 1) - 1) = pw (w - 1) - 1 := by
  have h1 := pw_16 (w := w - 1) (by omega)
  have h2 := pw_pos (w - 1)
  refine ⟨wrap_i64 (by omega) (by omega), ?_, wrap_i64 (by omega) (by omega)⟩
  rw [wrap_i64 (by omega) (by omega)]
  omega
theorem SignedErr_eq (n w : Int) : run_ratchetref01_SignedErr (.start n w) = some ((sgnE n w, ()), ()) := by
  simp only [run_ratchetref01_SignedErr, IsWidth_eq, some_bind', sgnE]
  by_cases h : 1 ≤ w ∧ w ≤ 16
  · obtain ⟨e1, e2, e3⟩ := half_wraps h.1 h.2
    rw [if_neg (by simp [h])]
    simp only [e1, Power_eq (show 0 ≤ w - 1 by omega) (show w - 1 ≤ 62 by omega), some_bind', e2, e3, Within_eq]
    by_cases h2 : -pw (w - 1) ≤ n ∧ n ≤ pw (w - 1) - 1 <;> simp [h, h2]
  · simp [h]
theorem FromSigned_eq {n : Int} (hn : i64 n) (w : Int) : run_bits_FromSigned (.start n w) = some (((if sgnE n w = 0 then (w, n % pw w, ()) else (0, 0, ())), sgnE n w, ()), ()) := by
  simp only [run_bits_FromSigned, isWidth_eq, some_bind', sgnE]
  by_cases h : 1 ≤ w ∧ w ≤ 16
  · obtain ⟨e1, e2, e3⟩ := half_wraps h.1 h.2
    rw [if_neg (by simp [h])]
    simp only [e1, shl_one (show w - 1 ≤ 62 by omega), e2, e3, within_eq, some_bind']
    rw [if_pos (by simp; omega)]
    by_cases h2 : -pw (w - 1) ≤ n ∧ n ≤ pw (w - 1) - 1
    · rw [if_neg (by simp [h2]), of_eq (by omega) (by omega) hn]
      simp [h, h2]
    · simp [h, h2]
  · simp [h]
theorem SignedOf_eq (w v : Int) : run_bits_SignedOf (.start w v) = some (((if chk w v = 0 then sgn w v else 0), chk w v, ()), ()) := by
  simp only [run_bits_SignedOf, CheckBits_eq, some_bind']
  by_cases hc : chk w v = 0
  · obtain ⟨h, hw, h0, h1⟩ := chk_zero.1 hc
    rw [if_neg (by simp [hc]), signed_eq h hw h0 h1]
    simp [hc]
  · rw [if_pos (by simpa using hc)]
    simp [hc]
theorem sgn_fits {w v : Int} (h : 1 ≤ w) (hw : w ≤ 16) (h0 : 0 ≤ v) (h1 : v < pw w) : sgnE (sgn w v) w = 0 ∧ sgn w v % pw w = v := by
  have hs := pw_succ (w := w) (by omega)
  have hp := pw_pos (w - 1)
  refine ⟨?_, ?_⟩
  · rw [sgnE_zero]
    unfold sgn
    split <;> omega
  · unfold sgn
    split
    · exact Int.emod_eq_of_lt h0 h1
    · rw [Int.sub_emod_right]
      exact Int.emod_eq_of_lt h0 h1
theorem signs_p255 {w v : Int} (h : 1 ≤ w) (hw : w ≤ 16) (h0 : 0 ≤ v) (h1 : v < pw w) : run_ratchetlaw01_BitsSigns (.p255 (sgn w v) w v) = some ((true, ()), ()) := by
  obtain ⟨e1, e2⟩ := sgn_fits h hw h0 h1
  have hb := sgn_bound h hw h0 h1
  rw [run_ratchetlaw01_BitsSigns, FromSigned_eq ⟨by omega, by omega⟩]
  simp [some_bind', e1, e2]
theorem signs_p63 (w v : Int) : run_ratchetlaw01_BitsSigns (.p63 (if chk w v = 0 then sgn w v else 0) (chk w v) w v) = some ((true, ()), ()) := by
  rw [run_ratchetlaw01_BitsSigns, BitsErr_eq]
  simp only [some_bind']
  by_cases hc : chk w v = 0
  · obtain ⟨h, hw, h0, h1⟩ := chk_zero.1 hc
    simp [hc, Signed_eq h hw h0 h1, some_bind', signs_p255 h hw h0 h1]
  · simp [hc]
theorem signs_true (w v : Int) {n : Int} (hn : i64 n) (w' : Int) : run_ratchetlaw01_BitsSigns (.start w v n w') = some ((true, ()), ()) := by
  rw [run_ratchetlaw01_BitsSigns, SignedOf_eq, FromSigned_eq hn, SignedErr_eq]
  simp only [some_bind', signs_p63]
  rw [if_neg (by simp)]
  by_cases hc : sgnE n w' = 0
  · obtain ⟨⟨h, hw⟩, _⟩ := sgnE_zero.1 hc
    have hp := pw_pos w'
    have hp2 := pw_16 hw
    rw [Power_eq (by omega) (by omega)]
    simp only [some_bind', Mod_eq hp (show pw w' < 4611686018427387904 by omega), of_law]
    simp [hc]
  · simp [hc]
end Go.Proofs.YtcgkjbglijganaaDoor.Ev.F
