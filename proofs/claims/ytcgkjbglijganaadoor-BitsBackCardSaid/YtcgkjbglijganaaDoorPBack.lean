/- Sums, differences, quotients: one by the other. -/
import Derived.Test.YtcgkjbglijganaaDoorPProd
set_option linter.unusedVariables false
set_option linter.unusedSimpArgs false
namespace Go.Proofs.YtcgkjbglijganaaDoor.Ev.F
open Go.Proofs.YtcgkjbglijganaaDoor.Ev

theorem back_div {w v v' : Int} (h : 1 ≤ w) (hw : w ≤ 16) (h0 : 0 ≤ v) (h1 : v < pw w) (k0 : 0 ≤ v') (k1 : v' < pw w) : run_ratchetlaw01_BitsBack (.p511 w v w v') = some ((true, ()), ()) := by
  have hp := pw_16 hw
  have c1 : chk w v = 0 := chk_zero.2 ⟨h, hw, h0, h1⟩
  have c2 : chk w v' = 0 := chk_zero.2 ⟨h, hw, k0, k1⟩
  simp only [run_ratchetlaw01_BitsBack, DivMod_eq, some_bind', BitsErr_eq]
  by_cases hv : v' = 0
  · have hd : divE w v w v' = 11 := by unfold divE; rw [c1, c2]; simp [fst, hv]
    rw [if_pos (by simpa using hv)]
    simp [hd]
  · have hd : divE w v w v' = 0 := by unfold divE; rw [c1, c2]; simp [fst, hv]
    rw [if_neg (by simpa using hv), if_pos (by simpa using hd)]
    simp only [hd, if_true]
    have q0 : 0 ≤ v / v' := Int.ediv_nonneg h0 k0
    have q1 : v / v' ≤ v := Int.ediv_le_self _ h0
    have r0 : 0 ≤ v % v' := Int.emod_nonneg _ hv
    have r1 : v % v' < v' := Int.emod_lt_of_pos _ (by omega)
    have hqr : v / v' * v' + v % v' = v := by rw [Int.mul_comm]; exact Int.mul_ediv_add_emod v v'
    have c3 : chk w (v / v') = 0 := chk_zero.2 ⟨h, hw, q0, by omega⟩
    have c4 : chk w (v % v') = 0 := chk_zero.2 ⟨h, hw, r0, by omega⟩
    have m0 : 0 ≤ v / v' * v' := Int.mul_nonneg q0 k0
    have e1 : IntKind.wrap .i64 (v / v' * v') = v / v' * v' := wrap_i64 (by omega) (by omega)
    have e2 : IntKind.wrap .i64 (v / v' * v' + v % v') = v / v' * v' + v % v' := wrap_i64 (by omega) (by omega)
    have e3 : IntKind.wrap .i64 v = v := wrap_i64 (by omega) (by omega)
    simp only [c3, c4, e1, e2, hqr, e3]
    simp [r1, e3]

theorem emod_shift {a m : Int} (k : Int) : (a + k * m) % m = a % m := by rw [Int.add_mul_emod_self_right]

theorem back_true (w v w' v' c : Int) : run_ratchetlaw01_BitsBack (.start w v w' v' c) = some ((true, ()), ()) := by
  rw [run_ratchetlaw01_BitsBack]
  simp only [some_bind', AddWith_eq, SubWith_eq, CarryErr_eq]
  rw [if_neg (by simp)]
  by_cases hc : carr w v w' v' c = 0
  · obtain ⟨⟨h, hw, h0, h1⟩, ⟨k0, k1⟩, rfl, c0, c1⟩ := carr_zero.1 hc
    have hp := pw_16 hw
    have hp0 := pw_pos w
    have hs := pw_succ (w := w) (by omega)
    obtain ⟨m0, m1⟩ := mod_pw (v + v' + c) w
    have e1 : IntKind.wrap .i64 (pw w - 1) = pw w - 1 := wrap_i64 (by omega) (by omega)
    have e2 : IntKind.wrap .i64 (pw w - 1 - v') = pw w - 1 - v' := wrap_i64 (by omega) (by omega)
    have e3 : IntKind.wrap .i64 (1 - c) = 1 - c := wrap_i64 (by omega) (by omega)
    have hc2 : carr w (v + v' + c) w v' c = carr w (v + v' + c) w v' c := rfl
    have hca : carr w ((v + v' + c) % pw w) w v' c = 0 := carr_zero.2 ⟨⟨h, hw, m0, m1⟩, ⟨k0, k1⟩, rfl, c0, c1⟩
    have hcb : carr w v w (pw w - 1 - v') (1 - c) = 0 := carr_zero.2 ⟨⟨h, hw, h0, h1⟩, ⟨by omega, by omega⟩, rfl, by omega, by omega⟩
    simp only [hc, if_true, addx, subx, flg, Power_eq (show 0 ≤ w by omega) (show w ≤ 62 by omega), some_bind', e1, e2, e3, of_law, AddWith_eq, SubWith_eq, hca, hcb]
    -- the difference of the sum
    have d1 : ((v + v' + c) % pw w - v' - c) % pw w = v := by
      rw [Int.emod_def (v + v' + c), show v + v' + c - pw w * ((v + v' + c) / pw w) - v' - c = v + (-((v + v' + c) / pw w)) * pw w by rw [Int.neg_mul, Int.mul_comm ((v + v' + c) / pw w)]; omega, emod_shift, Int.emod_eq_of_lt h0 h1]
    -- the sum with the inverted bits
    have d2 : (v + (pw w - 1 - v') + (1 - c)) % pw w = (v - v' - c) % pw w := by
      rw [show v + (pw w - 1 - v') + (1 - c) = (v - v' - c) + 1 * pw w by omega, emod_shift]
    have d3 : sgn w v + sgn w (pw w - 1 - v') + (1 - c) = sgn w v - sgn w v' - c := by
      unfold sgn
      by_cases a : v' < pw (w - 1)
      · rw [if_neg (show ¬ pw w - 1 - v' < pw (w - 1) by omega), if_pos a]; split <;> omega
      · rw [if_pos (show pw w - 1 - v' < pw (w - 1) by omega), if_neg a]; split <;> omega
    have d4 : (if 0 ≤ v - v' - c ∧ v - v' - c ≤ pw w - 1 then (0 : Int) else 1) = IntKind.wrap .i64 (1 - (if 0 ≤ v + (pw w - 1 - v') + (1 - c) ∧ v + (pw w - 1 - v') + (1 - c) ≤ pw w - 1 then 0 else 1)) := by
      by_cases a : 0 ≤ v - v' - c
      · rw [if_pos (by omega), if_neg (by omega)]; decide
      · rw [if_neg (by omega), if_pos (by omega)]; decide
    simp only [d1, d2, d3, ← d4, back_div h hw h0 h1 k0 k1]
    simp
  · simp [hc]
end Go.Proofs.YtcgkjbglijganaaDoor.Ev.F
