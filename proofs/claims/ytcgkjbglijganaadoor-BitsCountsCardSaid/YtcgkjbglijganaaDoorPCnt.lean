/- Bits counted; one-hot codes; permutations. -/
import Derived.Test.YtcgkjbglijganaaDoorPFields
import Derived.Test.YtcgkjbglijganaaDoorPCnt0
import Derived.Test.YtcgkjbglijganaaDoorF2
import Derived.Lib.TrailingZeros
set_option linter.unusedVariables false
set_option linter.unusedSimpArgs false
namespace Go.Proofs.YtcgkjbglijganaaDoor.Ev.F
open Go.Proofs.YtcgkjbglijganaaDoor.Ev

theorem wrapU (n : Int) : IntKind.wrap .u64 n = n % 18446744073709551616 := by simp [IntKind.wrap, IntKind.bits, IntKind.signed]
theorem and_u64 (A B : Nat) : bits .and .u64 (A : Int) (B : Int) = ((A % 2 ^ 64 &&& B % 2 ^ 64 : Nat) : Int) := by
  rw [bits_eq]
  show IntKind.wrap .u64 (((BitVec.ofInt 64 (A : Int) &&& BitVec.ofInt 64 (B : Int)).toNat : Nat) : Int) = _
  rw [BitVec.toNat_and, BitVec.ofInt_natCast, BitVec.ofInt_natCast, BitVec.toNat_ofNat, BitVec.toNat_ofNat, wrapU]
  have : A % 2 ^ 64 &&& B % 2 ^ 64 ≤ A % 2 ^ 64 := Nat.and_le_left
  omega
theorem shr_u64 (A k : Nat) (hk : k ≤ 64) : shr .u64 (A : Int) (k : Int) = ((A >>> k : Nat) : Int) := by
  unfold shr
  have : min (k : Int).toNat IntKind.u64.bits = k := by rw [Int.toNat_natCast]; exact Nat.min_eq_left hk
  rw [this, Int.fdiv_eq_ediv_of_nonneg _ (Int.le_of_lt (Int.pow_pos (by decide))), Nat.shiftRight_eq_div_pow, Int.natCast_ediv, Int.natCast_pow]
  rfl
theorem wrap_u64n (A : Nat) : IntKind.wrap .u64 (A : Int) = ((A % 18446744073709551616 : Nat) : Int) := by rw [wrapU]; omega
theorem shr_le (x k : Nat) : x >>> k ≤ x := by rw [Nat.shiftRight_eq_div_pow]; exact Nat.div_le_self _ _
theorem and_small {A B : Nat} (hA : A < 2 ^ 64) (hB : B < 2 ^ 64) : bits .and .u64 (A : Int) (B : Int) = ((A &&& B : Nat) : Int) := by
  rw [and_u64, Nat.mod_eq_of_lt hA, Nat.mod_eq_of_lt hB]
theorem swar1_i (X : Nat) (h : X < 2 ^ 64) : IntKind.wrap .u64 ((bits .and .u64 (shr .u64 (X : Int) (1 : Int)) (6148914691236517205 : Int)) + (bits .and .u64 (X : Int) (6148914691236517205 : Int))) = ((swar1 X : Nat) : Int) := by
  have h1 := shr_le X 1
  rw [show (1 : Int) = ((1 : Nat) : Int) from rfl, shr_u64 _ _ (by decide), show (6148914691236517205 : Int) = ((6148914691236517205 : Nat) : Int) from rfl, and_small (by omega) (by decide), and_small h (by decide), ← Int.natCast_add, wrap_u64n]
  rfl
theorem swar2_i (X : Nat) (h : X < 2 ^ 64) : IntKind.wrap .u64 ((bits .and .u64 (shr .u64 (X : Int) (2 : Int)) (3689348814741910323 : Int)) + (bits .and .u64 (X : Int) (3689348814741910323 : Int))) = ((swar2 X : Nat) : Int) := by
  have h1 := shr_le X 2
  rw [show (2 : Int) = ((2 : Nat) : Int) from rfl, shr_u64 _ _ (by decide), show (3689348814741910323 : Int) = ((3689348814741910323 : Nat) : Int) from rfl, and_small (by omega) (by decide), and_small h (by decide), ← Int.natCast_add, wrap_u64n]
  rfl
theorem swar3_i (X : Nat) : bits .and .u64 (IntKind.wrap .u64 ((shr .u64 (X : Int) (4 : Int)) + (X : Int))) (1085102592571150095 : Int) = ((swar3 X : Nat) : Int) := by
  rw [show (4 : Int) = ((4 : Nat) : Int) from rfl, shr_u64 _ _ (by decide), show (1085102592571150095 : Int) = ((1085102592571150095 : Nat) : Int) from rfl, ← Int.natCast_add, wrap_u64n, and_small (Nat.mod_lt _ (by decide)) (by decide)]
  rfl
theorem swar4_i (k X : Nat) (hk : k ≤ 64) : IntKind.wrap .u64 ((X : Int) + (shr .u64 (X : Int) (k : Int))) = ((swar4 k X : Nat) : Int) := by
  rw [shr_u64 _ _ hk, ← Int.natCast_add, wrap_u64n, Nat.add_comm]
  rfl
theorem swar_lt1 (X : Nat) : swar1 X < 2 ^ 64 := Nat.mod_lt _ (by decide)
theorem swar_lt2 (X : Nat) : swar2 X < 2 ^ 64 := Nat.mod_lt _ (by decide)
theorem low127 (Y : Nat) : bits .and .i64 (IntKind.wrap .i64 (Y : Int)) (127 : Int) = ((Y % 128 : Nat) : Int) := by
  have hp : (127 : Int) = pw 7 - 1 := by decide
  have hw : IntKind.wrap .i64 (Y : Int) % 128 = ((Y % 128 : Nat) : Int) ∧ -9223372036854775808 ≤ IntKind.wrap .i64 (Y : Int) ∧ IntKind.wrap .i64 (Y : Int) < 9223372036854775808 := by
    rw [IntKind.wrap_i64]; omega
  rw [hp, and_mask (by decide) (by decide) hw.2.1 hw.2.2, show pw 7 = 128 by decide, hw.1]
theorem pop16_eq (X : Nat) : pop16 X = popN 16 X := by
  simp only [pop16, popN, Nat.add_eq]
  omega
theorem OnesCount_eq {X : Nat} (h : X < 65536) : run_math_bits_OnesCount (.start (X : Int)) = some ((((popN 16 X : Nat) : Int), ()), ()) := by
  have hs : Nat.beq (swar X) (pop16 X) = true := by
    have := allB_spec 16 0 X swar_all (by omega)
    unfold swarB at this
    simp only [force_eq] at this
    exact this
  have e8 := swar4_i 8 (swar3 (swar2 (swar1 X))) (by decide)
  have e16 := swar4_i 16 (swar4 8 (swar3 (swar2 (swar1 X)))) (by decide)
  have e32 := swar4_i 32 (swar4 16 (swar4 8 (swar3 (swar2 (swar1 X))))) (by decide)
  simp only [Int.cast_ofNat_Int] at e8 e16 e32
  simp only [run_math_bits_OnesCount, run_math_bits_OnesCount64]
  rw [swar1_i X (by omega), swar2_i _ (swar_lt1 X), swar3_i, e8, e16, e32]
  rw [low127]
  have h2 : swar4 32 (swar4 16 (swar4 8 (swar3 (swar2 (swar1 X))))) % 128 = pop16 X := Nat.eq_of_beq_eq_true hs
  rw [h2, pop16_eq]
  simp
end Go.Proofs.YtcgkjbglijganaaDoor.Ev.F
