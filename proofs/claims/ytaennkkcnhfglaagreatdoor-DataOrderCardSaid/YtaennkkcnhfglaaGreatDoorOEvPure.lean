/- A part of the proof. -/
import Derived.Test.YtaennkkcnhfglaaGreatDoorOEvLib
import Derived.Laws.BitsLemmas
set_option linter.unusedVariables false
namespace Go.Proofs.YtaennkkcnhfglaaGreatDoor.Ev
theorem wrap_i64 {x : Int} (h0 : -9223372036854775808 ≤ x) (h1 : x < 9223372036854775808) : IntKind.wrap .i64 x = x := by
  rw [IntKind.wrap_i64]; omega
def pw (w : Int) : Int := 2 ^ w.toNat
theorem wo0 (w : Int) : 0 < pw w := Int.pow_pos (by decide)
theorem wd5 {a b : Int} (h : a ≤ b) : pw a ≤ pw b := by
  have h1 : (2 : Nat) ^ a.toNat ≤ 2 ^ b.toNat := Nat.pow_le_pow_right (by decide) (by omega)
  have h2 : ((2 ^ a.toNat : Nat) : Int) ≤ ((2 ^ b.toNat : Nat) : Int) := by exact_mod_cast h1
  simpa [pw] using h2
theorem wv8 {w : Int} (h : w ≤ 62) : pw w ≤ 4611686018427387904 := by
  have := wd5 h
  have e : pw 62 = 4611686018427387904 := by decide
  omega
theorem vI5 {y : Int} {k : Nat} (h : y ≤ k) : min y.toNat k = y.toNat := by omega
theorem v28 {x w : Int} (h1 : w ≤ 64) (h2 : -9223372036854775808 ≤ x * pw w) (h3 : x * pw w < 9223372036854775808) : shl .i64 x w = x * pw w := by
  unfold shl
  have e : min w.toNat IntKind.i64.bits = w.toNat := vI5 (show w ≤ (64 : Nat) by omega)
  rw [e]
  exact wrap_i64 h2 h3
theorem vc2 {w : Int} (h1 : w ≤ 62) : shl .i64 1 w = pw w := by
  have := wv8 h1
  have := wo0 w
  rw [v28 (by omega) (by omega) (by omega), Int.one_mul]
theorem wp2 {x w : Int} (h1 : w ≤ 64) : shr .i64 x w = x / pw w := by
  unfold shr
  have e : min w.toNat IntKind.i64.bits = w.toNat := vI5 (show w ≤ (64 : Nat) by omega)
  rw [e, Int.fdiv_eq_ediv_of_nonneg _ (Int.le_of_lt (Int.pow_pos (by decide)))]
  rfl
theorem vS0 {x w : Int} (h0 : 0 ≤ w) (h1 : w ≤ 62) (hx0 : -9223372036854775808 ≤ x) (hx1 : x < 9223372036854775808) : bits .and .i64 x (pw w - 1) = x % pw w := by
  obtain ⟨n, rfl⟩ := Int.eq_ofNat_of_zero_le h0
  have hn : n ≤ 62 := by omega
  rw [u77]
  unfold u76
  have e1 : pw (n : Int) - 1 = ((2 ^ n - 1 : Nat) : Int) := by
    have : 1 ≤ 2 ^ n := Nat.one_le_two_pow
    rw [Int.natCast_sub this]
    simp [pw]
  have hlt : 2 ^ n < 2 ^ 64 := Nat.pow_lt_pow_right (by decide) (by omega)
  have e2 : (BitVec.ofInt 64 (pw (n : Int) - 1)).toNat = 2 ^ n - 1 := by
    rw [e1, BitVec.ofInt_natCast, BitVec.toNat_ofNat]
    exact Nat.mod_eq_of_lt (show 2 ^ n - 1 < 2 ^ 64 from Nat.lt_of_le_of_lt (Nat.sub_le _ _) hlt)
  have e3 : ((BitVec.ofInt 64 x).toNat : Int) = x % 18446744073709551616 := by
    rw [BitVec.toNat_ofInt]; omega
  show IntKind.wrap .i64 (((BitVec.ofInt 64 x &&& BitVec.ofInt 64 (pw (n : Int) - 1)).toNat : Nat) : Int) = x % pw n
  rw [BitVec.toNat_and, e2, Nat.and_two_pow_sub_one_eq_mod]
  have hp : pw (n : Int) = ((2 ^ n : Nat) : Int) := by simp [pw]
  have h62 : 2 ^ n ≤ 2 ^ 62 := Nat.pow_le_pow_right (by decide) hn
  have hpos : 0 < 2 ^ n := Nat.two_pow_pos n
  have hm : (BitVec.ofInt 64 x).toNat % 2 ^ n < 2 ^ n := Nat.mod_lt _ hpos
  have e4 : ((((BitVec.ofInt 64 x).toNat % 2 ^ n : Nat)) : Int) = x % pw n := by
    rw [Int.natCast_emod, e3, hp]
    have hd : ((2 ^ n : Nat) : Int) ∣ 18446744073709551616 := by
      refine ⟨((2 ^ (64 - n) : Nat) : Int), ?_⟩
      have : (2 : Nat) ^ n * 2 ^ (64 - n) = 18446744073709551616 := by
        rw [← Nat.pow_add, Nat.add_sub_cancel' (by omega : n ≤ 64)]
      rw [← Int.natCast_mul, this]
      rfl
    exact Int.emod_emod_of_dvd _ hd
  rw [← e4]
  exact wrap_i64 (by omega) (by omega)
theorem uO8 {α : Type} (l : List α) (i : Nat) : idx l (i : Int) = l[i]? := by
  unfold idx
  rw [if_pos (by omega)]
  simp
theorem ua0 {α β : Type} (a : α) (f : α → Option β) : (some a >>= f) = f a := rfl
end Go.Proofs.YtaennkkcnhfglaaGreatDoor.Ev
