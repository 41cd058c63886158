/- Bits of numbers, as the reference lists them. -/
import Derived.Test.YtcgkjbglijganaaDoorPProd
set_option linter.unusedVariables false
set_option linter.unusedSimpArgs false
namespace Go.Proofs.YtcgkjbglijganaaDoor.Ev.F
open Go.Proofs.YtcgkjbglijganaaDoor.Ev

/-- bit i of X, as a number -/
def bitn (X i : Nat) : Int := if X.testBit i then 1 else 0
/-- the n lower bits of X, the lowest first -/
def lowL (X n : Nat) : List Int := (List.range n).map (bitn X)
theorem lowL_len (X n : Nat) : (lowL X n).length = n := by simp [lowL]
theorem lowL_succ (X n : Nat) : lowL X (n + 1) = lowL X n ++ [bitn X n] := by simp [lowL, List.range_succ]
theorem lowL_idx (X : Nat) {n i : Nat} (h : i < n) : idx (lowL X n) (i : Int) = some (bitn X i) := by
  rw [idx_nat]
  simp [lowL, h]
theorem lowL_idx' (X : Nat) {n : Nat} {j : Int} (h0 : 0 ≤ j) (h : j < n) : idx (lowL X n) j = some (bitn X j.toNat) := by
  obtain ⟨i, rfl⟩ := Int.eq_ofNat_of_zero_le h0
  exact lowL_idx X (by omega)
theorem bitn_eq (X i : Nat) : bitn X i = ((X / 2 ^ i % 2 : Nat) : Int) := by
  unfold bitn
  rw [Nat.testBit_eq_decide_div_mod_eq]
  have := Nat.mod_two_eq_zero_or_one (X / 2 ^ i)
  rcases this with h | h <;> simp [h]
theorem fits8 {a b : Nat} (h : a + b ≤ 17592186044416) : fits a b 8 = true := by
  unfold fits
  exact Nat.ble_eq_true_of_le (by omega)

theorem low_loop (X n : Nat) (hn : n ≤ 62) (hX : X < 4611686018427387904) : ∀ (k i : Nat), i + k = n → run_ratchetref01_low (.p116 ((X / 2 ^ i : Nat) : Int) n i (lowL X i)) = some (((), ()), (lowL X n, ()))
 | 0, i, h => by
   rw [run_ratchetref01_low, if_neg (by simp; omega)]
   obtain rfl : i = n := by omega
   rfl
 | k + 1, i, h => by
   rw [run_ratchetref01_low, if_pos (by simp; omega), if_pos (by decide), if_pos (by rw [lowL_len]; exact fits8 (by simp; omega)), if_pos (by decide)]
   have hle : X / 2 ^ i ≤ X := Nat.div_le_self _ _
   have e1 : Int.tmod ((X / 2 ^ i : Nat) : Int) 2 = bitn X i := by
     rw [Int.tmod_eq_emod_of_nonneg (Int.natCast_nonneg _), bitn_eq]; rfl
   have e2 : IntKind.wrap .i64 (Int.tdiv ((X / 2 ^ i : Nat) : Int) 2) = ((X / 2 ^ (i + 1) : Nat) : Int) := by
     have h1 : ((X / 2 ^ i : Nat) : Int).tdiv 2 = ((X / 2 ^ i / 2 : Nat) : Int) := by rw [Int.tdiv_eq_ediv_of_nonneg (Int.natCast_nonneg _)]; rfl
     rw [h1, Nat.div_div_eq_div_mul, ← Nat.pow_succ]
     have h2 : X / 2 ^ (i + 1) ≤ X := Nat.div_le_self _ _
     generalize X / 2 ^ (i + 1) = q at *
     exact wrap_i64 (by omega) (by omega)
   have e3 : IntKind.wrap .i64 ((i : Int) + 1) = ((i + 1 : Nat) : Int) := by rw [wrap_i64 (by omega) (by omega)]; rfl
   rw [e1, e2, e3, ← lowL_succ]
   exact low_loop X n hn hX k (i + 1) (by omega)
theorem low_eq (X n : Nat) (hn : n ≤ 62) (hX : X < 4611686018427387904) : run_ratchetref01_low (.start X n) = some (((), ()), (lowL X n, ())) := by
  rw [run_ratchetref01_low]
  have := low_loop X n hn hX n 0 (by omega)
  simpa [lowL] using this

theorem whole_loop (X n : Nat) (hn : n ≤ 62) (hX : X < 2 ^ n) : ∀ (i : Nat), i ≤ n → run_ratchetref01_whole (.p116 (lowL X n) ((X / 2 ^ i : Nat) : Int) ((i : Int) - 1)) = some (((X : Int), ()), ())
 | 0, h => by
   rw [run_ratchetref01_whole, if_neg (by simp)]
   simp
 | i + 1, h => by
   have hbig : X < 4611686018427387904 := Nat.lt_of_lt_of_le hX (Nat.pow_le_pow_right (by decide) hn)
   have e0 : (((i + 1 : Nat) : Int) - 1) = (i : Int) := by omega
   rw [run_ratchetref01_whole, e0, if_pos (by simp), lowL_idx X (by omega), some_bind', bitn_eq]
   have h1 : X / 2 ^ i = 2 * (X / 2 ^ (i + 1)) + X / 2 ^ i % 2 := by
     rw [Nat.pow_succ, ← Nat.div_div_eq_div_mul]; omega
   have h2 : X / 2 ^ i ≤ X := Nat.div_le_self _ _
   have e1 : IntKind.wrap .i64 (IntKind.wrap .i64 (2 * ((X / 2 ^ (i + 1) : Nat) : Int)) + ((X / 2 ^ i % 2 : Nat) : Int)) = ((X / 2 ^ i : Nat) : Int) := by
     generalize X / 2 ^ (i + 1) = q at *
     generalize X / 2 ^ i = p at *
     rw [wrap_i64 (x := 2 * (q : Int)) (by omega) (by omega), wrap_i64 (by omega) (by omega)]
     omega
   have e2 : IntKind.wrap .i64 ((i : Int) - 1) = (i : Int) - 1 := wrap_i64 (by omega) (by omega)
   rw [e1, e2]
   exact whole_loop X n hn hX i (by omega)
theorem whole_eq (X n : Nat) (hn : n ≤ 62) (hX : X < 2 ^ n) : run_ratchetref01_whole (.start (lowL X n)) = some (((X : Int), ()), ()) := by
  rw [run_ratchetref01_whole]
  have := whole_loop X n hn hX n (Nat.le_refl _)
  rw [Nat.div_eq_of_lt hX] at this
  rw [lowL_len, wrap_i64 (by omega) (by omega)]
  simpa using this
theorem pw_nat (n : Nat) : pw (n : Int) = ((2 ^ n : Nat) : Int) := by simp [pw]
end Go.Proofs.YtcgkjbglijganaaDoor.Ev.F
