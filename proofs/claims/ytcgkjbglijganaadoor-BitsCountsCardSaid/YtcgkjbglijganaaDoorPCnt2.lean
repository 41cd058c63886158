/- Bits counted: the library's and the reference's counts. -/
import Derived.Test.YtcgkjbglijganaaDoorPCnt
import Derived.Test.YtcgkjbglijganaaDoorPGray
set_option linter.unusedVariables false
set_option linter.unusedSimpArgs false
namespace Go.Proofs.YtcgkjbglijganaaDoor.Ev.F
open Go.Proofs.YtcgkjbglijganaaDoor.Ev

def len8tab : ByteArray := (⟨#[0, 1, 2, 2, 3, 3, 3, 3, 4, 4, 4, 4, 4, 4, 4, 4, 5, 5, 5, 5, 5, 5, 5, 5, 5, 5, 5, 5, 5, 5, 5, 5, 6, 6, 6, 6, 6, 6, 6, 6, 6, 6, 6, 6, 6, 6, 6, 6, 6, 6, 6, 6, 6, 6, 6, 6, 6, 6, 6, 6, 6, 6, 6, 6, 7, 7, 7, 7, 7, 7, 7, 7, 7, 7, 7, 7, 7, 7, 7, 7, 7, 7, 7, 7, 7, 7, 7, 7, 7, 7, 7, 7, 7, 7, 7, 7, 7, 7, 7, 7, 7, 7, 7, 7, 7, 7, 7, 7, 7, 7, 7, 7, 7, 7, 7, 7, 7, 7, 7, 7, 7, 7, 7, 7, 7, 7, 7, 7, 8, 8, 8, 8, 8, 8, 8, 8, 8, 8, 8, 8, 8, 8, 8, 8, 8, 8, 8, 8, 8, 8, 8, 8, 8, 8, 8, 8, 8, 8, 8, 8, 8, 8, 8, 8, 8, 8, 8, 8, 8, 8, 8, 8, 8, 8, 8, 8, 8, 8, 8, 8, 8, 8, 8, 8, 8, 8, 8, 8, 8, 8, 8, 8, 8, 8, 8, 8, 8, 8, 8, 8, 8, 8, 8, 8, 8, 8, 8, 8, 8, 8, 8, 8, 8, 8, 8, 8, 8, 8, 8, 8, 8, 8, 8, 8, 8, 8, 8, 8, 8, 8, 8, 8, 8, 8, 8, 8, 8, 8, 8, 8, 8, 8, 8, 8, 8, 8, 8, 8, 8, 8, 8, 8, 8, 8, 8, 8]⟩ : ByteArray)
/-- one more than the highest one among the n lower bits; 0 if there is none -/
def lastN : Nat → Nat → Nat
 | 0, _ => 0
 | n + 1, x => bif Nat.beq (bitAt x n) 1 then n + 1 else lastN n x
/-- the lowest one among the n lower bits, or w -/
def firstN (w : Nat) : Nat → Nat → Nat
 | 0, _ => w
 | n + 1, x => bif Nat.beq (bitAt x n) 1 then (bif Nat.blt n (firstN w n x) then n else firstN w n x) else firstN w n x
theorem len8_all : allB (fun y => Nat.beq ((len8tab.data.toList.getD y 0).toNat) (lastN 8 y)) 8 0 = true := by kernel_rfl
theorem last8_all : allB (fun y => bif Nat.beq y 0 then true else Nat.ble 1 (lastN 8 y)) 8 0 = true := by kernel_rfl
theorem len8_tab {y : Nat} (h : y < 256) : sidx len8tab (y : Int) = some ((lastN 8 y : Nat) : Int) := by
  have h1 := Nat.eq_of_beq_eq_true (allB_spec (p := fun y => Nat.beq ((len8tab.data.toList.getD y 0).toNat) (lastN 8 y)) 8 0 y len8_all (by omega))
  have hl : len8tab.data.toList.length = 256 := by kernel_rfl
  unfold sidx
  rw [if_pos (by omega), Int.toNat_natCast, List.getElem?_eq_getElem (by omega)]
  rw [List.getD_eq_getElem?_getD, List.getElem?_eq_getElem (by omega)] at h1
  simp only [Option.getD_some] at h1
  simp only [Option.map_some, h1]
theorem bitAt_eq (X i : Nat) : bitAt X i = X / 2 ^ i % 2 := by show (X >>> i) % 2 = _; rw [Nat.shiftRight_eq_div_pow]
theorem bitn_at (X i : Nat) : bitn X i = ((bitAt X i : Nat) : Int) := by rw [bitn_eq, bitAt_eq]
theorem bitAt_01 (X i : Nat) : bitAt X i = 0 ∨ bitAt X i = 1 := by rw [bitAt_eq]; omega
theorem bitAt_hi (X i k : Nat) : bitAt X (k + i) = bitAt (X / 2 ^ k) i := by rw [bitAt_eq, bitAt_eq, Nat.div_div_eq_div_mul, Nat.pow_add]
theorem bitAt_out {X i : Nat} (h : X < 2 ^ i) : bitAt X i = 0 := by rw [bitAt_eq, Nat.div_eq_of_lt h]
theorem lastN_hi (X : Nat) : ∀ i, (lastN i (X / 256) ≠ 0 → lastN (8 + i) X = 8 + lastN i (X / 256)) ∧ (lastN i (X / 256) = 0 → lastN (8 + i) X = lastN 8 X)
 | 0 => ⟨fun h => absurd rfl h, fun _ => rfl⟩
 | i + 1 => by
   have hb : bitAt X (8 + i) = bitAt (X / 256) i := bitAt_hi X i 8
   obtain ⟨h1, h2⟩ := lastN_hi X i
   rw [← Nat.add_assoc]
   simp only [lastN, hb]
   cases hc : Nat.beq (bitAt (X / 256) i) 1 with
   | true => simp only [cond_true]; exact ⟨fun _ => by omega, fun h => by omega⟩
   | false => simp only [cond_false]; exact ⟨h1, h2⟩
theorem last16_lo {X : Nat} (h : X < 256) : lastN 16 X = lastN 8 X := by
  refine (lastN_hi X 8).2 ?_
  rw [Nat.div_eq_of_lt h]; rfl
theorem last16_hi {X : Nat} (h : 256 ≤ X) (hX : X < 65536) : lastN 16 X = 8 + lastN 8 (X / 256) := by
  refine (lastN_hi X 8).1 ?_
  have := allB_spec (p := fun y => bif Nat.beq y 0 then true else Nat.ble 1 (lastN 8 y)) 8 0 (X / 256) last8_all (by omega)
  have h0 : Nat.beq (X / 256) 0 = false := by
    cases hb : Nat.beq (X / 256) 0 with
    | false => rfl
    | true => have := Nat.eq_of_beq_eq_true hb; omega
  rw [h0] at this
  have := Nat.le_of_ble_eq_true this
  omega
theorem lastN_le : ∀ (n X : Nat), lastN n X ≤ n
 | 0, _ => Nat.le_refl _
 | n + 1, X => by
   unfold lastN
   have := lastN_le n X
   cases Nat.beq (bitAt X n) 1 <;> simp <;> omega
theorem Len_p31 {y n : Nat} (h : y < 256) (hn : n ≤ 64) : run_math_bits_Len64 (.p31 (y : Int) (n : Int)) = some ((((n + lastN 8 y : Nat) : Int), ()), ()) := by
  have h1 := lastN_le 8 y
  have ht := len8_tab h
  unfold len8tab at ht
  rw [run_math_bits_Len64, wrap_u8' (by omega) (by omega), ht, some_bind', wrap_i64 (x := ((lastN 8 y : Nat) : Int)) (by omega) (by omega), wrap_i64 (by omega) (by omega)]
  rfl
theorem Len_eq {X : Nat} (h : X < 65536) : run_math_bits_Len (.start (X : Int)) = some ((((lastN 16 X : Nat) : Int), ()), ()) := by
  rw [run_math_bits_Len, run_math_bits_Len64, if_neg (by simp; omega), run_math_bits_Len64, if_neg (by simp; omega), run_math_bits_Len64]
  by_cases hx : 256 ≤ X
  · have e := shr_u64 X 8 (by decide)
    simp only [Int.cast_ofNat_Int] at e
    have e2 : X >>> 8 = X / 256 := by rw [Nat.shiftRight_eq_div_pow]
    rw [if_pos (by simp; omega), if_pos (by decide), e, e2, show IntKind.wrap .i64 ((0 : Int) + 8) = ((8 : Nat) : Int) by decide, Len_p31 (by omega) (by omega), ← last16_hi hx h]
    rfl
  · rw [if_neg (by simp; omega), show (0 : Int) = ((0 : Nat) : Int) from rfl, Len_p31 (by omega) (by omega), Nat.zero_add, ← last16_lo (by omega)]
    rfl

/-! ### the lowest one -/
theorem glob2_at : glob2 = Lib.deBruijn64tab.map fun n : Nat => (n : Int) := by decide
theorem TZ_zero : run_math_bits_TrailingZeros (.start (0 : Int)) = some (((64 : Int), ()), ()) := by
  simp only [run_math_bits_TrailingZeros, run_math_bits_TrailingZeros64]
  rfl
theorem neg64 {X : Nat} (h : X < 65536) (h0 : X ≠ 0) : IntKind.wrap .u64 (0 - (X : Int)) = ((18446744073709551616 - X : Nat) : Int) := by rw [wrapU]; omega
theorem mulU (a b : Nat) : IntKind.wrap .u64 ((a : Int) * (b : Int)) = ((a * b % 18446744073709551616 : Nat) : Int) := by rw [← Int.natCast_mul, wrap_u64n]
theorem tab64 {q k : Nat} (hq : q < 64) (h : Lib.deBruijn64tab.getD q 0 = k) : idx glob2 (q : Int) = some (k : Int) := by
  have hl : q < Lib.deBruijn64tab.length := by rw [show Lib.deBruijn64tab.length = 64 by decide]; exact hq
  rw [List.getD_eq_getElem?_getD, List.getElem?_eq_getElem hl, Option.getD_some] at h
  rw [idx_nat, glob2_at, List.getElem?_map, List.getElem?_eq_getElem hl, Option.map_some, h]
theorem shr58 (A : Nat) : shr .u64 (A : Int) (58 : Int) = ((A / 288230376151711744 : Nat) : Int) := by
  have := shr_u64 A 58 (by decide)
  rw [Nat.shiftRight_eq_div_pow] at this
  exact this
theorem ne_zero_int {X : Nat} (h : X ≠ 0) : ¬ (((X : Int) == (0 : Int)) = true) := by simp; omega
theorem lt64 {X : Nat} (h : X < 65536) : X < 2 ^ 64 ∧ 18446744073709551616 - X < 2 ^ 64 + 1 := by omega
theorem and_neg64 {X a : Nat} (h : X < 65536) (h0 : X ≠ 0) (ha : X &&& (2 ^ 64 - X) = a) : bits .and .u64 (X : Int) ((18446744073709551616 - X : Nat) : Int) = (a : Int) := by
  rw [and_small (by omega) (by omega), ← ha]
theorem TZ_run {X t : Nat} (h0 : X ≠ 0) (h : X < 65536) (ht : t < 64) (ha : X &&& (2 ^ 64 - X) = 2 ^ t) (hi : 2 ^ t * 285870213051353865 % 18446744073709551616 / 288230376151711744 < 64) (hk : Lib.deBruijn64tab.getD (2 ^ t * 285870213051353865 % 18446744073709551616 / 288230376151711744) 0 = t) :
    run_math_bits_TrailingZeros (.start (X : Int)) = some ((((t : Nat) : Int), ()), ()) := by
  have e := tab64 hi hk
  have em := mulU (2 ^ t) 285870213051353865
  have ew : IntKind.wrap .i64 (t : Int) = (t : Int) := wrap_i64 (Int.le_trans (by decide) (Int.natCast_nonneg t)) (Int.lt_trans (Int.ofNat_lt.2 ht) (by decide))
  simp only [run_math_bits_TrailingZeros, run_math_bits_TrailingZeros64]
  rw [if_neg (ne_zero_int h0), if_pos (by decide), neg64 h h0, and_neg64 h h0 ha]
  rw [show (285870213051353865 : Int) = ((285870213051353865 : Nat) : Int) from rfl, em, shr58, e, some_bind', ew, some_bind']
theorem TZ_eq {X : Nat} (h0 : X ≠ 0) (h : X < 65536) : ∃ t, run_math_bits_TrailingZeros (.start (X : Int)) = some ((((t : Nat) : Int), ()), ()) ∧ t < 64 ∧ ∃ m, X = 2 ^ t * (2 * m + 1) := by
  have hX := (lt64 h).1
  obtain ⟨hlow, hk⟩ := Lib.lowest_bit 64 X h0 hX
  obtain ⟨hi, htab⟩ := Lib.deBruijn64_at _ hk
  obtain ⟨m, hm, _⟩ := Lib.ctzFrom_spec 64 X (Nat.pos_of_ne_zero h0) hX
  have hctz : Lib.ctz 64 X = Lib.ctzFrom 64 X := by unfold Lib.ctz; rw [if_neg h0]
  rw [← hctz] at hm
  exact ⟨_, TZ_run h0 h hk hlow hi htab, hk, m, hm⟩
theorem low_bits {X t m : Nat} (hm : X = 2 ^ t * (2 * m + 1)) : bitAt X t = 1 ∧ ∀ j, j < t → bitAt X j = 0 := by
  subst hm
  constructor
  · rw [bitAt_eq, Nat.mul_div_cancel_left _ (Nat.two_pow_pos t)]; omega
  · intro j hj
    obtain ⟨k, rfl⟩ : ∃ k, t = j + (k + 1) := ⟨t - j - 1, by omega⟩
    rw [bitAt_eq, Nat.pow_add, Nat.mul_assoc, Nat.mul_div_cancel_left _ (Nat.two_pow_pos j), Nat.pow_succ, Nat.mul_comm (2 ^ k) 2, Nat.mul_assoc]
    omega
theorem firstN_eq {w X t : Nat} (hb : bitAt X t = 1) (hl : ∀ j, j < t → bitAt X j = 0) (ht : t < w) : ∀ n, n ≤ w → firstN w n X = if t < n then t else w
 | 0, _ => by simp [firstN]
 | n + 1, h => by
   unfold firstN
   rw [firstN_eq hb hl ht n (by omega)]
   by_cases h1 : t < n
   · rw [if_pos h1, if_pos (by omega)]
     have : Nat.blt n t = false := by
       cases hb : Nat.blt n t with
       | false => rfl
       | true => have : n < t := Nat.le_of_ble_eq_true hb; omega
     rw [this]
     cases Nat.beq (bitAt X n) 1 <;> rfl
   · rw [if_neg h1]
     by_cases h2 : t = n
     · subst h2
       rw [hb, if_pos (by omega), show Nat.blt t w = true from Nat.ble_eq_true_of_le ht]
       rfl
     · rw [hl n (by omega), if_neg (by omega)]
       rfl
theorem firstN_zero (w : Nat) : ∀ n, firstN w n 0 = w
 | 0 => rfl
 | n + 1 => by
   unfold firstN
   rw [show bitAt 0 n = 0 by rw [bitAt_eq]; simp, firstN_zero w n]
   rfl
theorem popN_ext {X n : Nat} (h : X < 2 ^ n) : ∀ k, popN (n + k) X = popN n X
 | 0 => rfl
 | k + 1 => by
   rw [← Nat.add_assoc]
   rw [show popN (n + k + 1) X = popN (n + k) X + bitAt X (n + k) from rfl, bitAt_out (Nat.lt_of_lt_of_le h (Nat.pow_le_pow_right (by decide) (by omega))), popN_ext h k]
   rfl
theorem lastN_ext {X n : Nat} (h : X < 2 ^ n) : ∀ k, lastN (n + k) X = lastN n X
 | 0 => rfl
 | k + 1 => by
   rw [← Nat.add_assoc]
   rw [show lastN (n + k + 1) X = (bif Nat.beq (bitAt X (n + k)) 1 then n + k + 1 else lastN (n + k) X) from rfl, bitAt_out (Nat.lt_of_lt_of_le h (Nat.pow_le_pow_right (by decide) (by omega))), lastN_ext h k]
   rfl
theorem popN_le : ∀ (n X : Nat), popN n X ≤ n
 | 0, _ => Nat.le_refl _
 | n + 1, X => by
   unfold popN
   have := popN_le n X
   have := bitAt_01 X n
   omega

theorem Counts_loop (X n : Nat) (hn : n ≤ 16) (v p q r s u : Int) : ∀ (k i : Nat), i + k = n →
    run_ratchetref01_Counts (.p244 (i : Int) (n : Int) v p q r s (lowL X n) ((popN i X : Nat) : Int) ((n - lastN i X : Nat) : Int) ((firstN n i X : Nat) : Int) u) = some (((((popN n X : Nat) : Int), ((n - lastN n X : Nat) : Int), ((firstN n n X : Nat) : Int), (((popN n X : Nat) : Int).tmod 2), ()), ()), ())
 | 0, i, h => by
   obtain rfl : i = n := by omega
   rw [run_ratchetref01_Counts, if_neg (by simp), if_pos (by decide)]
 | k + 1, i, h => by
   have h1 := popN_le i X
   have h2 := lastN_le i X
   rw [run_ratchetref01_Counts, if_pos (by simp; omega), if_pos (by simp [lowL_len]; omega), lowL_idx X (by omega), some_bind', bitn_at, wrapS (by omega)]
   rcases bitAt_01 X i with hb | hb
   · have e1 : popN (i + 1) X = popN i X := by rw [popN, hb, Nat.add_zero]
     have e2 : lastN (i + 1) X = lastN i X := by rw [lastN, hb]; rfl
     have e3 : firstN n (i + 1) X = firstN n i X := by rw [firstN, hb]; rfl
     rw [hb, if_neg (by decide), ← Counts_loop X n hn v p q r s u k (i + 1) (by omega), e1, e2, e3]
   · have e1 : popN (i + 1) X = popN i X + 1 := by rw [popN, hb]
     have e2 : lastN (i + 1) X = i + 1 := by rw [lastN, hb]; rfl
     have e3 : (if (i : Int) < ((firstN n i X : Nat) : Int) then (i : Int) else ((firstN n i X : Nat) : Int)) = ((firstN n (i + 1) X : Nat) : Int) := by
       rw [firstN, hb]
       simp only [Nat.beq_refl, cond_true]
       by_cases h3 : i < firstN n i X
       · rw [if_pos (by omega), show Nat.blt i (firstN n i X) = true from Nat.ble_eq_true_of_le h3]; rfl
       · rw [if_neg (by omega)]
         have : Nat.blt i (firstN n i X) = false := by
           cases hb : Nat.blt i (firstN n i X) with
           | false => rfl
           | true => have : i < firstN n i X := Nat.le_of_ble_eq_true hb; omega
         rw [this]; rfl
     have e4 : IntKind.wrap .i64 (IntKind.wrap .i64 ((n : Int) - 1) - (i : Int)) = ((n - (i + 1) : Nat) : Int) := by
       rw [wrap_i64 (x := (n : Int) - 1) (by omega) (by omega), wrap_i64 (by omega) (by omega)]; omega
     rw [hb, if_pos (by decide), e3, e4, wrapS (by omega), ← Counts_loop X n hn v p q r s u k (i + 1) (by omega), e1, e2]
theorem Counts_eq {X n : Nat} (hn : n ≤ 16) (hX : X < 2 ^ n) : run_ratchetref01_Counts (.start (n : Int) (X : Int)) = some (((((popN n X : Nat) : Int), ((n - lastN n X : Nat) : Int), ((firstN n n X : Nat) : Int), (((popN n X : Nat) : Int).tmod 2), ()), ()), ()) := by
  have h16 : (2 : Nat) ^ n ≤ 2 ^ 16 := Nat.pow_le_pow_right (by decide) hn
  rw [run_ratchetref01_Counts, low_eq X n (by omega) (by omega), some_bind']
  exact Counts_loop X n hn _ _ _ _ _ _ n 0 (by omega)

/-- what is counted in X, of width n -/
def cnt (n X : Nat) : Int × Int × Int × Int × Unit := (((popN n X : Nat) : Int), ((n - lastN n X : Nat) : Int), ((firstN n n X : Nat) : Int), (((popN n X : Nat) : Int).tmod 2), ())
theorem tz_min {X n : Nat} (hn : n ≤ 16) (hX : X < 2 ^ n) : ∃ t : Nat, run_math_bits_TrailingZeros (.start (X : Int)) = some ((((t : Nat) : Int), ()), ()) ∧ (if (t : Int) < (n : Int) then (t : Int) else (n : Int)) = ((firstN n n X : Nat) : Int) ∧ (X ≠ 0 → t < n) := by
  have h16 : (2 : Nat) ^ n ≤ 2 ^ 16 := Nat.pow_le_pow_right (by decide) hn
  by_cases h0 : X = 0
  · subst h0
    refine ⟨64, TZ_zero, ?_, fun h => absurd rfl h⟩
    rw [firstN_zero, if_neg (by omega)]
  · obtain ⟨t, h1, h2, m, hm⟩ := TZ_eq h0 (by omega)
    obtain ⟨hb, hl⟩ := low_bits hm
    have ht : t < n := by
      rcases Nat.lt_or_ge t n with h | h
      · exact h
      · have : bitAt X t = 0 := bitAt_out (Nat.lt_of_lt_of_le hX (Nat.pow_le_pow_right (by decide) h))
        omega
    exact ⟨t, h1, by rw [firstN_eq hb hl ht n (Nat.le_refl _), if_pos ht, if_pos (by omega)], fun _ => ht⟩
theorem nat_of_chk {w v : Int} (hc : chk w v = 0) : ∃ n X : Nat, w = (n : Int) ∧ v = (X : Int) ∧ 1 ≤ n ∧ n ≤ 16 ∧ X < 2 ^ n := by
  obtain ⟨h, hw, h0, h1⟩ := chk_zero.1 hc
  obtain ⟨n, rfl⟩ := Int.eq_ofNat_of_zero_le (show 0 ≤ w by omega)
  obtain ⟨X, rfl⟩ := Int.eq_ofNat_of_zero_le h0
  rw [pw_nat] at h1
  exact ⟨n, X, rfl, rfl, by omega, by omega, by omega⟩
theorem ones_n {n X : Nat} (hn : n ≤ 16) (hX : X < 2 ^ n) : popN 16 X = popN n X ∧ lastN 16 X = lastN n X := by
  have h1 := popN_ext hX (16 - n)
  have h2 := lastN_ext hX (16 - n)
  rw [show n + (16 - n) = 16 by omega] at h1 h2
  exact ⟨h1, h2⟩
theorem wrapU_n {X : Nat} (h : X < 65536) : IntKind.wrap .u64 (X : Int) = (X : Int) := by rw [wrapU]; omega
theorem CountsOf_eq (w v : Int) : run_bits_CountsOf (.start w v) = some (((if chk w v = 0 then cnt w.toNat v.toNat else (0, 0, 0, 0, ())), chk w v, ()), ()) := by
  simp only [run_bits_CountsOf, CheckBits_eq, some_bind']
  by_cases hc : chk w v = 0
  · obtain ⟨n, X, rfl, rfl, hn, hn2, hX⟩ := nat_of_chk hc
    have h16 : (2 : Nat) ^ n ≤ 2 ^ 16 := Nat.pow_le_pow_right (by decide) hn2
    obtain ⟨t, ht, hm, _⟩ := tz_min hn2 hX
    obtain ⟨h1, h2⟩ := ones_n hn2 hX
    have h3 := lastN_le n X
    rw [if_neg (by simp [hc]), wrapU_n (by omega), OnesCount_eq (by omega), some_bind', Len_eq (by omega), some_bind', ht, some_bind', if_pos (by decide), if_pos hc, hc]
    simp only [hm, h1, h2, cnt, Int.toNat_natCast]
    rw [wrap_i64 (by omega) (by omega), show (n : Int) - ((lastN n X : Nat) : Int) = ((n - lastN n X : Nat) : Int) by omega]
  · rw [if_pos (by simpa using hc), if_neg hc]
end Go.Proofs.YtcgkjbglijganaaDoor.Ev.F
