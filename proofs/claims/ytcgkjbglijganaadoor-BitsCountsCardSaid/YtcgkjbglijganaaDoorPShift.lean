/- Shifts and rotations. -/
import Derived.Test.YtcgkjbglijganaaDoorPLow
set_option linter.unusedVariables false
set_option linter.unusedSimpArgs false
namespace Go.Proofs.YtcgkjbglijganaaDoor.Ev.F
open Go.Proofs.YtcgkjbglijganaaDoor.Ev

def shE (w v k b : Int) : Int := fst (chk w v) (fst (if 0 ≤ k ∧ k ≤ 4 then 0 else 15) (if 0 ≤ b ∧ b ≤ 16 then 0 else 2))
theorem ShiftErr_eq (w v k b : Int) : run_ratchetref01_ShiftErr (.start w v k b) = some ((shE w v k b, ()), ()) := by
  simp only [run_ratchetref01_ShiftErr, BitsErr_eq, some_bind', Within_eq, shE]
  generalize chk w v = e
  unfold fst
  by_cases h : e = 0 <;> by_cases h2 : 0 ≤ k ∧ k ≤ 4 <;> by_cases h3 : 0 ≤ b ∧ b ≤ 16 <;> simp [h, h2, h3]
theorem shE_zero {w v k b : Int} : shE w v k b = 0 ↔ (1 ≤ w ∧ w ≤ 16 ∧ 0 ≤ v ∧ v < pw w) ∧ (0 ≤ k ∧ k ≤ 4) ∧ 0 ≤ b ∧ b ≤ 16 := by
  unfold shE
  rw [fst_zero, fst_zero, chk_zero]
  constructor
  · rintro ⟨h1, h2, h3⟩
    exact ⟨h1, (by split at h2 <;> first | assumption | cases h2), (by split at h3 <;> first | assumption | cases h3)⟩
  · rintro ⟨h1, h2, h3⟩
    exact ⟨h1, if_pos h2, if_pos h3⟩

theorem or_nat {a b : Nat} (ha : a < 2 ^ 62) (hb : b < 2 ^ 62) : bits .or .i64 (a : Int) (b : Int) = ((a ||| b : Nat) : Int) := by
  rw [bits_eq]
  unfold bits0
  show IntKind.wrap .i64 (((BitVec.ofInt 64 (a : Int) ||| BitVec.ofInt 64 (b : Int)).toNat : Nat) : Int) = _
  rw [BitVec.toNat_or, BitVec.ofInt_natCast, BitVec.ofInt_natCast, BitVec.toNat_ofNat, BitVec.toNat_ofNat, Nat.mod_eq_of_lt (by omega), Nat.mod_eq_of_lt (by omega)]
  have := Nat.or_lt_two_pow ha hb
  exact wrap_i64 (by omega) (by omega)
theorem testBit_mul (v b i : Nat) : (v * 2 ^ b).testBit i = (decide (b ≤ i) && v.testBit (i - b)) := by
  rw [← Nat.shiftLeft_eq, Nat.testBit_shiftLeft]
theorem of_nat {n w : Nat} (hw : w ≤ 62) (hn : n < 2 ^ 62) : run_bits_of (.start n w) = some ((((w : Int), (((n % 2 ^ w : Nat) : Int), ())), ()), ()) := by
  rw [of_eq (by omega) (by omega) ⟨by omega, by omega⟩, pw_nat]
  rfl

/-- the value shifted in one of the ways -/
def shX (w v k b : Nat) : Nat :=
  match k with
  | 0 => v * 2 ^ b % 2 ^ w
  | 1 => v / 2 ^ b % 2 ^ w
  | 2 => if v < 2 ^ (w - 1) then v / 2 ^ b % 2 ^ w else 2 ^ w - 1 - (2 ^ w - 1 - v) / 2 ^ b
  | 3 => (v * 2 ^ (b % w) ||| v / 2 ^ (w - b % w)) % 2 ^ w
  | _ => (v * 2 ^ ((w - b % w) % w) ||| v / 2 ^ (w - (w - b % w) % w)) % 2 ^ w
theorem shX_lt {w v k b : Nat} : shX w v k b < 2 ^ w := by
  have hp := Nat.two_pow_pos w
  unfold shX
  split
  · exact Nat.mod_lt _ hp
  · exact Nat.mod_lt _ hp
  · split
    · exact Nat.mod_lt _ hp
    · exact Nat.lt_of_le_of_lt (Nat.sub_le _ _) (by omega)
  · exact Nat.mod_lt _ hp
  · exact Nat.mod_lt _ hp

theorem bitn_big {X w i : Nat} (h : X < 2 ^ w) (hi : w ≤ i) : bitn X i = 0 := by
  unfold bitn
  rw [Nat.testBit_lt_two_pow (Nat.lt_of_lt_of_le h (Nat.pow_le_pow_right (by decide) hi))]
  rfl
theorem rot_bit {w v r i : Nat} (hv : v < 2 ^ w) (hr : r < w) (hi : i < w) : bitn ((v * 2 ^ r ||| v / 2 ^ (w - r)) % 2 ^ w) i = bitn v (if r ≤ i then i - r else i + w - r) := by
  unfold bitn
  rw [Nat.testBit_mod_two_pow, Nat.testBit_or, testBit_mul, Nat.testBit_div_two_pow]
  by_cases h : r ≤ i
  · have : v.testBit (i + (w - r)) = false := Nat.testBit_lt_two_pow (Nat.lt_of_lt_of_le hv (Nat.pow_le_pow_right (by decide) (by omega)))
    simp [h, hi, this]
  · rw [show i + w - r = i + (w - r) by omega]
    simp [h, hi]

/-- what the reference lists at place i -/
def shI (w v k b i : Nat) : Int :=
  match k with
  | 0 => if b ≤ i then bitn v (i - b) else 0
  | 1 => if i + b < w then bitn v (i + b) else 0
  | 2 => bitn v (if w - 1 < i + b then w - 1 else i + b)
  | 3 => bitn v (((i : Int) - b) % w).toNat
  | _ => bitn v ((i + b) % w)
theorem shI_eq {w v k b i : Nat} (h : 1 ≤ w) (hv : v < 2 ^ w) (hk : k ≤ 4) (hi : i < w) : shI w v k b i = bitn (shX w v k b) i := by
  have hb : b % w < w := Nat.mod_lt _ (by omega)
  obtain rfl | rfl | rfl | rfl | rfl : k = 0 ∨ k = 1 ∨ k = 2 ∨ k = 3 ∨ k = 4 := by omega
  · simp only [shI, shX, bitn, Nat.testBit_mod_two_pow, testBit_mul]
    by_cases hb : b ≤ i <;> simp [hb, hi]
  · simp only [shI, shX, bitn, Nat.testBit_mod_two_pow, Nat.testBit_div_two_pow]
    by_cases hb : i + b < w
    · simp [hb, hi]
    · have : v.testBit (i + b) = false := Nat.testBit_lt_two_pow (Nat.lt_of_lt_of_le hv (Nat.pow_le_pow_right (by decide) (by omega)))
      simp [hb, this]
  · have h2 : 2 ^ w = 2 * 2 ^ (w - 1) := by rw [← Nat.pow_succ']; congr 1; omega
    have htop : v.testBit (w - 1) = decide (2 ^ (w - 1) ≤ v) := by
      rw [Nat.testBit_eq_decide_div_mod_eq]
      by_cases hh : 2 ^ (w - 1) ≤ v
      · have : v / 2 ^ (w - 1) = 1 := by
          apply Nat.div_eq_of_lt_le <;> omega
        simp [hh, this]
      · rw [Nat.div_eq_of_lt (by omega)]
        simp [hh]
    simp only [shI, shX]
    by_cases hn : v < 2 ^ (w - 1)
    · rw [if_pos hn]
      unfold bitn
      rw [Nat.testBit_mod_two_pow, Nat.testBit_div_two_pow]
      by_cases hb : w - 1 < i + b
      · have : v.testBit (i + b) = false := Nat.testBit_lt_two_pow (Nat.lt_of_lt_of_le hv (Nat.pow_le_pow_right (by decide) (by omega)))
        have hn' : ¬ 2 ^ (w - 1) ≤ v := by omega
        simp [hb, htop, this, hn']
      · simp [hb, hi]
    · rw [if_neg hn]
      have hm : (2 ^ w - 1 - v) / 2 ^ b < 2 ^ w := Nat.lt_of_le_of_lt (Nat.div_le_self _ _) (by omega)
      have e1 : 2 ^ w - 1 - (2 ^ w - 1 - v) / 2 ^ b = 2 ^ w - ((2 ^ w - 1 - v) / 2 ^ b + 1) := by omega
      have e2 : 2 ^ w - 1 - v = 2 ^ w - (v + 1) := by omega
      unfold bitn
      rw [e1, Nat.testBit_two_pow_sub_succ hm, Nat.testBit_div_two_pow, e2, Nat.testBit_two_pow_sub_succ hv]
      by_cases hb : w - 1 < i + b
      · have : ¬ (i + b < w) := by omega
        have hn' : 2 ^ (w - 1) ≤ v := by omega
        simp [hb, hi, htop, this, hn']
      · have : i + b < w := by omega
        simp [hb, hi, this]
  · simp only [shI, shX]
    rw [rot_bit hv hb hi]
    congr 1
    have e : ((i : Int) - b) % w = ((if b % w ≤ i then i - b % w else i + w - b % w : Nat) : Int) := by
      have h1 : (b : Int) = (b % w : Nat) + w * (b / w : Nat) := by exact_mod_cast (Nat.mod_add_div b w).symm
      generalize hr : b % w = r at *
      generalize b / w = q at *
      rw [h1]
      have h3 : (i : Int) - (r + w * q) = (i - r) - w * q := by omega
      rw [h3, Int.sub_mul_emod_self_left]
      split
      · rw [Int.emod_eq_of_lt (by omega) (by omega)]; omega
      · rw [← Int.add_emod_right, Int.emod_eq_of_lt (by omega) (by omega)]; omega
    rw [e]; rfl
  · simp only [shI, shX]
    rw [rot_bit hv (Nat.mod_lt _ (by omega)) hi]
    congr 1
    have h1 := Nat.mod_add_div b w
    generalize hr : b % w = r at *
    have h4 : (i + b) % w = (i + r) % w := by
      rw [← h1, ← Nat.add_assoc, Nat.add_mul_mod_self_left]
    rw [h4]
    by_cases h0 : r = 0
    · subst h0
      rw [Nat.sub_zero, Nat.mod_self, if_pos (by omega), Nat.add_zero, Nat.mod_eq_of_lt hi]; rfl
    · rw [Nat.mod_eq_of_lt (show w - r < w by omega)]
      split
      · rw [Nat.mod_eq_sub_mod (by omega), Nat.mod_eq_of_lt (by omega)]; omega
      · rw [Nat.mod_eq_of_lt (by omega)]; omega

/-! ### the program -/
theorem pow16 {w : Nat} (h : w ≤ 16) : 2 ^ w ≤ 65536 := Nat.pow_le_pow_right (n := 2) (by decide) h
theorem rot_eq {w v r : Nat} (h : 1 ≤ w) (hw : w ≤ 16) (hv : v < 2 ^ w) {b : Int} (h0 : 0 ≤ b) (hb : b.tmod w = (r : Int)) (hr : r < w) : run_bits_word_rotated (.start w v b) = some ((((w : Int), ((((v * 2 ^ r ||| v / 2 ^ (w - r)) % 2 ^ w : Nat) : Int), ())), ()), ()) := by
  have hp := pow16 hw
  have hpr := pow16 (w := r) (by omega)
  have e1 : IntKind.wrap .i64 ((w : Int) - (r : Int)) = ((w - r : Nat) : Int) := by rw [wrap_i64 (by omega) (by omega)]; omega
  have hm : v * 2 ^ r < 2 ^ 32 := Nat.lt_of_lt_of_le (Nat.mul_lt_mul_of_lt_of_le hv hpr (by omega)) (Nat.le_trans (Nat.mul_le_mul_right 65536 hp) (by decide))
  have hd : v / 2 ^ (w - r) ≤ v := Nat.div_le_self _ _
  have hor := Nat.or_lt_two_pow (x := v * 2 ^ r) (y := v / 2 ^ (w - r)) (n := 32) hm (Nat.lt_of_le_of_lt hd (by omega))
  have e2 : shl .i64 (v : Int) (r : Int) = ((v * 2 ^ r : Nat) : Int) := by
    have e : (v : Int) * pw r = ((v * 2 ^ r : Nat) : Int) := by rw [pw_nat, Int.natCast_mul]
    rw [shl_eq (by omega) (by rw [e]; omega) (by rw [e]; omega), e]
  have e3 : shr .i64 (v : Int) ((w - r : Nat) : Int) = ((v / 2 ^ (w - r) : Nat) : Int) := by rw [shr_eq (by omega), pw_nat]; rfl
  rw [run_bits_word_rotated, if_pos (by simp; omega), hb, if_pos (by simp), e1, if_pos (by simp), e2, e3, or_nat (Nat.lt_of_lt_of_le hm (by decide)) (by omega), of_nat (by omega) (by omega)]
  rfl
theorem Shifted_eq (w v k b : Int) : run_bits_Shifted (.start w v k b) = some (((if shE w v k b = 0 then (w, ((shX w.toNat v.toNat k.toNat b.toNat : Nat) : Int), ()) else (0, 0, ())), shE w v k b, ()), ()) := by
  rw [run_bits_Shifted, CheckBits_eq]
  simp only [within_eq, unless_eq, some_bind', decide_eq_true_eq]
  rw [first3]
  simp only [some_bind']
  by_cases hc : shE w v k b = 0
  · have hc' := hc
    unfold shE at hc'
    rw [if_neg (by rw [hc']; decide), if_pos hc]
    obtain ⟨⟨h, hw, h0, h1⟩, ⟨k0, k1⟩, b0, b1⟩ := shE_zero.1 hc
    rw [hc]
    clear hc hc'
    obtain ⟨w, rfl⟩ := Int.eq_ofNat_of_zero_le (show 0 ≤ w by omega)
    obtain ⟨v, rfl⟩ := Int.eq_ofNat_of_zero_le h0
    obtain ⟨b, rfl⟩ := Int.eq_ofNat_of_zero_le b0
    rw [pw_nat] at h1
    have hv : v < 2 ^ w := by omega
    have hw' : w ≤ 16 := by omega
    have hp := pow16 hw'
    have hpb := pow16 (w := b) (by omega)
    have hm : v * 2 ^ b < 2 ^ 32 := Nat.lt_of_lt_of_le (Nat.mul_lt_mul_of_lt_of_le hv hpb (by omega)) (Nat.le_trans (Nat.mul_le_mul_right 65536 hp) (by decide))
    have hbw : b % w < w := Nat.mod_lt _ (by omega)
    have htm : (b : Int).tmod w = ((b % w : Nat) : Int) := by rw [Int.tmod_eq_emod_of_nonneg (by omega)]; rfl
    obtain rfl | rfl | rfl | rfl | rfl : k = 0 ∨ k = 1 ∨ k = 2 ∨ k = 3 ∨ k = 4 := by omega
    · have e2 : shl .i64 (v : Int) (b : Int) = ((v * 2 ^ b : Nat) : Int) := by
        have e : (v : Int) * pw b = ((v * 2 ^ b : Nat) : Int) := by rw [pw_nat, Int.natCast_mul]
        rw [shl_eq (by omega) (by rw [e]; omega) (by rw [e]; omega), e]
      simp only [run_bits_Shifted_1, e2, of_nat (show w ≤ 62 by omega) (show v * 2 ^ b < 2 ^ 62 by omega), some_bind']
      simp [shX]
    · have e3 : shr .i64 (v : Int) (b : Int) = ((v / 2 ^ b : Nat) : Int) := by rw [shr_eq (by omega), pw_nat]; rfl
      have hd : v / 2 ^ b ≤ v := Nat.div_le_self _ _
      simp only [run_bits_Shifted_2, e3, of_nat (show w ≤ 62 by omega) (show v / 2 ^ b < 2 ^ 62 by omega), some_bind']
      simp [shX]
    · have hs := signed_eq (w := (w : Int)) (v := (v : Int)) h (by omega) (by omega) (by rw [pw_nat]; exact h1)
      have hsb := sgn_bound (w := (w : Int)) (v := (v : Int)) h (by omega) (by omega) (by rw [pw_nat]; exact h1)
      have hval : run_bits_of (.start (shr .i64 (sgn w v) b) w) = some ((((w : Int), (((shX w v 2 b : Nat) : Int), ())), ()), ()) := by
        have e3 : shr .i64 (sgn w v) (b : Int) = sgn w v / pw b := shr_eq (by omega)
        have hpw := pw_pos (b : Int)
        have hq : -65536 ≤ sgn w v / pw b ∧ sgn w v / pw b ≤ 65536 := by
          constructor
          · rw [Int.le_ediv_iff_mul_le hpw]
            have : -65536 * pw (b : Int) ≤ -65536 := by omega
            omega
          · have := Int.ediv_le_ediv hpw (show sgn w v ≤ 65536 * pw (b : Int) by omega)
            rw [Int.mul_ediv_cancel _ (by omega)] at this
            exact this
        rw [e3, of_eq (by omega) (by omega) ⟨by omega, by omega⟩]
        congr 4
        have hw1 : ((w : Int) - 1) = ((w - 1 : Nat) : Int) := by omega
        have h2 : 2 ^ w = 2 * 2 ^ (w - 1) := by rw [← Nat.pow_succ']; congr 1; omega
        unfold sgn shX
        rw [hw1, pw_nat, pw_nat, pw_nat]
        by_cases hn : v < 2 ^ (w - 1)
        · rw [if_pos (by omega), if_pos hn]; rfl
        · rw [if_neg (by omega), if_neg hn]
          have hu : (2 ^ w - 1 - v) / 2 ^ b ≤ 2 ^ w - 1 - v := Nat.div_le_self _ _
          have e4 : ((v : Int) - ((2 ^ w : Nat) : Int)) / ((2 ^ b : Nat) : Int) = -(((2 ^ w - 1 - v) / 2 ^ b : Nat) : Int) - 1 := by
            have e5 : (v : Int) - ((2 ^ w : Nat) : Int) = -(((2 ^ w - 1 - v : Nat) : Int) + 1) := by omega
            rw [e5]
            have := Int.negSucc_ediv (2 ^ w - 1 - v) (b := ((2 ^ b : Nat) : Int)) (by have := Nat.two_pow_pos b; omega)
            have e6 : -(((2 ^ w - 1 - v : Nat) : Int) + 1) = Int.negSucc (2 ^ w - 1 - v) := rfl
            rw [e6, this]
            have e7 : ((2 ^ w - 1 - v : Nat) : Int).ediv ((2 ^ b : Nat) : Int) = (((2 ^ w - 1 - v) / 2 ^ b : Nat) : Int) := rfl
            rw [e7]
            generalize (2 ^ w - 1 - v) / 2 ^ b = q
            omega
          rw [e4]
          clear e4
          generalize (2 ^ w - 1 - v) / 2 ^ b = q at *
          generalize 2 ^ w = p at *
          rw [← Int.add_emod_right, Int.emod_eq_of_lt (by omega) (by omega)]
          show ((-(q : Int) - 1 + (p : Int)), ()) = (((p - 1 - q : Nat) : Int), ())
          congr 1
          omega
      simp only [run_bits_Shifted_3, hs, some_bind', hval]
      simp
    · simp only [run_bits_Shifted_4, rot_eq (show 1 ≤ w by omega) hw' hv (Int.natCast_nonneg b) htm hbw, some_bind']
      simp [shX]
    · have e1 : IntKind.wrap .i64 ((w : Int) - ((b : Int).tmod w)) = ((w - b % w : Nat) : Int) := by rw [htm, wrap_i64 (by omega) (by omega)]; omega
      have e2 : ((w - b % w : Nat) : Int).tmod w = (((w - b % w) % w : Nat) : Int) := by rw [Int.tmod_eq_emod_of_nonneg (by omega)]; rfl
      have hne : (!((w : Int) == 0)) = true := by simp; omega
      simp only [run_bits_Shifted_5, hne, if_true, e1, rot_eq (show 1 ≤ w by omega) hw' hv (Int.natCast_nonneg (w - b % w)) e2 (Nat.mod_lt _ (by omega)), some_bind']
      simp [shX]
  · have hc' := hc
    unfold shE at hc'
    rw [if_pos (by simpa using hc'), if_neg hc]
    rfl

/-! ### the reference -/
theorem shift_loop {w v k b : Nat} (h : 1 ≤ w) (hw : w ≤ 16) (hv : v < 2 ^ w) (hk : k ≤ 4) (hb : b ≤ 16) : ∀ (m i : Nat), i + m = w → run_ratchetref01_Shift (.p244 k b i w v 0 0 (lowL v w) (lowL (shX w v k b) i)) = some ((((w : Int), (((shX w v k b : Nat) : Int), ())), ()), ())
 | 0, i, hm => by
   obtain rfl : i = w := by omega
   rw [run_ratchetref01_Shift, if_neg (by simp), whole_eq _ _ (by omega) shX_lt]
   rfl
 | m + 1, i, hm => by
   have hi : i < w := by omega
   have ih := shift_loop h hw hv hk hb m (i + 1) (by omega)
   have hx := shI_eq h hv hk hi (b := b)
   rw [lowL_succ, ← hx] at ih
   have e3 : IntKind.wrap .i64 ((i : Int) + 1) = ((i + 1 : Nat) : Int) := by rw [wrap_i64 (by omega) (by omega)]; rfl
   have hf : ∀ t : Int, fits i [t].length 8 = true := fun t => fits8 (by simp; omega)
   rw [run_ratchetref01_Shift, if_pos (by simp; omega)]
   simp only [e3, lowL_len]
   have w1 : IntKind.wrap .i64 ((i : Int) - (b : Int)) = (i : Int) - b := wrap_i64 (by omega) (by omega)
   have w2 : IntKind.wrap .i64 ((i : Int) + (b : Int)) = ((i + b : Nat) : Int) := by rw [wrap_i64 (by omega) (by omega)]; rfl
   have w3 : IntKind.wrap .i64 ((w : Int) - 1) = ((w - 1 : Nat) : Int) := by rw [wrap_i64 (by omega) (by omega)]; omega
   rw [w1, w2, w3]
   obtain rfl | rfl | rfl | rfl | rfl : k = 0 ∨ k = 1 ∨ k = 2 ∨ k = 3 ∨ k = 4 := by omega
   · simp only [shI] at ih
     by_cases hbi : b ≤ i
     · rw [if_pos hbi] at ih
       have e : (i : Int) - b = ((i - b : Nat) : Int) := by omega
       rw [if_pos (by decide), if_pos (by simp; omega), e, if_pos (by simp; omega), lowL_idx v (by omega)]
       simp only [some_bind', hf, if_true]
       exact ih
     · rw [if_neg hbi] at ih
       rw [if_pos (by decide), if_neg (by simp; omega)]
       simp only [some_bind', hf, if_true]
       exact ih
   · simp only [shI] at ih
     by_cases hbi : i + b < w
     · rw [if_pos hbi] at ih
       rw [if_neg (by decide), if_pos (by decide), if_pos (by simp; omega), if_pos (by simp; omega), lowL_idx v (by omega)]
       simp only [some_bind', hf, if_true]
       exact ih
     · rw [if_neg hbi] at ih
       rw [if_neg (by decide), if_pos (by decide), if_neg (by simp; omega)]
       simp only [some_bind', hf, if_true]
       exact ih
   · simp only [shI] at ih
     have e : (if ((w - 1 : Nat) : Int) < ((i + b : Nat) : Int) then ((w - 1 : Nat) : Int) else ((i + b : Nat) : Int)) = ((if w - 1 < i + b then w - 1 else i + b : Nat) : Int) := by
       split <;> split <;> omega
     have hlt : (if w - 1 < i + b then w - 1 else i + b) < w := by split <;> omega
     rw [e, if_neg (by decide), if_neg (by decide), if_pos (by decide)]
     generalize (if w - 1 < i + b then w - 1 else i + b) = j at *
     rw [if_pos (by simp; omega), lowL_idx v hlt]
     simp only [some_bind', hf, if_true]
     exact ih
   · simp only [shI] at ih
     rw [if_neg (by decide), if_neg (by decide), if_neg (by decide), if_pos (by decide), Mod_eq (by omega) (by omega), some_bind']
     have m0 := Int.emod_nonneg ((i : Int) - b) (show (w : Int) ≠ 0 by omega)
     have m1 := Int.emod_lt_of_pos ((i : Int) - b) (show (0 : Int) < w by omega)
     simp only
     rw [if_pos (by simp; omega), lowL_idx' v m0 m1]
     simp only [some_bind', hf, if_true]
     exact ih
   · simp only [shI] at ih
     rw [if_neg (by decide), if_neg (by decide), if_neg (by decide), if_neg (by decide), if_pos (by decide), Mod_eq (by omega) (by omega), some_bind']
     have e : (((i + b : Nat) : Int) % (w : Int)) = (((i + b) % w : Nat) : Int) := rfl
     have hlt : (i + b) % w < w := Nat.mod_lt _ (by omega)
     simp only [e]
     generalize (i + b) % w = j at *
     rw [if_pos (by simp; omega), lowL_idx v hlt]
     simp only [some_bind', hf, if_true]
     exact ih
theorem Shift_eq {w v k b : Nat} (h : 1 ≤ w) (hw : w ≤ 16) (hv : v < 2 ^ w) (hk : k ≤ 4) (hb : b ≤ 16) : run_ratchetref01_Shift (.start w v k b) = some ((((w : Int), (((shX w v k b : Nat) : Int), ())), ()), ()) := by
  have hp := pow16 hw
  rw [run_ratchetref01_Shift, low_eq v w (by omega) (by omega), some_bind']
  exact shift_loop h hw hv hk hb w 0 (by omega)

/-! ### the law -/
theorem rot_back {w v b : Nat} (h : 1 ≤ w) (hv : v < 2 ^ w) : shX w (shX w v 3 b) 4 b = v := by
  have hb : b % w < w := Nat.mod_lt _ (by omega)
  apply Nat.eq_of_testBit_eq
  intro i
  by_cases hi : i < w
  · have e1 := rot_bit (w := w) (v := shX w v 3 b) (r := (w - b % w) % w) (i := i) shX_lt (Nat.mod_lt _ (by omega)) hi
    have e2 : ∀ j, j < w → bitn (shX w v 3 b) j = bitn v (if b % w ≤ j then j - b % w else j + w - b % w) := fun j hj => rot_bit hv hb hj
    have hb2 : ∀ {X Y j l : Nat}, bitn X j = bitn Y l → X.testBit j = Y.testBit l := by
      intro X Y j l h
      unfold bitn at h
      cases h1 : X.testBit j <;> cases h2 : Y.testBit l <;> simp [h1, h2] at h ⊢
    apply hb2
    show bitn (shX w (shX w v 3 b) 4 b) i = bitn v i
    rw [show shX w (shX w v 3 b) 4 b = ((shX w v 3 b) * 2 ^ ((w - b % w) % w) ||| (shX w v 3 b) / 2 ^ (w - (w - b % w) % w)) % 2 ^ w from rfl, e1]
    generalize b % w = r at *
    by_cases h0 : r = 0
    · subst h0
      rw [Nat.sub_zero, Nat.mod_self, if_pos (by omega), Nat.sub_zero, e2 i hi, if_pos (by omega), Nat.sub_zero]
    · rw [Nat.mod_eq_of_lt (show w - r < w by omega)]
      by_cases h1 : w - r ≤ i
      · rw [if_pos h1, e2 _ (by omega), if_neg (by omega)]
        congr 1
        omega
      · rw [if_neg h1, e2 _ (by omega), if_pos (by omega)]
        congr 1
        omega
  · rw [Nat.testBit_lt_two_pow (Nat.lt_of_lt_of_le shX_lt (Nat.pow_le_pow_right (by decide) (by omega))), Nat.testBit_lt_two_pow (Nat.lt_of_lt_of_le hv (Nat.pow_le_pow_right (by decide) (by omega)))]
theorem shifts_true (w v k b : Int) : run_ratchetlaw01_BitsShifts (.start w v k b) = some ((true, ()), ()) := by
  rw [run_ratchetlaw01_BitsShifts, Shifted_eq, ShiftErr_eq]
  simp only [some_bind']
  rw [if_neg (by simp)]
  by_cases hc : shE w v k b = 0
  · obtain ⟨⟨h, hw, h0, h1⟩, ⟨k0, k1⟩, b0, b1⟩ := shE_zero.1 hc
    obtain ⟨w, rfl⟩ := Int.eq_ofNat_of_zero_le (show 0 ≤ w by omega)
    obtain ⟨v, rfl⟩ := Int.eq_ofNat_of_zero_le h0
    obtain ⟨b, rfl⟩ := Int.eq_ofNat_of_zero_le b0
    obtain ⟨k, rfl⟩ := Int.eq_ofNat_of_zero_le k0
    rw [pw_nat] at h1
    have hv : v < 2 ^ w := by omega
    rw [Shift_eq (by omega) (by omega) hv (by omega) (by omega)]
    have hp := pow16 (w := w) (by omega)
    have z3 : shE w v 3 b = 0 := shE_zero.2 ⟨⟨h, hw, by omega, by rw [pw_nat]; exact h1⟩, by omega, by omega, by omega⟩
    have hx := shX_lt (w := w) (v := v) (k := 3) (b := b)
    have z4 : shE w ((shX w v 3 b : Nat) : Int) 4 b = 0 := shE_zero.2 ⟨⟨h, hw, by omega, by rw [pw_nat]; omega⟩, by omega, by omega, by omega⟩
    have key : run_ratchetlaw01_BitsShifts (.p63 b w v) = some ((true, ()), ()) := by
      rw [run_ratchetlaw01_BitsShifts, Shifted_eq, some_bind']
      simp only [z3, if_true]
      have t3 : Int.toNat 3 = 3 := rfl
      have t4 : Int.toNat 4 = 4 := rfl
      simp only [Int.toNat_natCast, t3]
      rw [Shifted_eq, some_bind']
      simp only [z4, if_true, Int.toNat_natCast, t4, rot_back (show 1 ≤ w by omega) hv]
      simp
    simp [hc, some_bind', key]
  · simp [hc]
end Go.Proofs.YtcgkjbglijganaaDoor.Ev.F
