/- Fields of values, values joined. -/
import Derived.Test.YtcgkjbglijganaaDoorPShift
set_option linter.unusedVariables false
set_option linter.unusedSimpArgs false
namespace Go.Proofs.YtcgkjbglijganaaDoor.Ev.F
open Go.Proofs.YtcgkjbglijganaaDoor.Ev

def spotE (w lo wd : Int) : Int := if (0 ≤ lo ∧ lo ≤ 16) ∧ 1 ≤ wd ∧ wd ≤ 16 then (if lo + wd ≤ w then 0 else 25) else 2
def fieldE (w v lo wd : Int) : Int := fst (chk w v) (spotE w lo wd)
theorem spotErr_eq (w v lo wd : Int) : run_ratchetref01_spotErr (.start w v lo wd) = some ((spotE w lo wd, ()), ()) := by
  rw [run_ratchetref01_spotErr, Within_eq, some_bind']
  unfold spotE
  by_cases h : 0 ≤ lo ∧ lo ≤ 16
  · rw [if_neg (by simp [h]), IsWidth_eq, some_bind']
    by_cases h2 : 1 ≤ wd ∧ wd ≤ 16
    · rw [if_neg (by simp [h2]), run_ratchetref01_spotErr, wrap_i64 (by omega) (by omega)]
      by_cases h3 : lo + wd ≤ w
      · rw [if_neg (by simp; omega)]; simp [h, h2, h3]
      · rw [if_pos (by simp; omega)]; simp [h, h2, h3]
    · simp [h, h2]
  · simp [h]
theorem FieldErr_eq (w v lo wd : Int) : run_ratchetref01_FieldErr (.start w v lo wd) = some ((fieldE w v lo wd, ()), ()) := by
  simp only [run_ratchetref01_FieldErr, BitsErr_eq, spotErr_eq, some_bind', fieldE, fst]
  by_cases h : chk w v = 0 <;> simp [h]
theorem fieldE_zero {w v lo wd : Int} : fieldE w v lo wd = 0 ↔ (1 ≤ w ∧ w ≤ 16 ∧ 0 ≤ v ∧ v < pw w) ∧ (0 ≤ lo ∧ lo ≤ 16) ∧ (1 ≤ wd ∧ wd ≤ 16) ∧ lo + wd ≤ w := by
  unfold fieldE
  rw [fst_zero, chk_zero]
  unfold spotE
  constructor
  · rintro ⟨h1, h2⟩
    split at h2
    · split at h2
      · rename_i h3 h4; exact ⟨h1, h3.1, h3.2, h4⟩
      · cases h2
    · cases h2
  · rintro ⟨h1, h2, h3, h4⟩
    exact ⟨h1, by rw [if_pos ⟨h2, h3⟩, if_pos h4]⟩
def fieldX (v lo wd : Int) : Int := v / pw lo % pw wd
theorem FieldOf_eq (w v lo wd : Int) : run_bits_FieldOf (.start w v lo wd) = some (((if fieldE w v lo wd = 0 then (wd, fieldX v lo wd, ()) else (0, 0, ())), fieldE w v lo wd, ()), ()) := by
  have p7 : ∀ e : Int, (e = fst (chk w v) (if (0 ≤ lo ∧ lo ≤ 16) ∧ 1 ≤ wd ∧ wd ≤ 16 then 0 else 2)) → run_bits_FieldOf (.p7 lo wd e w v 0 0) = some (((if fieldE w v lo wd = 0 then (wd, fieldX v lo wd, ()) else (0, 0, ())), fieldE w v lo wd, ()), ()) := by
    intro e he
    rw [run_bits_FieldOf, unless_eq, some_bind', first2, some_bind']
    have hE : fst e (if decide (IntKind.wrap .i64 (lo + wd) ≤ w) = true then 0 else 25) = fieldE w v lo wd := by
      rw [he, ← fst_assoc]
      unfold fieldE spotE
      by_cases h : (0 ≤ lo ∧ lo ≤ 16) ∧ 1 ≤ wd ∧ wd ≤ 16
      · rw [if_pos h, if_pos h, wrap_i64 (by omega) (by omega)]
        simp [fst]
      · rw [if_neg h, if_neg h]
        simp [fst]
    simp only [hE]
    by_cases hc : fieldE w v lo wd = 0
    · obtain ⟨⟨h1, h2, h3, h4⟩, h5, h6, h7⟩ := fieldE_zero.1 hc
      have hp := pw_16 h2
      have hl := pw_pos lo
      have hd : 0 ≤ v / pw lo := Int.ediv_nonneg h3 (by omega)
      have hd2 : v / pw lo ≤ v := Int.ediv_le_self _ h3
      rw [if_neg (by simp [hc]), if_pos (by simp; omega), shr_eq (by omega), of_eq (by omega) (by omega) ⟨by omega, by omega⟩]
      simp [hc, fieldX, some_bind']
    · rw [if_pos (by simpa using hc), if_neg hc]
  rw [run_bits_FieldOf, CheckBits_eq, some_bind', within_eq, some_bind']
  by_cases h : 0 ≤ lo ∧ lo ≤ 16
  · rw [if_pos (by simp [h]), isWidth_eq, some_bind', unless_eq, some_bind', first2, some_bind']
    exact p7 _ (by simp [h])
  · rw [if_neg (by simp [h]), unless_eq, some_bind', first2, some_bind']
    exact p7 _ (by simp [h])
theorem Field_eq {v lo wd : Int} (h0 : 0 ≤ v) (h1 : v < 65536) (l0 : 0 ≤ lo) (l1 : lo ≤ 16) (w0 : 0 ≤ wd) (w1 : wd ≤ 16) (w : Int) : run_ratchetref01_Field (.start w v lo wd) = some (((wd, fieldX v lo wd, ()), ()), ()) := by
  have hl := pw_pos lo
  have hw := pw_pos wd
  have hw2 := pw_16 w1
  have hd : 0 ≤ v / pw lo := Int.ediv_nonneg h0 (by omega)
  have hd2 : v / pw lo ≤ v := Int.ediv_le_self _ h0
  have hne : (!(pw lo == 0)) = true := by simp; omega
  have e : v.tdiv (pw lo) = v / pw lo := Int.tdiv_eq_ediv_of_nonneg h0
  simp only [run_ratchetref01_Field, Power_eq l0 (show lo ≤ 62 by omega), Power_eq w0 (show wd ≤ 62 by omega), some_bind', hne, if_true, e, wrap_i64 (x := v / pw lo) (by omega) (by omega), Mod_eq hw (show pw wd < 4611686018427387904 by omega)]
  rfl

/-! ### a value with another field -/
def setE (w v lo w' v' : Int) : Int := fst (fst (chk w v) (chk w' v')) (spotE w lo w')
theorem SetErr_eq (w v lo w' v' : Int) : run_ratchetref01_SetErr (.start w v lo w' v') = some ((setE w v lo w' v', ()), ()) := by
  simp only [run_ratchetref01_SetErr, PairErr_eq, spotErr_eq, some_bind', setE]
  generalize fst (chk w v) (chk w' v') = e
  unfold fst
  by_cases h : e = 0 <;> simp [h]
theorem setE_zero {w v lo w' v' : Int} (hc : setE w v lo w' v' = 0) : (1 ≤ w ∧ w ≤ 16 ∧ 0 ≤ v ∧ v < pw w) ∧ (1 ≤ w' ∧ w' ≤ 16 ∧ 0 ≤ v' ∧ v' < pw w') ∧ (0 ≤ lo ∧ lo ≤ 16) ∧ lo + w' ≤ w := by
  unfold setE at hc
  rw [fst_zero, fst_zero, chk_zero, chk_zero] at hc
  obtain ⟨⟨h1, h2⟩, h3⟩ := hc
  unfold spotE at h3
  split at h3
  · split at h3
    · rename_i h4 h5; exact ⟨h1, h2, h4.1, h5⟩
    · cases h3
  · cases h3
/-- a with b in place of some bits -/
theorem splice {a b lo k w : Nat} (hb : b < 2 ^ k) (ha : a < 2 ^ w) (hw : w ≤ 16) (hk : lo + k ≤ w) :
    (bits .or .i64 (bits .andNot .i64 (a : Int) (((2 ^ k - 1) * 2 ^ lo : Nat) : Int)) ((b * 2 ^ lo : Nat) : Int)) = (a : Int) + ((b : Int) - ((a / 2 ^ lo % 2 ^ k : Nat) : Int)) * ((2 ^ lo : Nat) : Int) ∧
    0 ≤ (a : Int) + ((b : Int) - ((a / 2 ^ lo % 2 ^ k : Nat) : Int)) * ((2 ^ lo : Nat) : Int) ∧ (a : Int) + ((b : Int) - ((a / 2 ^ lo % 2 ^ k : Nat) : Int)) * ((2 ^ lo : Nat) : Int) < ((2 ^ w : Nat) : Int) := by
  have hp := pow16 hw
  -- a in three parts
  let q := a / 2 ^ lo / 2 ^ k
  let f := a / 2 ^ lo % 2 ^ k
  let r := a % 2 ^ lo
  have hr : r < 2 ^ lo := Nat.mod_lt _ (Nat.two_pow_pos _)
  have e1 : 2 ^ lo * (a / 2 ^ lo) + r = a := Nat.div_add_mod a (2 ^ lo)
  have e2 : 2 ^ k * q + f = a / 2 ^ lo := Nat.div_add_mod _ _
  let T := (q * 2 ^ k + b) * 2 ^ lo + r
  have hT : (T : Int) = (a : Int) + ((b : Int) - (f : Int)) * ((2 ^ lo : Nat) : Int) := by
    have : (a : Int) = ((2 ^ k : Nat) * (q : Int) + f) * ((2 ^ lo : Nat) : Int) + r := by
      rw [← e1, ← e2]
      push_cast
      rw [Int.mul_comm]
    rw [this]
    simp only [T]
    push_cast
    rw [Int.sub_mul, Int.add_mul, Int.add_mul, Int.mul_comm (q : Int)]
    omega
  have bit : ∀ i, T.testBit i = if i < lo then a.testBit i else if i < lo + k then b.testBit (i - lo) else a.testBit i := by
    intro i
    have t1 : T = (q * 2 ^ k + b) * 2 ^ lo ||| r := by
      simp only [T]
      rw [← Nat.shiftLeft_eq (q * 2 ^ k + b), Nat.shiftLeft_add_eq_or_of_lt hr]
    have t2 : q * 2 ^ k + b = q * 2 ^ k ||| b := by
      rw [← Nat.shiftLeft_eq, Nat.shiftLeft_add_eq_or_of_lt hb]
    rw [t1, Nat.testBit_or, testBit_mul, t2, Nat.testBit_or, testBit_mul]
    have tr : r.testBit i = (decide (i < lo) && a.testBit i) := Nat.testBit_mod_two_pow _ _ _
    have tq : ∀ j, q.testBit j = a.testBit (j + k + lo) := fun j => by simp only [q]; rw [Nat.testBit_div_two_pow, Nat.testBit_div_two_pow]
    rw [tr]
    by_cases h1 : i < lo
    · have h3 : ¬ lo ≤ i := by omega
      simp [h1, h3]
    · by_cases h2 : i < lo + k
      · have h3 : lo ≤ i := by omega
        have h4 : ¬ k ≤ i - lo := by omega
        simp [h1, h2, h3, h4]
      · have h3 : lo ≤ i := by omega
        have h4 : k ≤ i - lo := by omega
        have h5 : b.testBit (i - lo) = false := Nat.testBit_lt_two_pow (Nat.lt_of_lt_of_le hb (Nat.pow_le_pow_right (by decide) h4))
        simp [h1, h2, h3, h4, h5, tq]
  have hTw : T < 2 ^ w := by
    apply Nat.lt_pow_two_of_testBit
    intro i hi
    rw [bit, if_neg (by omega), if_neg (by omega)]
    exact Nat.testBit_lt_two_pow (Nat.lt_of_lt_of_le ha (Nat.pow_le_pow_right (by decide) hi))
  refine ⟨?_, by rw [← hT]; omega, by rw [← hT]; omega⟩
  rw [← hT]
  have hole : ∀ i, ((2 ^ k - 1) * 2 ^ lo).testBit i = (decide (lo ≤ i) && decide (i < lo + k)) := by
    intro i
    rw [testBit_mul, Nat.testBit_two_pow_sub_one]
    by_cases h : lo ≤ i
    · simp [h]; omega
    · simp [h]
  have hk2 := pow16 (w := k) (by omega)
  have hlo := pow16 (w := lo) (by omega)
  have hh : (2 ^ k - 1) * 2 ^ lo < 2 ^ 33 := by
    have : (2 ^ k - 1) * 2 ^ lo ≤ 65536 * 65536 := Nat.mul_le_mul (by omega) hlo
    omega
  have hbl : b * 2 ^ lo < 2 ^ 33 := by
    have : b * 2 ^ lo ≤ 65536 * 65536 := Nat.mul_le_mul (by omega) hlo
    omega
  -- the bits that stay
  have hA : bits .andNot .i64 (a : Int) (((2 ^ k - 1) * 2 ^ lo : Nat) : Int) = (((BitVec.ofNat 64 a &&& ~~~ BitVec.ofNat 64 ((2 ^ k - 1) * 2 ^ lo)).toNat : Nat) : Int) ∧ (BitVec.ofNat 64 a &&& ~~~ BitVec.ofNat 64 ((2 ^ k - 1) * 2 ^ lo)).toNat ≤ a := by
    have hle : (BitVec.ofNat 64 a &&& ~~~ BitVec.ofNat 64 ((2 ^ k - 1) * 2 ^ lo)).toNat ≤ a := by
      rw [BitVec.toNat_and]
      refine Nat.le_trans Nat.and_le_left ?_
      rw [BitVec.toNat_ofNat]
      exact Nat.mod_le _ _
    refine ⟨?_, hle⟩
    rw [bits_eq]
    unfold bits0
    show IntKind.wrap .i64 (((BitVec.ofInt 64 (a : Int) &&& ~~~(BitVec.ofInt 64 (((2 ^ k - 1) * 2 ^ lo : Nat) : Int))).toNat : Nat) : Int) = _
    rw [BitVec.ofInt_natCast, BitVec.ofInt_natCast]
    exact wrap_i64 (by omega) (by omega)
  rw [hA.1, or_nat (by omega) (by omega)]
  congr 1
  apply Nat.eq_of_testBit_eq
  intro i
  rw [bit, Nat.testBit_or, testBit_mul, BitVec.testBit_toNat, BitVec.getLsbD_and, BitVec.getLsbD_not, BitVec.getLsbD_ofNat, BitVec.getLsbD_ofNat, hole]
  by_cases h64 : i < 64
  · by_cases h1 : i < lo
    · have h3 : ¬ lo ≤ i := by omega
      simp [h64, h1, h3]
    · have h3 : lo ≤ i := by omega
      by_cases h2 : i < lo + k
      · simp [h64, h1, h2, h3]
      · have h5 : b.testBit (i - lo) = false := Nat.testBit_lt_two_pow (Nat.lt_of_lt_of_le hb (Nat.pow_le_pow_right (by decide) (by omega)))
        simp [h64, h1, h2, h3, h5]
  · have h1 : ¬ i < lo := by omega
    have h2 : ¬ i < lo + k := by omega
    have h5 : b.testBit (i - lo) = false := Nat.testBit_lt_two_pow (Nat.lt_of_lt_of_le hb (Nat.pow_le_pow_right (by decide) (by omega)))
    have h6 : a.testBit i = false := Nat.testBit_lt_two_pow (Nat.lt_of_lt_of_le ha (Nat.pow_le_pow_right (by decide) (by omega)))
    simp [h64, h1, h2, h5, h6]

def setX (v lo w' v' : Int) : Int := v + (v' - fieldX v lo w') * pw lo
theorem WithField_eq (w v lo w' v' : Int) : run_bits_WithField (.start w v lo w' v') = some (((if setE w v lo w' v' = 0 then (w, setX v lo w' v', ()) else (0, 0, ())), setE w v lo w' v', ()), ()) := by
  rw [run_bits_WithField, CheckBits_eq, some_bind', CheckBits_eq, some_bind', within_eq, some_bind', unless_eq, some_bind', first3, some_bind', unless_eq, some_bind', first2, some_bind']
  have hE : fst (fst (chk w v) (fst (chk w' v') (if decide (0 ≤ lo ∧ lo ≤ 16) = true then 0 else 2))) (if decide (IntKind.wrap .i64 (lo + w') ≤ w) = true then 0 else 25) = setE w v lo w' v' := by
    unfold setE
    rw [fst_assoc, ← fst_assoc]
    by_cases h1 : fst (chk w v) (chk w' v') = 0
    · rw [h1]
      rw [fst_zero, chk_zero, chk_zero] at h1
      obtain ⟨_, h2, h3, _⟩ := h1
      unfold spotE
      by_cases h : 0 ≤ lo ∧ lo ≤ 16
      · have hh : (0 ≤ lo ∧ lo ≤ 16) ∧ 1 ≤ w' ∧ w' ≤ 16 := ⟨h, h2, h3⟩
        rw [wrap_i64 (by omega) (by omega)]
        simp [h, hh, fst]
      · simp [h, fst]
    · unfold fst at h1 ⊢
      simp [h1]
  simp only [hE]
  by_cases hc : setE w v lo w' v' = 0
  · obtain ⟨⟨h1, h2, h3, h4⟩, ⟨k1, k2, k3, k4⟩, ⟨l1, l2⟩, hs⟩ := setE_zero hc
    rw [if_neg (by simp [hc]), if_pos (by simp; omega), if_pos (by simp; omega), if_pos (by simp; omega), if_pos hc, hc]
    clear hc hE
    obtain ⟨w, rfl⟩ := Int.eq_ofNat_of_zero_le (show 0 ≤ w by omega)
    obtain ⟨w', rfl⟩ := Int.eq_ofNat_of_zero_le (show 0 ≤ w' by omega)
    obtain ⟨lo, rfl⟩ := Int.eq_ofNat_of_zero_le l1
    obtain ⟨v, rfl⟩ := Int.eq_ofNat_of_zero_le h3
    obtain ⟨v', rfl⟩ := Int.eq_ofNat_of_zero_le k3
    rw [pw_nat] at h4 k4
    have hw' := pow16 (w := w') (by omega)
    have hlo := pow16 (w := lo) (by omega)
    have hw := pow16 (w := w) (by omega)
    have hm : (2 ^ w' - 1) * 2 ^ lo ≤ 65536 * 65536 := Nat.mul_le_mul (by omega) hlo
    have hm2 : v' * 2 ^ lo ≤ 65536 * 65536 := Nat.mul_le_mul (by omega) hlo
    have e1 : shl .i64 (IntKind.wrap .i64 (shl .i64 1 (w' : Int) - 1)) (lo : Int) = (((2 ^ w' - 1) * 2 ^ lo : Nat) : Int) := by
      have hpos := Nat.two_pow_pos w'
      have e : ((2 ^ w' : Nat) : Int) - 1 = ((2 ^ w' - 1 : Nat) : Int) := by omega
      have e2 : ((2 ^ w' - 1 : Nat) : Int) * pw lo = (((2 ^ w' - 1) * 2 ^ lo : Nat) : Int) := by rw [pw_nat, Int.natCast_mul]
      rw [shl_one (by omega), wrap_pw (by omega), pw_nat, e, shl_eq (by omega) (by rw [e2]; omega) (by rw [e2]; omega), e2]
    have e2 : shl .i64 (v' : Int) (lo : Int) = ((v' * 2 ^ lo : Nat) : Int) := by
      have e : (v' : Int) * pw lo = ((v' * 2 ^ lo : Nat) : Int) := by rw [pw_nat, Int.natCast_mul]
      rw [shl_eq (by omega) (by rw [e]; omega) (by rw [e]; omega), e]
    obtain ⟨s1, s2, s3⟩ := splice (a := v) (b := v') (lo := lo) (k := w') (w := w) (by omega) (by omega) (by omega) (by omega)
    have e3 : setX v lo w' v' = (v : Int) + ((v' : Int) - ((v / 2 ^ lo % 2 ^ w' : Nat) : Int)) * ((2 ^ lo : Nat) : Int) := by
      unfold setX fieldX
      rw [pw_nat, pw_nat]; rfl
    rw [e1, e2, s1, ← e3]
    rw [← e3] at s2 s3
    rw [of_eq (by omega) (by omega) ⟨by omega, by omega⟩, some_bind', pw_nat, Int.emod_eq_of_lt s2 s3]
  · rw [if_pos (by simpa using hc), if_neg hc]
theorem Set_eq {w v lo w' v' : Int} (hc : setE w v lo w' v' = 0) : run_ratchetref01_Set (.start w v lo w' v') = some (((w, setX v lo w' v', ()), ()), ()) := by
  obtain ⟨⟨h1, h2, h3, h4⟩, ⟨k1, k2, k3, k4⟩, ⟨l1, l2⟩, hs⟩ := setE_zero hc
  have hp := pw_16 h2
  have hp' := pw_16 k2
  have hl := pw_16 l2
  have hl0 := pw_pos lo
  have m0 : 0 ≤ fieldX v lo w' ∧ fieldX v lo w' < pw w' := mod_pw _ _
  rw [run_ratchetref01_Set, Field_eq h3 (by omega) l1 l2 (by omega) k2, some_bind', Power_eq l1 (by omega), some_bind']
  have hm1 : (v' - fieldX v lo w') * pw lo ≤ 65536 * 65536 := by
    have a1 : (v' - fieldX v lo w') * pw lo ≤ 65536 * pw lo := Int.mul_le_mul_of_nonneg_right (by omega) (by omega)
    have a2 : 65536 * pw lo ≤ 65536 * 65536 := by omega
    omega
  have hm2 : -(65536 * 65536) ≤ (v' - fieldX v lo w') * pw lo := by
    have a1 : -65536 * pw lo ≤ (v' - fieldX v lo w') * pw lo := Int.mul_le_mul_of_nonneg_right (by omega) (by omega)
    omega
  simp only
  rw [wrap_i64 (x := v' - fieldX v lo w') (by omega) (by omega), wrap_i64 (x := (v' - fieldX v lo w') * pw lo) (by omega) (by omega), wrap_i64 (by omega) (by omega)]
  rfl

/-! ### values joined -/
def jerr (l : List api_Bits) : Int := firstErr (l.map fun x => chk x.Width x.Value)
def jsum : List api_Bits → Int
 | [] => 0
 | x :: l => x.Width + jsum l
def jval : Int → List api_Bits → Int
 | V, [] => V
 | V, x :: l => jval (V * pw x.Width + x.Value) l
def big (s : Int) : Int := if 16 < s then 8 else 0
theorem big_pos {s : Int} (h : 16 < s) : big s = 8 := if_pos h
theorem big_neg {s : Int} (h : ¬ 16 < s) : big s = 0 := if_neg h
def joinE (l : List api_Bits) : Int := if l.length = 0 then 10 else if 16 < l.length then 8 else fst (jerr l) (big (jsum l))
theorem jsum_nonneg : ∀ (l : List api_Bits), jerr l = 0 → 0 ≤ jsum l ∧ jsum l ≤ 16 * l.length
 | [], _ => by simp [jsum]
 | x :: l, h => by
   simp only [jerr, List.map_cons, firstErr] at h
   rw [fst_zero, chk_zero] at h
   have := jsum_nonneg l h.2
   simp only [jsum, List.length_cons]
   omega
theorem or_add {V b : Int} {k : Int} (h0 : 0 ≤ V) (hV : V < 65536) (k0 : 0 ≤ k) (k1 : k ≤ 16) (b0 : 0 ≤ b) (b1 : b < pw k) : bits .or .i64 (shl .i64 V k) b = V * pw k + b := by
  obtain ⟨V, rfl⟩ := Int.eq_ofNat_of_zero_le h0
  obtain ⟨k, rfl⟩ := Int.eq_ofNat_of_zero_le k0
  obtain ⟨b, rfl⟩ := Int.eq_ofNat_of_zero_le b0
  rw [pw_nat] at b1
  have hk := pow16 (w := k) (by omega)
  have hm : V * 2 ^ k ≤ 65536 * 65536 := Nat.mul_le_mul (by omega) hk
  have e : (V : Int) * pw k = ((V * 2 ^ k : Nat) : Int) := by rw [pw_nat, Int.natCast_mul]
  rw [shl_eq (by omega) (by rw [e]; omega) (by rw [e]; omega), e, or_nat (by omega) (by omega)]
  rw [← Nat.shiftLeft_eq, ← Nat.shiftLeft_add_eq_or_of_lt (show b < 2 ^ k by omega)]
  rfl
theorem jstep {W V x y : Int} (hW : 0 ≤ W) (h : W + x ≤ 16) (hx : 1 ≤ x) (h0 : 0 ≤ V) (h1 : V < pw W) (y0 : 0 ≤ y) (y1 : y < pw x) : 0 ≤ V * pw x + y ∧ V * pw x + y < pw (W + x) := by
  have hp := pw_pos x
  have e1 : 0 ≤ V * pw x := Int.mul_nonneg h0 (by omega)
  have e2 : V * pw x ≤ (pw W - 1) * pw x := Int.mul_le_mul_of_nonneg_right (by omega) (by omega)
  rw [pw_add hW (by omega)]
  rw [Int.sub_mul] at e2
  omega

theorem Joined_loop (l : List api_Bits) (hl : l.length ≤ 18) : ∀ (m i : Nat) (W V : Int), i + m = l.length → 0 ≤ W → W ≤ 16 * i → (W ≤ 16 → 0 ≤ V ∧ V < pw W) →
    run_bits_Joined (.p244 l l.length i 0 0 W V) = some (((if fst (jerr (l.drop i)) (big (W + jsum (l.drop i))) = 0 then (W + jsum (l.drop i), jval V (l.drop i), ()) else (0, 0, ())), fst (jerr (l.drop i)) (big (W + jsum (l.drop i))), ()), ())
 | 0, i, W, V, h, h0, h1, hV => by
   rw [run_bits_Joined, if_neg (by simp; omega), List.drop_eq_nil_of_le (by omega)]
   by_cases hW : 16 < W
   · rw [if_pos (by simpa using hW)]
     simp [jerr, jsum, firstErr, fst, big, hW]
   · rw [if_neg (by simpa using hW)]
     simp [jerr, jsum, jval, firstErr, fst, big, hW]
 | m + 1, i, W, V, h, h0, h1, hV => by
   have hi : i < l.length := by omega
   rw [run_bits_Joined, if_pos (by simp; omega), idx_nat, List.getElem?_eq_getElem hi, some_bind', CheckBits_eq, some_bind', List.drop_eq_getElem_cons hi]
   generalize hx : l[i] = x
   simp only [jerr, List.map_cons, firstErr, jsum, jval]
   by_cases hc : chk x.Width x.Value = 0
   · obtain ⟨x0, x1, y0, y1⟩ := chk_zero.1 hc
     have e1 : IntKind.wrap .i64 (W + x.Width) = W + x.Width := wrap_i64 (by omega) (by omega)
     have e2 : IntKind.wrap .i64 ((i : Int) + 1) = ((i + 1 : Nat) : Int) := by rw [wrap_i64 (by omega) (by omega)]; rfl
     have e3 : fst (chk x.Width x.Value) (firstErr ((l.drop (i + 1)).map fun x => chk x.Width x.Value)) = jerr (l.drop (i + 1)) := by rw [hc]; rfl
     have e4 : W + (x.Width + jsum (l.drop (i + 1))) = W + x.Width + jsum (l.drop (i + 1)) := by omega
     rw [if_neg (by simp [hc]), e1, e2, e3, e4]
     by_cases h16 : W + x.Width ≤ 16
     · obtain ⟨v0, v1⟩ := hV (by omega)
       have hp := pw_16 (w := W) (by omega)
       rw [if_pos (by simpa using h16), if_pos (by simp; omega), or_add v0 (by omega) (by omega) x1 y0 y1]
       exact Joined_loop l hl m (i + 1) _ _ (by omega) (by omega) (by omega) (fun _ => jstep h0 h16 x0 v0 v1 y0 y1)
     · rw [if_neg (by simpa using h16)]
       have := Joined_loop l hl m (i + 1) (W + x.Width) V (by omega) (by omega) (by omega) (fun hh => absurd hh h16)
       rw [this]
       by_cases hj : jerr (l.drop (i + 1)) = 0
       · have := jsum_nonneg _ hj
         have hbig : 16 < W + x.Width + jsum (l.drop (i + 1)) := by omega
         rw [big_pos hbig]
         have hne : ¬ fst (jerr (l.drop (i + 1))) 8 = 0 := by rw [fst_zero]; simp
         rw [if_neg hne, if_neg hne]
       · have hne : ¬ fst (jerr (l.drop (i + 1))) (big (W + x.Width + jsum (l.drop (i + 1)))) = 0 := by rw [fst_zero]; exact fun h => hj h.1
         rw [if_neg hne, if_neg hne]
   · have hne : ∀ a b : Int, fst (fst (chk x.Width x.Value) a) b = chk x.Width x.Value := fun a b => by simp [fst, hc]
     rw [if_pos (by simpa using hc), hne, if_neg hc]
theorem Joined_eq (l : List api_Bits) (hl : l.length ≤ 18) : run_bits_Joined (.start l) = some (((if joinE l = 0 then (jsum l, jval 0 l, ()) else (0, 0, ())), joinE l, ()), ()) := by
  rw [run_bits_Joined, unless_eq, some_bind', unless_eq, some_bind', first2, some_bind']
  unfold joinE
  by_cases h0 : l.length = 0
  · simp [h0, fst]
  · by_cases h1 : 16 < l.length
    · have h2 : ¬ ((l.length : Int) ≤ 16) := by omega
      have h3 : (0 : Int) < l.length := by omega
      simp [h0, h1, h2, h3, fst]
    · have h2 : (l.length : Int) ≤ 16 := by omega
      have h3 : (0 : Int) < l.length := by omega
      have e : fst (if decide ((l.length : Int) > 0) = true then 0 else 10) (if decide ((l.length : Int) ≤ 16) = true then 0 else 8) = 0 := by
        rw [decide_eq_true (show (l.length : Int) > 0 from h3), decide_eq_true h2]; rfl
      rw [e, if_neg (by decide), if_neg h0, if_neg h1]
      have := Joined_loop l hl l.length 0 0 0 (by omega) (by omega) (by omega) (fun _ => ⟨by omega, pw_pos 0⟩)
      simpa using this

theorem JoinErr_loop (l : List api_Bits) (hl : l.length ≤ 18) : ∀ (m i : Nat) (W : Int), i + m = l.length → 0 ≤ W → W ≤ 16 * i →
    run_ratchetref01_JoinErr (.p500 l W i) = some ((fst (jerr (l.drop i)) (big (W + jsum (l.drop i))), ()), ())
 | 0, i, W, h, h0, h1 => by
   rw [run_ratchetref01_JoinErr, if_neg (by simp; omega), List.drop_eq_nil_of_le (by omega)]
   by_cases hW : 16 < W
   · rw [if_pos (by simpa using hW)]
     simp [jerr, jsum, firstErr, fst, big, hW]
   · rw [if_neg (by simpa using hW)]
     simp [jerr, jsum, firstErr, fst, big, hW]
 | m + 1, i, W, h, h0, h1 => by
   have hi : i < l.length := by omega
   rw [run_ratchetref01_JoinErr, if_pos (by simp; omega), idx_nat, List.getElem?_eq_getElem hi, some_bind', BitsErr_eq, some_bind', List.drop_eq_getElem_cons hi, some_bind']
   generalize hx : l[i] = x
   simp only [jerr, List.map_cons, firstErr, jsum]
   by_cases hc : chk x.Width x.Value = 0
   · obtain ⟨x0, x1, y0, y1⟩ := chk_zero.1 hc
     have e1 : IntKind.wrap .i64 (W + x.Width) = W + x.Width := wrap_i64 (by omega) (by omega)
     have e2 : IntKind.wrap .i64 ((i : Int) + 1) = ((i + 1 : Nat) : Int) := by rw [wrap_i64 (by omega) (by omega)]; rfl
     have e3 : fst (chk x.Width x.Value) (firstErr ((l.drop (i + 1)).map fun x => chk x.Width x.Value)) = jerr (l.drop (i + 1)) := by rw [hc]; rfl
     have e4 : W + (x.Width + jsum (l.drop (i + 1))) = W + x.Width + jsum (l.drop (i + 1)) := by omega
     rw [if_neg (by simp [hc]), e1, e2, e3, e4]
     exact JoinErr_loop l hl m (i + 1) _ (by omega) (by omega) (by omega)
   · have hne : ∀ a b : Int, fst (fst (chk x.Width x.Value) a) b = chk x.Width x.Value := fun a b => by simp [fst, hc]
     rw [if_pos (by simpa using hc), hne]
theorem JoinErr_eq (l : List api_Bits) (hl : l.length ≤ 18) : run_ratchetref01_JoinErr (.start l) = some ((joinE l, ()), ()) := by
  rw [run_ratchetref01_JoinErr]
  unfold joinE
  by_cases h0 : l.length = 0
  · simp [h0]
  · rw [if_neg (by simp; exact fun h => h0 (by rw [h]; rfl)), if_neg h0]
    by_cases h1 : 16 < l.length
    · rw [if_pos (by simp; omega), if_pos h1]
    · rw [if_neg (by simp; omega), if_neg h1]
      have := JoinErr_loop l hl l.length 0 0 (by omega) (by omega) (by omega)
      simpa using this

theorem Join_loop (l : List api_Bits) (hl : l.length ≤ 18) : ∀ (m i : Nat) (W V : Int), i + m = l.length → 0 ≤ W → W + jsum (l.drop i) ≤ 16 → jerr (l.drop i) = 0 → 0 ≤ V → V < pw W →
    run_ratchetref01_Join (.p116 l i 0 0 W V) = some (((W + jsum (l.drop i), jval V (l.drop i), ()), ()), ())
 | 0, i, W, V, h, h0, h1, hj, v0, v1 => by
   rw [run_ratchetref01_Join, if_neg (by simp; omega), List.drop_eq_nil_of_le (by omega)]
   simp [jsum, jval]
 | m + 1, i, W, V, h, h0, h1, hj, v0, v1 => by
   have hi : i < l.length := by omega
   rw [List.drop_eq_getElem_cons hi] at h1 hj ⊢
   rw [run_ratchetref01_Join, if_pos (by simp; omega), idx_nat, List.getElem?_eq_getElem hi, some_bind', some_bind']
   generalize hx : l[i] = x at *
   simp only [jerr, List.map_cons, firstErr, jsum, jval] at h1 hj ⊢
   rw [fst_zero, chk_zero] at hj
   obtain ⟨⟨x0, x1, y0, y1⟩, hj⟩ := hj
   have hj : jerr (l.drop (i + 1)) = 0 := hj
   have hn := jsum_nonneg _ hj
   have e1 : IntKind.wrap .i64 (W + x.Width) = W + x.Width := wrap_i64 (by omega) (by omega)
   have e2 : IntKind.wrap .i64 ((i : Int) + 1) = ((i + 1 : Nat) : Int) := by rw [wrap_i64 (by omega) (by omega)]; rfl
   obtain ⟨j0, j1⟩ := jstep h0 (show W + x.Width ≤ 16 by omega) x0 v0 v1 y0 y1
   have hp := pw_16 (w := W + x.Width) (by omega)
   have hm : 0 ≤ V * pw x.Width := Int.mul_nonneg v0 (by have := pw_pos x.Width; omega)
   have e5 : IntKind.wrap .i64 (IntKind.wrap .i64 (V * pw x.Width) + x.Value) = V * pw x.Width + x.Value := by
     rw [wrap_i64 (x := V * pw x.Width) (by omega) (by omega), wrap_i64 (by omega) (by omega)]
   rw [Power_eq (by omega) (by omega), some_bind', some_bind', e1, e2, e5]
   have := Join_loop l hl m (i + 1) (W + x.Width) (V * pw x.Width + x.Value) (by omega) (by omega) (by omega) hj j0 j1
   rw [this, Int.add_assoc]
theorem joinE_zero {l : List api_Bits} (hc : joinE l = 0) : jerr l = 0 ∧ jsum l ≤ 16 := by
  unfold joinE at hc
  split at hc
  · cases hc
  · split at hc
    · cases hc
    · rw [fst_zero] at hc
      refine ⟨hc.1, ?_⟩
      have h2 := hc.2
      by_cases h : 16 < jsum l
      · rw [big_pos h] at h2; cases h2
      · omega
theorem Join_eq {l : List api_Bits} (hl : l.length ≤ 18) (hc : joinE l = 0) : run_ratchetref01_Join (.start l) = some (((jsum l, jval 0 l, ()), ()), ()) := by
  obtain ⟨h1, h2⟩ := joinE_zero hc
  rw [run_ratchetref01_Join]
  have := Join_loop l hl l.length 0 0 0 (by omega) (by omega) (by simpa using h2) (by simpa using h1) (by omega) (pw_pos 0)
  simpa using this

/-! ### the law -/
theorem field_join {w v x y : Int} (hx : 1 ≤ x) (hxw : x ≤ w - 1) (hw : w ≤ 16) (h0 : 0 ≤ v) (h1 : v < pw w) : run_ratchetlaw01_BitsFields (.p8191 w v x y) = some ((true, ()), ()) := by
  have hv : chk w v = 0 := chk_zero.2 ⟨by omega, hw, h0, h1⟩
  have f1 : fieldE w v 0 x = 0 := fieldE_zero.2 ⟨⟨by omega, hw, h0, h1⟩, by omega, by omega, by omega⟩
  have f2 : fieldE w v x (w - x) = 0 := fieldE_zero.2 ⟨⟨by omega, hw, h0, h1⟩, by omega, by omega, by omega⟩
  have e1 : IntKind.wrap .i64 (w - x) = w - x := wrap_i64 (by omega) (by omega)
  rw [run_ratchetlaw01_BitsFields, FieldOf_eq, some_bind', e1, FieldOf_eq, some_bind']
  simp only [f1, f2, if_true]
  have p0 : pw 0 = 1 := by decide
  have g1 : fieldX v 0 x = v % pw x := by unfold fieldX; rw [p0, Int.ediv_one]
  have hq : v / pw x < pw (w - x) := by
    apply Int.ediv_lt_of_lt_mul (pw_pos x)
    rw [← pw_add (by omega) (by omega), show w - x + x = w by omega]
    exact h1
  have g2 : fieldX v x (w - x) = v / pw x := by
    unfold fieldX
    exact Int.emod_eq_of_lt (Int.ediv_nonneg h0 (by have := pw_pos x; omega)) hq
  have hm := mod_pw v x
  have hj : joinE [(⟨w - x, v / pw x⟩ : api_Bits), ⟨x, v % pw x⟩] = 0 := by
    have c1 : chk (w - x) (v / pw x) = 0 := chk_zero.2 ⟨by omega, by omega, Int.ediv_nonneg h0 (by have := pw_pos x; omega), hq⟩
    have c2 : chk x (v % pw x) = 0 := chk_zero.2 ⟨by omega, by omega, hm⟩
    have c3 : ¬ 16 < w := by omega
    simp [joinE, jerr, firstErr, jsum, c1, c2, big_neg c3, fst]
  have hval : jval 0 [(⟨w - x, v / pw x⟩ : api_Bits), ⟨x, v % pw x⟩] = v := by
    simp only [jval, Int.zero_mul, Int.zero_add]
    rw [Int.mul_comm]
    exact Int.mul_ediv_add_emod v (pw x)
  have hsum : jsum [(⟨w - x, v / pw x⟩ : api_Bits), ⟨x, v % pw x⟩] = w := by simp [jsum]
  rw [g1, g2, Joined_eq _ (by simp), some_bind']
  simp [hj, hval, hsum]
theorem fields_p4095 (w v x y : Int) (hw : i64 w) : run_ratchetlaw01_BitsFields (.p4095 w v x y) = some ((true, ()), ()) := by
  rw [run_ratchetlaw01_BitsFields, BitsErr_eq, some_bind']
  by_cases hc : chk w v = 0
  · obtain ⟨h1, h2, h3, h4⟩ := chk_zero.1 hc
    rw [if_neg (by simp [hc]), wrap_i64 (by omega) (by omega), Within_eq, some_bind']
    by_cases h : 1 ≤ x ∧ x ≤ w - 1
    · rw [if_neg (by simp [h]), field_join h.1 h.2 h2 h3 h4]
    · rw [if_pos (by rw [decide_eq_false h]; rfl)]
  · rw [if_pos (by simpa using hc)]
theorem fields_p2047 (l : List api_Bits) (hl : l.length ≤ 18) (w v x y : Int) (hw : i64 w) : run_ratchetlaw01_BitsFields (.p2047 l (joinE l) w v x y (if joinE l = 0 then (jsum l, jval 0 l, ()) else (0, 0, ()) : Int × Int × Unit).1 (if joinE l = 0 then (jsum l, jval 0 l, ()) else (0, 0, ()) : Int × Int × Unit).2.1) = some ((true, ()), ()) := by
  rw [run_ratchetlaw01_BitsFields, JoinErr_eq l hl, some_bind']
  simp only [fields_p4095 w v x y hw]
  by_cases hc : joinE l = 0
  · rw [Join_eq hl hc]
    simp [hc, some_bind']
  · simp [hc]
theorem fields_p1023 (l : List api_Bits) (hl : l.length ≤ 18) (w v x y w' v' : Int) (hw : i64 w) : run_ratchetlaw01_BitsFields (.p1023 l (setE w v x w' v') (joinE l) w v x y w' v' (if setE w v x w' v' = 0 then (w, setX v x w' v', ()) else (0, 0, ()) : Int × Int × Unit).1 (if setE w v x w' v' = 0 then (w, setX v x w' v', ()) else (0, 0, ()) : Int × Int × Unit).2.1 (if joinE l = 0 then (jsum l, jval 0 l, ()) else (0, 0, ()) : Int × Int × Unit).1 (if joinE l = 0 then (jsum l, jval 0 l, ()) else (0, 0, ()) : Int × Int × Unit).2.1) = some ((true, ()), ()) := by
  rw [run_ratchetlaw01_BitsFields, SetErr_eq, some_bind']
  simp only [fields_p2047 l hl w v x y hw]
  by_cases hc : setE w v x w' v' = 0
  · rw [Set_eq hc]
    simp [hc, some_bind']
  · simp [hc]
theorem fields_p63 (l : List api_Bits) (hl : l.length ≤ 18) (w v x y w' v' : Int) (hw : i64 w) : run_ratchetlaw01_BitsFields (.p63 l w v x y w' v') = some ((true, ()), ()) := by
  have hcopy : run_ratchetref01_Copy (.start l) = some (((), ()), (l, ())) := by
    have hf : fits ([] : List api_Bits).length l.length 16 = true := Nat.ble_eq_true_of_le (by simp; omega)
    rw [run_ratchetref01_Copy, if_pos hf]
    rfl
  rw [run_ratchetlaw01_BitsFields, FieldOf_eq, some_bind', WithField_eq, some_bind', hcopy, some_bind', Joined_eq l hl, some_bind', FieldErr_eq, some_bind']
  simp only [fields_p1023 l hl w v x y w' v' hw]
  by_cases hc : fieldE w v x y = 0
  · obtain ⟨⟨h1, h2, h3, h4⟩, h5, h6, h7⟩ := fieldE_zero.1 hc
    have hp := pw_16 h2
    rw [Field_eq h3 (by omega) h5.1 h5.2 (by omega) h6.2]
    simp [hc, some_bind']
  · simp [hc]
theorem fields_true (w v x y : Int) (l : List api_Bits) (hw : i64 w) : run_ratchetlaw01_BitsFields (.start w v x y l) = some ((true, ()), ()) := by
  rw [run_ratchetlaw01_BitsFields, some_bind', if_neg (by decide)]
  by_cases hl : (l.length : Int) > 18
  · rw [if_pos (by simpa using hl)]
  · rw [if_neg (by simpa using hl)]
    by_cases h0 : (l.length : Int) > 0
    · rw [if_pos (by simpa using h0)]
      have : idx l 0 = some l[0] := by
        have := idx_nat l 0
        rw [List.getElem?_eq_getElem (by omega)] at this
        exact this
      rw [this, some_bind']
      exact fields_p63 l (by omega) w v x y _ _ hw
    · rw [if_neg (by simpa using h0)]
      exact fields_p63 l (by omega) w v x y _ _ hw
end Go.Proofs.YtcgkjbglijganaaDoor.Ev.F
