/- What the functions of package bits and of its reference come to. -/
import Derived.Test.YtcgkjbglijganaaDoorF1
import Derived.Test.YtcgkjbglijganaaDoorEvPure
set_option linter.unusedVariables false
set_option linter.unusedSimpArgs false
namespace Go.Proofs.YtcgkjbglijganaaDoor.Ev.F
open Go.Proofs.YtcgkjbglijganaaDoor.Ev

abbrev i64 (x : Int) : Prop := -9223372036854775808 ≤ x ∧ x ≤ 9223372036854775807

theorem within_eq (n lo hi : Int) : run_bits_within (.start n lo hi) = some ((decide (lo ≤ n ∧ n ≤ hi), ()), ()) := by
  simp only [run_bits_within]
  by_cases h : lo ≤ n <;> simp [h]
theorem Within_eq (n lo hi : Int) : run_ratchetbase_Within (.start n lo hi) = some ((decide (lo ≤ n ∧ n ≤ hi), ()), ()) := by
  simp only [run_ratchetbase_Within]
  by_cases h : lo ≤ n <;> simp [h]
theorem isWidth_eq (n : Int) : run_bits_isWidth (.start n) = some ((decide (1 ≤ n ∧ n ≤ 16), ()), ()) := by
  simp only [run_bits_isWidth, within_eq, some_bind']
theorem IsWidth_eq (n : Int) : run_ratchetbase_IsWidth (.start n) = some ((decide (1 ≤ n ∧ n ≤ 16), ()), ()) := by
  simp only [run_ratchetbase_IsWidth, Within_eq, some_bind']
theorem isBit_eq (n : Int) : run_bits_isBit (.start n) = some ((decide (0 ≤ n ∧ n ≤ 1), ()), ()) := by
  simp only [run_bits_isBit, within_eq, some_bind']
theorem unless_eq (b : Bool) (e : Int) : run_bits_unless (.start b e) = some ((if b = true then 0 else e, ()), ()) := by
  simp only [run_bits_unless]
  split <;> rfl
theorem one_eq (b : Bool) : run_bits_one (.start b) = some ((if b = true then 1 else 0, ()), ()) := by
  simp only [run_bits_one]
  split <;> rfl
theorem Bit_eq (b : Bool) : run_ratchetbase_Bit (.start b) = some ((if b = true then 1 else 0, ()), ()) := by
  simp only [run_ratchetbase_Bit]
  split <;> rfl
theorem of_law (w v : Int) : run_ratchetlaw01_of (.start w v) = some (((w, (v, ())), ()), ()) := by simp only [run_ratchetlaw01_of]

/-- the error of a value -/
def chk (w v : Int) : Int := if 1 ≤ w ∧ w ≤ 16 then (if 0 ≤ v ∧ v ≤ pw w - 1 then 0 else 2) else 25
theorem Power_eq {w : Int} (h0 : 0 ≤ w) (h1 : w ≤ 62) : run_ratchetbase_Power (.start w) = some ((pw w, ()), ()) := by
  simp only [run_ratchetbase_Power, shl_one h1]
  simp [h0]
theorem wrap_pw {w : Int} (h1 : w ≤ 62) : IntKind.wrap .i64 (pw w - 1) = pw w - 1 := by
  have := pw_62 h1
  have := pw_pos w
  exact wrap_i64 (by omega) (by omega)
theorem CheckBits_eq (w v : Int) : run_bits_CheckBits (.start w v) = some ((chk w v, ()), ()) := by
  simp only [run_bits_CheckBits, isWidth_eq, some_bind', chk]
  by_cases h : 1 ≤ w ∧ w ≤ 16
  · have h0 : (0 : Int) ≤ w := by omega
    simp only [h, decide_true, Bool.not_true, Bool.false_eq_true, if_false, h0, if_true, within_eq, some_bind', unless_eq, shl_one (show w ≤ 62 by omega), wrap_pw (show w ≤ 62 by omega)]
    simp
  · simp [h]
theorem Fits_eq {n w : Int} (h0 : 0 ≤ w) (h1 : w ≤ 62) : run_ratchetbase_Fits (.start n w) = some ((decide (0 ≤ n ∧ n ≤ pw w - 1), ()), ()) := by
  simp only [run_ratchetbase_Fits, Power_eq h0 h1, some_bind', Within_eq, wrap_pw h1]
theorem BitsErr_eq (w v : Int) : run_ratchetref01_BitsErr (.start w v) = some ((chk w v, ()), ()) := by
  simp only [run_ratchetref01_BitsErr, IsWidth_eq, some_bind', chk]
  by_cases h : 1 ≤ w ∧ w ≤ 16
  · rw [Fits_eq (by omega) (by omega)]
    simp only [h, some_bind']
    by_cases h2 : 0 ≤ v ∧ v ≤ pw w - 1 <;> simp [h2]
  · simp [h]
theorem chk_zero {w v : Int} : chk w v = 0 ↔ 1 ≤ w ∧ w ≤ 16 ∧ 0 ≤ v ∧ v < pw w := by
  unfold chk
  constructor
  · intro h
    split at h
    · split at h
      · omega
      · cases h
    · cases h
  · intro h
    rw [if_pos (by omega), if_pos (by omega)]

/-- the first error -/
def fst (a b : Int) : Int := if a = 0 then b else a
def firstErr : List Int → Int
 | [] => 0
 | a :: l => fst a (firstErr l)
theorem first_loop (l : List Int) (hl : l.length < 4611686018427387904) : ∀ (k i : Nat), i + k = l.length → run_bits_first (.p52 l (l.length : Int) (i : Int)) = some ((firstErr (l.drop i), ()), ())
 | 0, i, h => by
   rw [run_bits_first, if_neg (by simp; omega), List.drop_eq_nil_of_le (by omega)]
   rfl
 | k + 1, i, h => by
   have hi : i < l.length := by omega
   rw [run_bits_first, if_pos (by simp; omega), idx_nat, List.getElem?_eq_getElem hi, some_bind']
   have e : IntKind.wrap .i64 ((i : Int) + 1) = ((i + 1 : Nat) : Int) := by rw [wrap_i64 (by omega) (by omega)]; rfl
   rw [e, first_loop l hl k (i + 1) (by omega), List.drop_eq_getElem_cons hi]
   simp only [firstErr, fst]
   by_cases h0 : l[i] = 0 <;> simp [h0]
theorem first_eq (l : List Int) (hl : l.length < 4611686018427387904) : run_bits_first (.start l) = some ((firstErr l, ()), ()) := by
  rw [run_bits_first]
  exact first_loop l hl l.length 0 (by omega)
theorem fst_0 (a : Int) : fst a 0 = a := by unfold fst; split <;> simp [*]
theorem first2 (a b : Int) : run_bits_first (.start [a, b]) = some ((fst a b, ()), ()) := by
  rw [first_eq _ (by simp)]; simp only [firstErr, fst_0]
theorem first3 (a b c : Int) : run_bits_first (.start [a, b, c]) = some ((fst a (fst b c), ()), ()) := by
  rw [first_eq _ (by simp)]; simp only [firstErr, fst_0]
theorem pair_eq (w v w' v' : Int) : run_bits_pair (.start w v w' v') = some ((fst (chk w v) (fst (chk w' v') (if w = w' then 0 else 25)), ()), ()) := by
  simp only [run_bits_pair, CheckBits_eq, some_bind', unless_eq, first3]
  simp
theorem fst_zero {a b : Int} : fst a b = 0 ↔ a = 0 ∧ b = 0 := by
  unfold fst
  by_cases h : a = 0 <;> simp [h]

/-! ### numbers as two's complements -/
/-- the highest bit -/
def hib (w v : Int) : Int := if v < pw (w - 1) then 0 else 1
def sgn (w v : Int) : Int := if v < pw (w - 1) then v else v - pw w
theorem div_hib {w v : Int} (h : 1 ≤ w) (h0 : 0 ≤ v) (h1 : v < pw w) : v / pw (w - 1) = hib w v := by
  have hp := pw_pos (w - 1)
  have hs := pw_succ (w := w) (by omega)
  unfold hib
  split
  · exact Int.ediv_eq_zero_of_lt h0 (by omega)
  · have e : v = (v - pw (w - 1)) + 1 * pw (w - 1) := by omega
    rw [e, Int.add_mul_ediv_right _ _ (by omega), Int.ediv_eq_zero_of_lt (by omega) (by omega)]
    rfl
theorem top_eq {w v : Int} (h : 1 ≤ w) (hw : w ≤ 16) (h0 : 0 ≤ v) (h1 : v < pw w) : run_bits_word_top (.start w v) = some ((hib w v, ()), ()) := by
  simp only [run_bits_word_top, wrap_i64 (x := w - 1) (by omega) (by omega), show decide ((0 : Int) ≤ w - 1) = true from decide_eq_true (by omega), if_true]
  rw [shr_eq (by omega), div_hib h h0 h1]
theorem signed_eq {w v : Int} (h : 1 ≤ w) (hw : w ≤ 16) (h0 : 0 ≤ v) (h1 : v < pw w) : run_bits_word_signed (.start w v) = some ((sgn w v, ()), ()) := by
  have hp := pw_16 hw
  simp only [run_bits_word_signed, top_eq h hw h0 h1, some_bind', show decide ((0 : Int) ≤ w) = true from decide_eq_true (by omega), if_true]
  unfold hib sgn
  split
  · rw [shl_eq (by omega) (by omega) (by omega), wrap_i64 (by omega) (by omega)]
    simp
  · rw [shl_eq (by omega) (by omega) (by omega), wrap_i64 (by omega) (by omega)]
    simp
theorem Signed_eq {w v : Int} (h : 1 ≤ w) (hw : w ≤ 16) (h0 : 0 ≤ v) (h1 : v < pw w) : run_ratchetbase_Signed (.start v w) = some ((sgn w v, ()), ()) := by
  have hp := pw_16 hw
  simp only [run_ratchetbase_Signed, wrap_i64 (x := w - 1) (by omega) (by omega), Power_eq (show 0 ≤ w - 1 by omega) (show w - 1 ≤ 62 by omega), Power_eq (show 0 ≤ w by omega) (show w ≤ 62 by omega), some_bind']
  unfold sgn
  by_cases hv : v < pw (w - 1)
  · have : ¬ v ≥ pw (w - 1) := by omega
    simp [hv, this]
  · have : v ≥ pw (w - 1) := by omega
    have hx : IntKind.wrap .i64 (v - pw w) = v - pw w := wrap_i64 (by omega) (by omega)
    simp [hv, this, hx]
theorem sgn_bound {w v : Int} (h : 1 ≤ w) (hw : w ≤ 16) (h0 : 0 ≤ v) (h1 : v < pw w) : -65536 ≤ sgn w v ∧ sgn w v < 65536 := by
  have hp := pw_16 hw
  unfold sgn
  split <;> omega
theorem of_eq {n w : Int} (h : 0 ≤ w) (hw : w ≤ 62) (hn : i64 n) : run_bits_of (.start n w) = some (((w, (n % pw w, ())), ()), ()) := by
  simp only [run_bits_of, shl_one hw, wrap_pw hw, and_mask h hw hn.1 (show n < 9223372036854775808 by have := hn.2; omega)]
  simp [h]
theorem mod_pw (n w : Int) : 0 ≤ n % pw w ∧ n % pw w < pw w := ⟨Int.emod_nonneg _ (by have := pw_pos w; omega), Int.emod_lt_of_pos _ (pw_pos w)⟩
theorem Mod_eq {n m : Int} (hm : 0 < m) (hm2 : m < 4611686018427387904) : run_ratchetbase_Mod (.start n m) = some ((n % m, ()), ()) := by
  have hne : ¬ m = 0 := by omega
  simp only [run_ratchetbase_Mod]
  rw [if_pos (by simpa using hne)]
  have h1 : n.tmod m = n % m ∨ n.tmod m + m = n % m ∧ n.tmod m < 0 := by
    by_cases h0 : 0 ≤ n
    · left; exact Int.tmod_eq_emod_of_nonneg h0
    · have h2 : n.tmod m = n % m - (if m ∣ n then 0 else (m.natAbs : Int)) := by
        rw [Int.tmod_eq_emod]
        split
        · rename_i hh
          rw [if_pos (hh.resolve_left h0)]; simp
        · rename_i hh
          rw [if_neg (fun hd => hh (.inr hd))]
      have h4 := Int.emod_nonneg n hne
      have h5 := Int.emod_lt_of_pos n hm
      split at h2
      · left; omega
      · right; omega
  have h4 := Int.emod_nonneg n hne
  have h5 := Int.emod_lt_of_pos n hm
  rcases h1 with h1 | ⟨h1, h2⟩
  · have : ¬ n.tmod m < 0 := by omega
    rw [if_neg (by simpa using this), h1]
  · have e : IntKind.wrap .i64 (n.tmod m + m) = n.tmod m + m := wrap_i64 (by omega) (by omega)
    rw [if_pos (by simpa using h2), e, h1]

/-- a result with its flags -/
def flg (w x s : Int) : Int × (Int × (Int × (Int × (Int × (Int × Unit))))) :=
  (w, x % pw w, (if 0 ≤ x ∧ x ≤ pw w - 1 then 0 else 1), (if sgn w (x % pw w) = s then 0 else 1), (if x % pw w = 0 then 1 else 0), hib w (x % pw w), ())
theorem flags_eq {w x s : Int} (h : 1 ≤ w) (hw : w ≤ 16) (hx : i64 x) : run_bits_flags (.start w x s) = some ((flg w x s, ()), ()) := by
  obtain ⟨m0, m1⟩ := mod_pw x w
  simp only [run_bits_flags, of_eq (show 0 ≤ w by omega) (show w ≤ 62 by omega) hx, some_bind', show decide ((0 : Int) ≤ w) = true from decide_eq_true (by omega), if_true, shl_one (show w ≤ 62 by omega), wrap_pw (show w ≤ 62 by omega), within_eq, one_eq, signed_eq h hw m0 m1, top_eq h hw m0 m1, flg]
  by_cases h1 : 0 ≤ x ∧ x ≤ pw w - 1 <;> by_cases h2 : sgn w (x % pw w) = s <;> by_cases h3 : x % pw w = 0 <;> simp [h1, h2, h3]
theorem Flags_eq {w x s : Int} (h : 1 ≤ w) (hw : w ≤ 16) (hx : i64 x) : run_ratchetref01_flags (.start x s w) = some ((flg w x s, ()), ()) := by
  obtain ⟨m0, m1⟩ := mod_pw x w
  have hp := pw_16 hw
  have hp0 := pw_pos w
  simp only [run_ratchetref01_flags, Power_eq (show 0 ≤ w by omega) (show w ≤ 62 by omega), Mod_eq hp0 (by omega), Fits_eq (n := x) (show 0 ≤ w by omega) (show w ≤ 62 by omega), some_bind', Bit_eq, Signed_eq h hw m0 m1, flg]
  have hneg : (if decide (sgn w (x % pw w) < 0) = true then (1 : Int) else 0) = hib w (x % pw w) := by
    have hs := pw_succ (w := w) (by omega)
    unfold sgn hib
    by_cases hv : x % pw w < pw (w - 1)
    · simp only [hv, if_true]
      rw [if_neg (by simp; omega)]
    · simp only [hv, if_false]
      rw [if_pos (by simp; omega)]
  rw [hneg]
  by_cases h1 : 0 ≤ x ∧ x ≤ pw w - 1 <;> by_cases h2 : sgn w (x % pw w) = s <;> by_cases h3 : x % pw w = 0 <;> simp [h1, h2, h3]
end Go.Proofs.YtcgkjbglijganaaDoor.Ev.F
