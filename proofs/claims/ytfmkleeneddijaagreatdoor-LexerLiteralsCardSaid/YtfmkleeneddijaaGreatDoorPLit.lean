/- The reference's literals, tokens, all tokens. -/
import Derived.Test.YtfmkleeneddijaaGreatDoorPNum
set_option linter.unusedVariables false
set_option linter.unusedSimpArgs false
set_option linter.unnecessarySimpa false
namespace Go.Proofs.YtfmkleeneddijaaGreatDoor.Ev.F
open Go.Proofs.YtfmkleeneddijaaGreatDoor.Ev

theorem rIsDigit_eq (c : Int) : run_ratchetref05_IsDigit (.start c) = some ((isDig c, ()), ()) := by
  simp only [run_ratchetref05_IsDigit, isDig]
  by_cases h : 48 ≤ c <;> simp [h]
theorem rIsCapital_eq (c : Int) : run_ratchetref05_IsCapital (.start c) = some ((isCap c, ()), ()) := by
  simp only [run_ratchetref05_IsCapital, isCap]
  by_cases h : 65 ≤ c <;> simp [h]
theorem rIsLetter_eq (c : Int) : run_ratchetref05_IsLetter (.start c) = some ((isLet c, ()), ()) := by
  simp only [run_ratchetref05_IsLetter, isLet, rIsCapital_eq, some_bind']
  by_cases h : 97 ≤ c
  · by_cases h2 : c ≤ 122
    · simp [h, h2]
    · simp [h, h2]
  · simp [h]
theorem rIsSpace_eq (c : Int) : run_ratchetref05_IsSpace (.start c) = some ((isSp c, ()), ()) := by
  simp only [run_ratchetref05_IsSpace, isSp]
  by_cases h1 : c = 32
  · simp [h1]
  · by_cases h2 : c = 9
    · simp [h2]
    · by_cases h3 : c = 10
      · simp [h3]
      · have e1 : (c == 32) = false := by simpa using h1
        have e2 : (c == 9) = false := by simpa using h2
        have e3 : (c == 10) = false := by simpa using h3
        simp [e1, e2, e3]
theorem rBy_eq (c : Int) : run_ratchetref05_By (.start c) = some ((baseO c, ()), ()) := by
  simp only [run_ratchetref05_By, baseO, beq_iff_eq]
  repeat' split
  all_goals rfl
/-- the reference's digit -/
def digB (c b : Int) : Int := if digO c < 0 ∨ b ≤ digO c then -1 else digO c
theorem rdigit_eq {c b : Int} (h0 : 0 ≤ c) (h1 : c < 256) (hb : 0 ≤ b) : run_ratchetref05_digit (.start c b) = some ((digB c b, ()), ()) := by
  have fin : ∀ n : Int, -1 ≤ n → run_ratchetref05_digit (.p31 b n) = some ((if b ≤ n then -1 else n, ()), ()) := by
    intro n hn
    rw [run_ratchetref05_digit]
    by_cases h : b ≤ n
    · rw [if_pos (by simpa using h), if_pos h]
    · rw [if_neg (by simpa using h), if_neg h]
  have e : ∀ n : Int, -1 ≤ n → n = digO c → run_ratchetref05_digit (.p31 b n) = some ((digB c b, ()), ()) := by
    intro n hn he
    rw [fin n hn]
    unfold digB
    rw [← he]
    by_cases h : n < 0
    · by_cases h2 : b ≤ n
      · rw [if_pos h2, if_pos (.inl h)]
      · rw [if_neg h2, if_pos (.inl h)]
        have : n = -1 := by omega
        rw [this]
    · by_cases h2 : b ≤ n
      · rw [if_pos h2, if_pos (.inr h2)]
      · rw [if_neg h2, if_neg (by omega)]
  rw [run_ratchetref05_digit, rIsDigit_eq]
  simp only [some_bind']
  by_cases hd : 48 ≤ c ∧ c ≤ 57
  · rw [if_pos (by simp [isDig]; omega), wrap_u8' (x := c - 48) (by omega) (by omega), wrap_i64 (x := c - 48) (by omega) (by omega), run_ratchetref05_digit, if_neg (by simp; omega)]
    exact e _ (by omega) (by unfold digO; rw [if_pos hd])
  · rw [if_neg (by simp [isDig]; omega), run_ratchetref05_digit]
    by_cases h97 : 97 ≤ c
    · rw [if_pos (by simpa using h97)]
      by_cases h102 : c ≤ 102
      · rw [if_pos (by simpa using h102), wrap_u8' (x := c - 97) (by omega) (by omega), wrap_i64 (x := c - 97) (by omega) (by omega), wrap_i64 (x := c - 97 + 10) (by omega) (by omega)]
        exact e _ (by omega) (by unfold digO; rw [if_neg hd, if_pos ⟨h97, h102⟩]; omega)
      · rw [if_neg (by simpa using h102)]
        exact e _ (by omega) (by unfold digO; rw [if_neg hd, if_neg (by omega)])
    · rw [if_neg (by simpa using h97)]
      exact e _ (by omega) (by unfold digO; rw [if_neg hd, if_neg (by omega)])
theorem Power_eq {w : Int} (h0 : 0 ≤ w) (h1 : w ≤ 62) : run_ratchetbase_Power (.start w) = some ((pw w, ()), ()) := by
  rw [run_ratchetbase_Power, if_pos (by simpa using h0), shl_one h1]
theorem Within_eq (n lo hi : Int) : run_ratchetbase_Within (.start n lo hi) = some ((decide (lo ≤ n) && decide (n ≤ hi), ()), ()) := by
  rw [run_ratchetbase_Within]
  by_cases h : lo ≤ n
  · rw [if_pos (by simpa using h)]; simp [h]
  · rw [if_neg (by simpa using h)]; simp [h]
theorem ext_drop (s : ByteArray) (i : Nat) : (s.extract i s.size).data.toList = s.data.toList.drop i := by
  rw [ByteArray.data_extract, Array.toList_extract, List.extract_eq_take_drop]
  rw [List.take_of_length_le]
  rw [List.length_drop, sizeL]
  exact Nat.le_refl _
theorem strB_cons {s : ByteArray} {i : Nat} (h : i < s.size) : strBytes (s.extract i s.size) = bt s i :: strBytes (s.extract (i + 1) s.size) := by
  obtain ⟨c, h1, h2, h3⟩ := drop_bt h
  unfold strBytes
  rw [ext_drop, ext_drop, h3, h2]
  rfl
theorem strB_nil (s : ByteArray) : strBytes (s.extract s.size s.size) = [] := by
  unfold strBytes
  rw [ext_drop, List.drop_eq_nil_of_le (by rw [sizeL]; exact Nat.le_refl _)]
  rfl
def sat (v : Int) : Int := if v < 65536 then v else 65536
theorem rlit_loop {s : ByteArray} (hs : s.size ≤ 60000) {w b : Int} (hw0 : -1 ≤ w) (hw1 : w ≤ 9223372036854775807) (hb0 : 2 ≤ b) (hb1 : b ≤ 16) : ∀ (k i : Nat) (v : Int), i + k = s.size → 0 ≤ v → v ≤ 16000016 →
    run_ratchetref05_Literal (.p4084 s w b v (i : Int) 0 0 0 0) = some (litR (litD w b (strBytes (s.extract i s.size)) (sat v))) := by
  intro k
  induction k with
  | zero =>
    intro i v h h0 h1
    obtain rfl : i = s.size := by omega
    rw [run_ratchetref05_Literal, if_neg (by simp), strB_nil]
    simp only [litD, digL, run_ratchetbase_IsWidth, Within_eq, some_bind', litFin]
    by_cases hw : 1 ≤ w ∧ w ≤ 16
    · have hp := pw_16 hw.2
      have hp0 := pw_pos w
      rw [if_neg (by simp [hw.1, hw.2]), if_pos hw]
      simp only [run_ratchetbase_Fits, Power_eq (show 0 ≤ w by omega) (show w ≤ 62 by omega), some_bind', Within_eq]
      rw [wrap_i64 (x := pw w - 1) (by omega) (by omega)]
      unfold sat
      by_cases hv : pw w ≤ v
      · rw [if_pos (by simp; omega), if_pos (by split <;> omega)]
      · rw [if_neg (by simp; omega), if_pos (show v < 65536 by omega), if_neg hv]
    · rw [if_pos (by simp; omega), if_neg hw]
  | succ k ih =>
    intro i v h h0 h1
    have hi : i < s.size := by omega
    rw [run_ratchetref05_Literal, if_pos (by simp; omega), sidx_nat hi, strB_cons hi]
    simp only [some_bind', rdigit_eq (bt_0 s i) (bt_lt s i) (show 0 ≤ b by omega)]
    unfold litD digL digB
    obtain ⟨d0, d1⟩ := digO_range (bt s i)
    by_cases hd : digO (bt s i) < 0 ∨ b ≤ digO (bt s i)
    · rw [if_pos hd, if_pos (by decide), if_pos hd]
    · rw [if_neg hd, if_neg (by simp; omega), if_neg hd]
      have hm : v * b ≤ 16000016 * 16 := Int.mul_le_mul h1 hb1 (by omega) (by decide)
      have hm0 : v * 2 ≤ v * b := Int.mul_le_mul_of_nonneg_left hb0 h0
      have hi1 : ((i : Int) + 1) = ((i + 1 : Nat) : Int) := by omega
      have key : (if sat v * b + digO (bt s i) < 65536 then sat v * b + digO (bt s i) else 65536) = sat (if v < 1000000 then v * b + digO (bt s i) else v) := by
        unfold sat
        by_cases hv : v < 65536
        · rw [if_pos hv, if_pos (show v < 1000000 by omega)]
        · rw [if_neg hv]
          have e1 : ¬ (65536 : Int) * b + digO (bt s i) < 65536 := by omega
          rw [if_neg e1]
          by_cases hv2 : v < 1000000
          · rw [if_pos hv2, if_neg (by omega)]
          · rw [if_neg hv2, if_neg hv]
      rw [key]
      by_cases hv2 : v < 1000000
      · have hm2 : v * b ≤ 1000000 * 16 := Int.mul_le_mul (by omega) hb1 (by omega) (by decide)
        rw [if_pos (by simpa using hv2), if_pos hv2, wrap_i64 (x := v * b) (by omega) (by omega), wrap_i64 (x := v * b + digO (bt s i)) (by omega) (by omega), wrap_i64 (x := (i : Int) + 1) (by omega) (by omega), hi1]
        exact ih (i + 1) _ (by omega) (by omega) (by omega)
      · rw [if_neg (by simpa using hv2), if_neg hv2, wrap_i64 (x := (i : Int) + 1) (by omega) (by omega), hi1]
        exact ih (i + 1) _ (by omega) h0 h1
theorem cut_loop {s : ByteArray} (hs : s.size ≤ 60000) : ∀ (k i : Nat), i + k = s.size → run_ratchetref05_Literal (.p120 s (i : Int) 0 0 0 0) =
    run_ratchetref05_Literal (.p31 s (if Lib.indexByte (s.data.toList.drop i) 39 < 0 then (s.size : Int) else (i : Int) + Lib.indexByte (s.data.toList.drop i) 39) 0 0 0 0) := by
  intro k
  induction k with
  | zero =>
    intro i h
    obtain rfl : i = s.size := by omega
    conv => lhs; rw [run_ratchetref05_Literal]
    rw [if_neg (by simp), List.drop_eq_nil_of_le (by rw [sizeL]; exact Nat.le_refl _)]
    rfl
  | succ k ih =>
    intro i h
    have hi : i < s.size := by omega
    obtain ⟨c, h1, h2, h3⟩ := drop_bt hi
    conv => lhs; rw [run_ratchetref05_Literal]
    rw [if_pos (by simp; omega), sidx_nat hi, h3]
    simp only [some_bind', h2, Lib.indexByte]
    have hge := Lib.indexByte_ge (s.data.toList.drop (i + 1)) 39
    by_cases hc : c = 39
    · subst hc
      rw [if_neg (by decide)]
      simp
    · have hc' : c.toNat ≠ 39 := fun h => hc (UInt8.toNat_inj.1 h)
      rw [if_pos (by simp; omega), wrap_i64 (x := (i : Int) + 1) (by omega) (by omega), show ((i : Int) + 1) = ((i + 1 : Nat) : Int) by omega, ih (i + 1) (by omega)]
      have e1 : (c == 39) = false := beq_eq_false_iff_ne.2 hc
      simp only [e1, Bool.false_eq_true, if_false]
      by_cases hn : Lib.indexByte (s.data.toList.drop (i + 1)) 39 = -1
      · rw [hn]; rfl
      · have e2 : (Lib.indexByte (s.data.toList.drop (i + 1)) 39 == -1) = false := beq_eq_false_iff_ne.2 hn
        rw [e2, if_neg (by omega)]
        simp only [Bool.false_eq_true, if_false]
        rw [if_neg (by omega)]
        congr 2
        omega
theorem rLiteral_eq {s : ByteArray} (hs : s.size ≤ 60000) : run_ratchetref05_Literal (.start s) = some (litR (litE s)) := by
  have h := cut_loop hs s.size 0 (by omega)
  have z0 : ((0 : Nat) : Int) = 0 := rfl
  rw [List.drop_zero, z0, Int.zero_add] at h
  rw [run_ratchetref05_Literal, h, run_ratchetref05_Literal]
  unfold litE
  have hge := Lib.indexByte_ge s.data.toList 39
  by_cases hn : Lib.indexByte s.data.toList 39 < 0
  · rw [if_pos hn, if_pos hn, ← z0, span_nat (Nat.zero_le _) (Nat.le_refl _)]
    simp only [some_bind']
    obtain ⟨x, h1, h2⟩ := rNumber_eq (s.extract 0 s.size) (by rw [size_ext s (Nat.zero_le _) (Nat.le_refl _)]; omega)
    rw [h1]
    simp only [some_bind']
    by_cases hk : natOk (s.extract 0 s.size) = true
    · rw [hk, if_neg (by decide), wrap_i64 (x := (s.size : Int) + 2) (by omega) (by omega), if_pos (by simp; omega)]
    · rw [if_pos (by simpa using hk)]
  · obtain ⟨o, ho⟩ := Int.eq_ofNat_of_zero_le (show 0 ≤ Lib.indexByte s.data.toList 39 by omega)
    have ho : Lib.indexByte s.data.toList 39 = (o : Int) := ho
    have hlt : o < s.size := by
      have := (List.getElem?_eq_some_iff.1 (Lib.indexByte_some ho).1).1
      rw [sizeL] at this; exact this
    rw [if_neg hn, if_neg hn, ho, ← z0, span_nat (Nat.zero_le _) (by omega)]
    simp only [some_bind', Int.toNat_natCast]
    obtain ⟨x, h1, h2⟩ := rNumber_eq (s.extract 0 o) (by rw [size_ext s (Nat.zero_le _) (by omega)]; omega)
    rw [h1]
    simp only [some_bind']
    have et : ((o : Int) + 1).toNat = o + 1 := by omega
    rw [et]
    cases hk : natOk (s.extract 0 o) with
    | false =>
      rw [if_pos (by decide), if_pos rfl]
    | true =>
      rw [if_neg (by decide), wrap_i64 (x := (o : Int) + 2) (by omega) (by omega), if_neg (Bool.noConfusion : ¬ true = false)]
      by_cases h3 : s.size ≤ o + 2
      · rw [if_pos (by simp; omega), if_neg (by omega)]
      · rw [if_neg (by simp; omega), wrap_i64 (x := (s.size : Int) - (o : Int)) (by omega) (by omega), wrap_i64 (x := (s.size : Int) - (o : Int) - 2) (by omega) (by omega)]
        by_cases h4 : 16 < s.size - o - 2
        · rw [if_pos (by simp; omega), if_neg (by omega)]
        · rw [if_neg (by simp; omega), wrap_i64 (x := (o : Int) + 1) (by omega) (by omega), show ((o : Int) + 1) = ((o + 1 : Nat) : Int) by omega, sidx_nat (by omega), if_pos (by omega)]
          simp only [some_bind', rBy_eq]
          by_cases hb : baseO (bt s (o + 1)) = 0
          · rw [if_pos (by simpa using hb), hb, strB_cons (by omega)]
            unfold litD digL
            rw [if_pos (by omega)]
            rfl
          · rw [if_neg (by simpa using hb), run_ratchetref05_Literal, wrap_i64 (x := (o : Int) + 1) (by omega) (by omega), show ((o : Int) + 1) = ((o + 1 : Nat) : Int) by omega, sidx_nat (by omega)]
            simp only [some_bind', rBy_eq]
            have hb2 : 2 ≤ baseO (bt s (o + 1)) ∧ baseO (bt s (o + 1)) ≤ 16 := by
              unfold baseO at hb ⊢
              repeat' split
              all_goals first | omega | (simp_all; done) | skip
            have hx := h2 hk
            have hw := natN_ge hk
            have hw1 := natN_bounds (natOk_ge hk)
            rw [hx, wrap_i64 (x := (o : Int) + 2) (by omega) (by omega), show ((o : Int) + 2) = ((o + 2 : Nat) : Int) by omega]
            have := rlit_loop hs (w := natN (s.extract 0 o)) (b := baseO (bt s (o + 1))) (by omega) hw1.2 hb2.1 hb2.2 (s.size - (o + 2)) (o + 2) 0 (by omega) (by decide) (by decide)
            rw [z0]
            exact this
end Go.Proofs.YtfmkleeneddijaaGreatDoor.Ev.F
