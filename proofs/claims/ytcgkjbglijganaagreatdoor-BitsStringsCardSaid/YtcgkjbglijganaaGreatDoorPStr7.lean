/- Strings of bits: the law. -/
import Derived.Test.YtcgkjbglijganaaGreatDoorPStr6
set_option linter.unusedVariables false
set_option linter.unusedSimpArgs false
set_option linter.unnecessarySimpa false
namespace Go.Proofs.YtcgkjbglijganaaGreatDoor.Ev.F
open Go.Proofs.YtcgkjbglijganaaGreatDoor.Ev

theorem digits_eq {n b : Nat} (hn : n = 1 ∧ b = 2 ∨ n = 4 ∧ b = 16) {w : Nat} (h16 : w ≤ 16) : run_ratchetref01_digits (.start (w : Int) (b : Int)) = some ((((cnt n w : Nat) : Int), ()), ()) := by
  rw [run_ratchetref01_digits]
  rcases hn with ⟨rfl, rfl⟩ | ⟨rfl, rfl⟩
  · rw [if_pos (by decide)]
    unfold cnt
    rw [show (w + 1 - 1) / 1 = w by omega]
  · rw [if_neg (by decide), run_ratchetbase_Ceil, run_ratchetbase_Floor, if_pos (by decide), if_pos (by decide), wrap_i64 (x := 0 - (w : Int)) (by omega) (by omega)]
    have ht : ∀ x : Int, -16 ≤ x → x ≤ 0 → Int.tdiv x 4 = -((-x) / 4) ∧ Int.tmod x 4 = -((-x) % 4) := by
      intro x hx0 hx1
      obtain ⟨y, rfl⟩ : ∃ y, x = -y := ⟨-x, by omega⟩
      rw [Int.neg_tdiv, Int.neg_tmod, Int.tdiv_eq_ediv_of_nonneg (by omega), Int.tmod_eq_emod_of_nonneg (by omega), Int.neg_neg]
      exact ⟨rfl, rfl⟩
    obtain ⟨t1, t2⟩ := ht (0 - (w : Int)) (by omega) (by omega)
    rw [t1, t2]
    unfold cnt
    by_cases h : -(-(0 - (w : Int)) % 4) < 0
    · rw [if_pos (by simpa using h)]
      simp only [some_bind']
      rw [wrap_i64 (x := -(-(0 - (w : Int)) / 4)) (by omega) (by omega), wrap_i64 (x := -(-(0 - (w : Int)) / 4) - 1) (by omega) (by omega), wrap_i64 (x := 0 - (-(-(0 - (w : Int)) / 4) - 1)) (by omega) (by omega)]
      congr 3
      omega
    · rw [if_neg (by simpa using h)]
      simp only [some_bind']
      rw [wrap_i64 (x := -(-(0 - (w : Int)) / 4)) (by omega) (by omega), wrap_i64 (x := 0 - (-(-(0 - (w : Int)) / 4))) (by omega) (by omega)]
      congr 3
      omega
theorem rf_loop {n b c : Nat} (hn : n = 1 ∧ b = 2 ∧ c = 98 ∨ n = 4 ∧ b = 16 ∧ c = 104) {w : Nat} (h1 : 1 ≤ w) (h16 : w ≤ 16) (v : Nat) (hv : v < 65536) : ∀ (k j : Nat), j + k = cnt n w →
    run_ratchetref01_Format (.p500 (b : Int) ⟨(padD b j v).toArray⟩ ((v / b ^ j : Nat) : Int) (j : Int) (w : Int) (v : Int)) = some ((txt w (UInt8.ofNat c) (padD b (cnt n w) v), ()), ()) := by
  have hlsz : ∀ m : List UInt8, (⟨m.toArray⟩ : ByteArray).size = m.length := fun m => rfl
  have sa : ∀ a b : ByteArray, (a ++ b).size = a.size + b.size := fun a b => by simp
  obtain ⟨k1, k2, k3, k4⟩ := W_ok (show w < 17 by omega)
  have hdg := digits_eq (n := n) (b := b) (by omega) h16
  have hc16 : cnt n w ≤ 16 := by
    unfold cnt
    rcases hn with ⟨rfl, _⟩ | ⟨rfl, _⟩ <;> omega
  intro k
  induction k with
  | zero =>
    intro j h
    obtain rfl : j = cnt n w := by omega
    have hdc : deci (w : Int) = ⟨(Lib.decDigits w).toArray⟩ := byte_ext (by rw [deci_data, Lib.itoa_nonneg])
    rw [run_ratchetref01_Format, hdg]
    simp only [some_bind']
    rw [if_neg (by simp)]
    rcases hn with ⟨rfl, rfl, rfl⟩ | ⟨rfl, rfl, rfl⟩
    · rw [if_pos (by decide), Decimal_eq (by omega), hdc]
      simp only [some_bind']
      rw [if_pos (Nat.ble_eq_true_of_le (by simp only [sa, hlsz, List.length_cons, List.length_nil]; omega)), if_pos (Nat.ble_eq_true_of_le (by simp only [sa, hlsz, List.length_cons, List.length_nil, padD_len]; omega))]
      have : ((⟨(Lib.decDigits w).toArray⟩ : ByteArray) ++ ⟨#[39, 98]⟩ ++ ⟨(padD 2 (cnt 1 w) v).toArray⟩) = txt w (UInt8.ofNat 98) (padD 2 (cnt 1 w) v) := byte_ext (by rw [txt_data]; simp)
      rw [this]
    · rw [if_neg (by decide), Decimal_eq (by omega), hdc]
      simp only [some_bind']
      rw [if_pos (Nat.ble_eq_true_of_le (by simp only [sa, hlsz, List.length_cons, List.length_nil]; omega)), if_pos (Nat.ble_eq_true_of_le (by simp only [sa, hlsz, List.length_cons, List.length_nil, padD_len]; omega))]
      have : ((⟨(Lib.decDigits w).toArray⟩ : ByteArray) ++ ⟨#[39, 104]⟩ ++ ⟨(padD 16 (cnt 4 w) v).toArray⟩) = txt w (UInt8.ofNat 104) (padD 16 (cnt 4 w) v) := byte_ext (by rw [txt_data]; simp)
      rw [this]
  | succ k ih =>
    intro j h
    have hb : 2 ≤ b ∧ b ≤ 16 := by omega
    have hle := Nat.div_le_self v (b ^ j)
    have hm := Nat.mod_lt (v / b ^ j) (show 0 < b by omega)
    have hle2 := Nat.div_le_self (v / b ^ j) b
    obtain ⟨q, hq⟩ : ∃ q, q = v / b ^ j := ⟨_, rfl⟩
    rw [← hq] at hle hm hle2 ⊢
    have ht : Int.tmod (q : Int) (b : Int) = ((q % b : Nat) : Int) := by rw [Int.tmod_eq_emod_of_nonneg (by omega), Int.natCast_emod]
    have hd : Int.tdiv (q : Int) (b : Int) = ((q / b : Nat) : Int) := by rw [Int.tdiv_eq_ediv_of_nonneg (by omega), Int.natCast_ediv]
    have z1 : ((b : Int) == 0) = false := by rw [beq_eq_false_iff_ne]; omega
    have h16s : D16.size = 16 := rfl
    have hqn := Int.natCast_nonneg (q / b)
    have hmn := Int.natCast_nonneg (q % b)
    rw [run_ratchetref01_Format, hdg]
    simp only [some_bind']
    rw [if_pos (by simp only [decide_eq_true_eq]; omega), z1, if_pos (by decide), ht, wrap_i64 (x := ((q % b : Nat) : Int) + 1) (by omega) (by omega), show ((q % b : Nat) : Int) + 1 = ((q % b + 1 : Nat) : Int) by omega, span_nat (by omega) (by rw [h16s]; omega)]
    simp only [some_bind']
    have hx : D16.extract (q % b) (q % b + 1) = ⟨#[ub (q % b)]⟩ := D16_get (by omega)
    rw [hx, if_pos (Nat.ble_eq_true_of_le (by simp only [hlsz, List.length_cons, List.length_nil, padD_len]; omega)), if_pos (by decide), hd, wrap_i64 (x := ((q / b : Nat) : Int)) (by omega) (by omega), wrap_i64 (x := (j : Int) + 1) (by omega) (by omega), show ((j : Int) + 1) = ((j + 1 : Nat) : Int) by omega]
    have hj2 : (⟨#[ub (q % b)]⟩ : ByteArray) ++ ⟨(padD b j v).toArray⟩ = ⟨(padD b (j + 1) v).toArray⟩ := byte_ext (by rw [padD_cons, hq]; simp)
    have hqq : q / b = v / b ^ (j + 1) := by rw [hq, Nat.div_div_eq_div_mul, Nat.pow_succ]
    rw [hj2, hqq]
    exact ih (j + 1) (by omega)
theorem rf_dec {w v : Nat} (h1 : 1 ≤ w) (h16 : w ≤ 16) (hv : v < 65536) : run_ratchetref01_Format (.start (w : Int) (v : Int) 10) = some ((txt w 100 (Lib.decDigits v), ()), ()) := by
  obtain ⟨k1, k2, k3, k4⟩ := W_ok (show w < 17 by omega)
  have hdc : ∀ m : Nat, deci (m : Int) = ⟨(Lib.decDigits m).toArray⟩ := fun m => byte_ext (by rw [deci_data, Lib.itoa_nonneg])
  have hlsz : ∀ m : List UInt8, (⟨m.toArray⟩ : ByteArray).size = m.length := fun m => rfl
  have sa : ∀ a b : ByteArray, (a ++ b).size = a.size + b.size := fun a b => by simp
  have e5 : (10 : Nat) ^ 5 = 100000 := by decide
  have hdl : (Lib.decDigits v).length ≤ 5 := by
    rw [dec_digs 5 v (by decide) (by omega)]
    exact (pad_digs (by decide) 5 v 5 (by decide) (by decide) (by omega)).1
  rw [run_ratchetref01_Format, if_pos (by decide), Decimal_eq (by omega), hdc]
  simp only [some_bind']
  rw [if_pos (Nat.ble_eq_true_of_le (by simp only [sa, hlsz, List.length_cons, List.length_nil]; omega)), Decimal_eq (by omega), hdc]
  simp only [some_bind']
  rw [if_pos (Nat.ble_eq_true_of_le (by simp only [sa, hlsz, List.length_cons, List.length_nil]; omega))]
  have : ((⟨(Lib.decDigits w).toArray⟩ : ByteArray) ++ ⟨#[39, 100]⟩ ++ ⟨(Lib.decDigits v).toArray⟩) = txt w 100 (Lib.decDigits v) := byte_ext (by rw [txt_data]; simp)
  rw [this]
theorem chk_zero {w v : Int} (h : chk w v = 0) : 1 ≤ w ∧ w ≤ 16 ∧ 0 ≤ v ∧ v ≤ pw w - 1 := by
  unfold chk at h
  split at h
  · rename_i hw
    split at h
    · rename_i hv; exact ⟨hw.1, hw.2, hv.1, hv.2⟩
    · cases h
  · cases h
theorem strings_ok {w v b : Nat} (h1 : 1 ≤ w) (h16 : w ≤ 16) (hv : v < 2 ^ w) (hch : chk (w : Int) (v : Int) = 0) (hb : b = 2 ∨ b = 10 ∨ b = 16) : ∃ t : ByteArray, run_bits_FormatBits (.start (w : Int) (v : Int) (b : Int)) = some ((t, ((0 : Int), ())), ()) ∧ run_ratchetref01_Format (.start (w : Int) (v : Int) (b : Int)) = some ((t, ()), ()) ∧ run_bits_ParseBits (.start t) = some ((((w : Int), ((v : Int), ())), ((0 : Int), ())), ()) := by
  have h65 : (2 : Nat) ^ w ≤ 2 ^ 16 := Nat.pow_le_pow_right (by decide) h16
  have e16 : (2 : Nat) ^ 16 = 65536 := by decide
  have e5 : (10 : Nat) ^ 5 = 100000 := by decide
  have pow : ∀ n c : Nat, (n = 1 ∧ b = 2 ∧ c = 98 ∨ n = 4 ∧ b = 16 ∧ c = 104) → ∃ t : ByteArray, run_bits_FormatBits (.start (w : Int) (v : Int) (b : Int)) = some ((t, ((0 : Int), ())), ()) ∧ run_ratchetref01_Format (.start (w : Int) (v : Int) (b : Int)) = some ((t, ()), ()) ∧ run_bits_ParseBits (.start t) = some ((((w : Int), ((v : Int), ())), ((0 : Int), ())), ()) := by
    intro n c hn
    have hbn : b = 2 ^ n := by rcases hn with ⟨rfl, rfl, _⟩ | ⟨rfl, rfl, _⟩ <;> rfl
    have hc1 : 1 ≤ cnt n w ∧ cnt n w ≤ 16 ∧ w ≤ n * cnt n w := by
      unfold cnt
      rcases hn with ⟨rfl, _⟩ | ⟨rfl, _⟩ <;> omega
    have hvb : v < b ^ cnt n w := by
      rw [hbn, ← Nat.pow_mul]
      have : (2 : Nat) ^ w ≤ 2 ^ (n * cnt n w) := Nat.pow_le_pow_right (by decide) hc1.2.2
      omega
    obtain ⟨g1, g2, g3⟩ := pad_digs (b := b) (by omega) (cnt n w) v (cnt n w) hc1.1 (Nat.le_refl _) hvb
    obtain ⟨last', q1⟩ := numV_zeros b (by omega) (toI (digs b (cnt n w) v)) (cnt n w - (digs b (cnt n w) v).length) 95 0
    obtain ⟨z, q2, q3⟩ := numV_digs (b := b) (by omega) (by omega) (cnt n w) v hvb (by omega) last' (0 + ((cnt n w - (digs b (cnt n w) v).length : Nat) : Int))
    refine ⟨_, fb_pow2 hn h1 h16 hv hch, ?_, txt_parse h1 h16 (b := b) hb (by rcases hn with ⟨rfl, rfl, rfl⟩ | ⟨rfl, rfl, rfl⟩ <;> decide) (by rw [padD_len]; omega) (by rw [← g3, toI_app, q1]; exact q2) (by omega) (q3 g2) hch⟩
    have hl := rf_loop hn h1 h16 v (by omega) (cnt n w) 0 (by omega)
    rw [run_ratchetref01_Format, if_neg (by simp only [beq_iff_eq]; omega)]
    rw [Nat.pow_zero, Nat.div_one] at hl
    exact hl
  rcases hb with rfl | rfl | rfl
  · exact pow 1 98 (.inl ⟨rfl, rfl, rfl⟩)
  · obtain ⟨g1, g2, g3⟩ := pad_digs (b := 10) (by decide) 5 v 5 (by decide) (by decide) (by omega)
    have hdd := dec_digs 5 v (by decide) (by omega)
    obtain ⟨z, q2, q3⟩ := numV_digs (b := 10) (by decide) (by decide) 5 v (by omega) (by omega) 95 0
    refine ⟨_, fb_dec h1 h16 hv hch, rf_dec h1 h16 (by omega), txt_parse h1 h16 (b := 10) (.inr (.inl rfl)) (by decide) (by rw [hdd]; omega) (by rw [hdd]; exact q2) (by omega) (q3 g2) hch⟩
  · exact pow 4 104 (.inr ⟨rfl, rfl, rfl⟩)
theorem isB_cases {b : Int} (h : isB b = true) : ∃ n : Nat, b = (n : Int) ∧ (n = 2 ∨ n = 10 ∨ n = 16) := by
  unfold isB at h
  simp only [Bool.or_eq_true, beq_iff_eq] at h
  rcases h with rfl | rfl | rfl
  · exact ⟨2, rfl, .inl rfl⟩
  · exact ⟨10, rfl, .inr (.inl rfl)⟩
  · exact ⟨16, rfl, .inr (.inr rfl)⟩
theorem FormatErr_eq (w v b : Int) : run_ratchetref01_FormatErr (.start w v b) = some ((if chk w v ≠ 0 then chk w v else if isB b = true then 0 else 15, ()), ()) := by
  rw [run_ratchetref01_FormatErr, BitsErr_eq]
  simp only [some_bind']
  by_cases h : chk w v = 0
  · have e2 : (if chk w v ≠ 0 then chk w v else if isB b = true then 0 else 15) = if isB b = true then 0 else 15 := if_neg (by simpa using h)
    rw [e2, if_neg (by simpa using h)]
    unfold isB
    by_cases h2 : b = 2
    · subst h2; rfl
    · rw [if_pos (by simpa using h2), beq_eq_false_iff_ne.2 h2]
      by_cases h10 : b = 10
      · subst h10; rfl
      · rw [if_pos (by simpa using h10), beq_eq_false_iff_ne.2 h10]
        by_cases h16 : b = 16
        · subst h16; rfl
        · rw [if_pos (by simpa using h16), beq_eq_false_iff_ne.2 h16]
          rfl
  · have e2 : (if chk w v ≠ 0 then chk w v else if isB b = true then 0 else 15) = chk w v := if_pos h
    rw [e2, if_pos (by simpa using h)]
theorem strings_true (w v b : Int) (s : ByteArray) : run_ratchetlaw01_BitsStrings (.start w v b s) = some ((true, ()), ()) := by
  rw [run_ratchetlaw01_BitsStrings]
  simp only [some_bind', Bool.not_true, Bool.false_eq_true, if_false]
  by_cases hs : s.size ≤ 60
  · obtain ⟨X, x1, x2⟩ := parse_both (s := s) (by omega)
    rw [if_neg (by simp; omega)]
    by_cases he : chk w v = 0 ∧ isB b = true
    · obtain ⟨c1, c2, c3, c4⟩ := chk_zero he.1
      obtain ⟨n, rfl, hn⟩ := isB_cases he.2
      obtain ⟨v, rfl⟩ := Int.eq_ofNat_of_zero_le c3
      obtain ⟨w, rfl⟩ := Int.eq_ofNat_of_zero_le (show 0 ≤ w by omega)
      rw [pw_nat] at c4
      obtain ⟨t, t1, t2, t3⟩ := strings_ok (w := w) (v := v) (b := n) (by omega) (by omega) (by omega) he.1 hn
      have hE : run_ratchetref01_FormatErr (.start (w : Int) (v : Int) (n : Int)) = some ((0, ()), ()) := by
        rw [FormatErr_eq, if_neg (by simpa using he.1), if_pos he.2]
      rw [t1, x1, x2]
      simp only [some_bind']
      rw [if_neg (by simp), if_neg (by simp), run_ratchetlaw01_BitsStrings, hE]
      simp only [some_bind']
      rw [if_neg (by decide), if_neg (by decide), t2]
      simp only [some_bind']
      rw [seq_self, if_neg (by decide), run_ratchetlaw01_BitsStrings, t3]
      simp only [some_bind']
      rw [if_pos (by decide)]
      simp
    · have hF : run_bits_FormatBits (.start w v b) = some ((⟨#[]⟩, ((if chk w v ≠ 0 then chk w v else if isB b = true then 0 else 15 : Int), ())), ()) := by
        rw [run_bits_FormatBits, CheckBits_eq, isBase_eq]
        simp only [some_bind', unless_eq, first2_eq]
        rw [if_pos]
        by_cases h1 : chk w v = 0
        · have h2 : isB b = false := by
            cases h : isB b with
            | false => rfl
            | true => exact absurd ⟨h1, h⟩ he
          rw [h2]
          have e2 : (if chk w v ≠ 0 then chk w v else if false = true then (0 : Int) else 15) = 15 := by rw [if_neg (by simpa using h1)]; rfl
          rw [e2]
          decide
        · have e2 : (if chk w v ≠ 0 then chk w v else if isB b = true then (0 : Int) else 15) = chk w v := if_pos h1
          rw [e2]
          simpa using h1
      have hne : (if chk w v ≠ 0 then chk w v else if isB b = true then 0 else 15 : Int) ≠ 0 := by
        by_cases h1 : chk w v = 0
        · have h2 : isB b = false := by
            cases h : isB b with
            | false => rfl
            | true => exact absurd ⟨h1, h⟩ he
          rw [if_neg (by simpa using h1), h2]
          decide
        · rw [if_pos h1]; exact h1
      rw [hF, x1, x2]
      simp only [some_bind']
      rw [if_neg (by simp), if_neg (by simp), run_ratchetlaw01_BitsStrings, FormatErr_eq]
      simp only [some_bind']
      rw [if_pos (by simpa using hne), if_pos (by simp), seq_self]
  · rw [if_pos (by simp; omega)]
end Go.Proofs.YtcgkjbglijganaaGreatDoor.Ev.F
