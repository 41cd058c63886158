/- Strings of bits as the reference reads them. -/
import Derived.Test.YtcgkjbglijganaaGreatDoorPStr1
set_option linter.unusedVariables false
set_option linter.unusedSimpArgs false
set_option linter.unnecessarySimpa false
namespace Go.Proofs.YtcgkjbglijganaaGreatDoor.Ev.F
open Go.Proofs.YtcgkjbglijganaaGreatDoor.Ev

def chk (w v : Int) : Int := if 1 ≤ w ∧ w ≤ 16 then (if 0 ≤ v ∧ v ≤ pw w - 1 then 0 else 2) else 25
theorem and_false' {a b : Prop} [Decidable a] [Decidable b] (h : ¬ (a ∧ b)) : (decide a && decide b) = false := by
  by_cases ha : a
  · have : ¬ b := fun hb => h ⟨ha, hb⟩
    simp [this]
  · simp [ha]
theorem and_true' {a b : Prop} [Decidable a] [Decidable b] (h : a ∧ b) : (decide a && decide b) = true := by simp [h.1, h.2]
theorem BitsErr_eq (w v : Int) : run_ratchetref01_BitsErr (.start w v) = some ((chk w v, ()), ()) := by
  rw [run_ratchetref01_BitsErr, run_ratchetbase_IsWidth, Within_eq]
  simp only [some_bind']
  unfold chk
  by_cases hw : 1 ≤ w ∧ w ≤ 16
  · have hp := pw_16 hw.2
    have hp0 := pw_pos w
    rw [and_true' hw, if_neg (by decide), if_pos hw, run_ratchetbase_Fits, Power_eq (by omega) (by omega)]
    simp only [some_bind']
    rw [wrap_i64 (x := pw w - 1) (by omega) (by omega), Within_eq]
    simp only [some_bind']
    by_cases hv : 0 ≤ v ∧ v ≤ pw w - 1
    · rw [and_true' hv, if_neg (by decide), if_pos hv]
    · rw [and_false' hv, if_pos (by decide), if_neg hv]
  · rw [and_false' hw, if_pos (by decide), if_neg hw]
theorem unless_eq (b : Bool) (e : Int) : run_bits_unless (.start b e) = some ((if b = true then 0 else e, ()), ()) := by
  rw [run_bits_unless]
  split <;> rfl
theorem CheckBits_eq (w v : Int) : run_bits_CheckBits (.start w v) = some ((chk w v, ()), ()) := by
  rw [run_bits_CheckBits, run_bits_isWidth, bwithin_eq]
  simp only [some_bind']
  unfold chk
  by_cases hw : 1 ≤ w ∧ w ≤ 16
  · have hp := pw_16 hw.2
    have hp0 := pw_pos w
    rw [and_true' hw, if_neg (by decide), if_pos (by simp; omega), if_pos hw, shl_one (by omega), wrap_i64 (x := pw w - 1) (by omega) (by omega), bwithin_eq]
    simp only [some_bind', unless_eq]
    by_cases hv : 0 ≤ v ∧ v ≤ pw w - 1
    · rw [and_true' hv, if_pos hv, if_pos rfl]
    · rw [and_false' hv, if_neg hv, if_neg (by decide)]
  · rw [and_false' hw, if_pos (by decide), if_neg hw]
theorem first2_eq (a b : Int) : run_bits_first (.start [a, b]) = some ((if a ≠ 0 then a else b, ()), ()) := by
  have e0 : idx [a, b] (0 : Int) = some a := rfl
  have e1 : idx [a, b] (1 : Int) = some b := rfl
  have w1 : IntKind.wrap .i64 ((0 : Int) + 1) = 1 := by decide
  have w2 : IntKind.wrap .i64 ((1 : Int) + 1) = 2 := by decide
  have hl : (([a, b] : List Int).length : Int) = 2 := rfl
  rw [run_bits_first, hl, run_bits_first, if_pos (by decide), e0]
  simp only [some_bind']
  by_cases ha : a = 0
  · have e2 : (if a ≠ 0 then a else b) = b := if_neg (by simpa using ha)
    rw [e2, if_neg (by simpa using ha), w1, run_bits_first, if_pos (by decide), e1]
    simp only [some_bind']
    by_cases hb : b = 0
    · rw [if_neg (by simpa using hb), w2, run_bits_first, if_neg (by decide), hb]
    · rw [if_pos (by simpa using hb)]
  · have e2 : (if a ≠ 0 then a else b) = a := if_pos ha
    rw [e2, if_pos (by simpa using ha)]
theorem digit_eq {c : Int} (h0 : 0 ≤ c) (h1 : c < 256) : run_ratchetref01_digit (.start c) = some ((dv c, ()), ()) := by
  rw [run_ratchetref01_digit, wrap_i64 (x := c) (by omega) (by omega), Within_eq]
  simp only [some_bind']
  unfold dv
  by_cases a1 : 48 ≤ c ∧ c ≤ 57
  · rw [and_true' a1, if_pos rfl, if_pos a1, wrap_u8' (x := c - 48) (by omega) (by omega), wrap_i64 (x := c - 48) (by omega) (by omega)]
  · rw [and_false' a1, if_neg (by decide), if_neg a1, Within_eq]
    simp only [some_bind']
    by_cases a2 : 97 ≤ c ∧ c ≤ 102
    · rw [and_true' a2, if_pos rfl, if_pos a2, wrap_u8' (x := c - 97) (by omega) (by omega), wrap_i64 (x := c - 97) (by omega) (by omega), wrap_i64 (x := c - 97 + 10) (by omega) (by omega)]
      congr 3
      omega
    · rw [and_false' a2, if_neg (by decide), if_neg a2, Within_eq]
      simp only [some_bind']
      by_cases a3 : 65 ≤ c ∧ c ≤ 70
      · rw [and_true' a3, if_pos rfl, if_pos a3, wrap_u8' (x := c - 65) (by omega) (by omega), wrap_i64 (x := c - 65) (by omega) (by omega), wrap_i64 (x := c - 65 + 10) (by omega) (by omega)]
        congr 3
        omega
      · rw [and_false' a3, if_neg (by decide), if_neg a3]
abbrev bad7 : (Int × (Int × Unit)) × (Int × Unit) := ((0, (0, ())), (7, ()))
abbrev okR (w v e : Int) : (Int × (Int × Unit)) × (Int × Unit) := if e ≠ 0 then ((0, (0, ())), (e, ())) else ((w, (v, ())), (0, ()))
def parR (w : Int) : Option (Int × Int) → (Int × (Int × Unit)) × (Int × Unit)
 | none => bad7
 | some (v, c) => if 20 < c then bad7 else okR w v (chk w v)
theorem strB_drop {s : ByteArray} {i : Nat} (h : i < s.size) : (strBytes s).drop i = bt s i :: (strBytes s).drop (i + 1) := by
  obtain ⟨c, h1, h2, h3⟩ := drop_bt h
  unfold strBytes
  rw [← List.map_drop, ← List.map_drop, h3, h2]
  rfl
theorem strB_drop_nil {s : ByteArray} {i : Nat} : (strBytes s).drop i = [] ↔ s.size ≤ i := by
  rw [List.drop_eq_nil_iff, strBytes_size]
theorem parse_loop {b : Nat} (hb : 2 ≤ b ∧ b ≤ 16) {t : ByteArray} (ht : t.size ≤ 60000) (w : Int) : ∀ (k i : Nat) (p : Bool) (v c : Int), i + k = t.size → (0 < i → p = (bt t (i - 1) != 95)) → (i = 0 → p = false) → 0 ≤ v → v ≤ 1099511627776 → 0 ≤ c → c ≤ (i : Int) →
    run_ratchetref01_Parse (.p65524 7 w (b : Int) t c v (i : Int) 0 0) = some (parR w (numR (b : Int) ((strBytes t).drop i) p v c), ()) := by
  intro k
  induction k with
  | zero =>
    intro i p v c h hp hp0 h0 h1 h2 h3
    rw [run_ratchetref01_Parse, if_neg (by simp; omega), strB_drop_nil.2 (by omega), BitsErr_eq]
    simp only [numR, parR, some_bind']
    by_cases hc : 20 < c
    · rw [if_pos (by simpa using hc), if_pos hc]
    · rw [if_neg (by simpa using hc), if_neg hc]
      by_cases he : chk w v = 0
      · rw [if_neg (by simpa using he)]
        unfold okR
        rw [if_neg (by simpa using he)]
      · rw [if_pos (by simpa using he)]
        unfold okR
        rw [if_pos he]
  | succ k ih =>
    intro i p v c h hp hp0 h0 h1 h2 h3
    have hi : i < t.size := by omega
    have hdig : ∀ (hno : ¬ (bt t i = 95 ∧ p = true ∧ (strBytes t).drop (i + 1) ≠ [])), run_ratchetref01_Parse (.p1048393 7 w (b : Int) t c v (i : Int) 0 0) = some (parR w (numR (b : Int) ((strBytes t).drop i) p v c), ()) := by
      intro hno
      rw [run_ratchetref01_Parse, sidx_nat hi, strB_drop hi]
      simp only [some_bind', digit_eq (bt_0 t i) (bt_lt t i), numR]
      rw [if_neg hno, wrap_i64 (x := (b : Int) - 1) (by omega) (by omega), Within_eq]
      simp only [some_bind']
      obtain ⟨d0, d1⟩ := dv_range (bt t i)
      by_cases hd : dv (bt t i) < 0 ∨ (b : Int) ≤ dv (bt t i)
      · rw [if_pos hd, and_false' (by omega), if_pos (by decide)]
        rfl
      · have hm : v * (b : Int) ≤ 1099511627776 * 16 := Int.mul_le_mul h1 (by omega) (by omega) (by decide)
        have hm0 : 0 ≤ v * (b : Int) := Int.mul_nonneg h0 (by omega)
        have hne : bt t i ≠ 95 := fun h => by rw [h, dv_95] at hd; omega
        rw [if_neg hd, and_true' (by omega), if_neg (by decide), wrap_i64 (x := c + 1) (by omega) (by omega), wrap_i64 (x := v * (b : Int)) (by omega) (by omega), wrap_i64 (x := v * (b : Int) + dv (bt t i)) (by omega) (by omega), wrap_i64 (x := (i : Int) + 1) (by omega) (by omega), show ((i : Int) + 1) = ((i + 1 : Nat) : Int) by omega]
        exact ih (i + 1) true _ (c + 1) (by omega) (fun _ => by rw [Nat.add_sub_cancel]; simpa using hne) (by omega) (by split <;> omega) (by split <;> omega) (by omega) (by omega)
    rw [run_ratchetref01_Parse, if_pos (by simp; omega), sidx_nat hi]
    simp only [some_bind']
    by_cases h95 : bt t i = 95
    · rw [if_pos (by simpa using h95)]
      by_cases hi0 : 0 < i
      · rw [if_pos (by simp; omega), wrap_i64 (x := (i : Int) + 1) (by omega) (by omega), show ((i : Int) + 1) = ((i + 1 : Nat) : Int) by omega]
        by_cases hl : i + 1 < t.size
        · rw [if_pos (by simp only [decide_eq_true_eq]; omega), wrap_i64 (x := (i : Int) - 1) (by omega) (by omega), show ((i : Int) - 1) = ((i - 1 : Nat) : Int) by omega, sidx_nat (by omega)]
          simp only [some_bind']
          have hpp := hp hi0
          by_cases hq : bt t (i - 1) = 95
          · rw [if_neg (by simpa using hq)]
            refine hdig fun h => ?_
            rw [hpp] at h
            simp [hq] at h
          · have hpt : p = true := by rw [hpp]; simpa using hq
            have hlne : (strBytes t).drop (i + 1) ≠ [] := fun h => by rw [strB_drop_nil] at h; omega
            rw [if_pos (by simpa using hq), ih (i + 1) false v c (by omega) (fun _ => by rw [Nat.add_sub_cancel, h95]; rfl) (by omega) h0 h1 h2 (by omega), strB_drop hi]
            simp only [numR]
            rw [if_pos ⟨h95, hpt, hlne⟩]
        · rw [if_neg (by simp only [decide_eq_true_eq]; omega)]
          exact hdig fun h => h.2.2 (strB_drop_nil.2 (by omega))
      · rw [if_neg (by simp; omega)]
        refine hdig fun h => ?_
        rw [hp0 (by omega)] at h
        exact absurd h.2.1 (by decide)
    · rw [if_neg (by simpa using h95)]
      exact hdig fun h => h95 h.1
end Go.Proofs.YtcgkjbglijganaaGreatDoor.Ev.F
