/- The digits of a string of bits. -/
import Derived.Test.YtcgkjbglijganaaGreatDoorPStr0
set_option linter.unusedVariables false
set_option linter.unusedSimpArgs false
set_option linter.unnecessarySimpa false
namespace Go.Proofs.YtcgkjbglijganaaGreatDoor.Ev.F
open Go.Proofs.YtcgkjbglijganaaGreatDoor.Ev

/-- a digit of any case -/
def dv (c : Int) : Int := if 48 ≤ c ∧ c ≤ 57 then c - 48 else if 97 ≤ c ∧ c ≤ 102 then c - 87 else if 65 ≤ c ∧ c ≤ 70 then c - 55 else -1
theorem dv_range (c : Int) : -1 ≤ dv c ∧ dv c ≤ 15 := by
  unfold dv
  split
  · omega
  · split
    · omega
    · split <;> omega
theorem dv_95 : dv 95 = -1 := by decide
def satM (x : Int) : Int := if x < 1048576 then x else 1048576
/-- as the program reads digits: value, count, the last byte -/
def numV (b : Int) : List Int → Int → Int → Int → Option (Int × Int × Int)
 | [], last, n, c => some (n, c, last)
 | ch :: l, last, n, c =>
   if ch = 95 then (if last = 95 then none else numV b l 95 n c)
   else if dv ch < 0 ∨ b ≤ dv ch then none else numV b l ch (satM (n * b + dv ch)) (c + 1)
def idxT (b c : Nat) : Int := firstIdx (D16.extract 0 b) (bits .or .u8 (c : Int) (if 65 ≤ c ∧ c ≤ 70 then 32 else 0)).toNat.toUInt8
theorem idx_tab2 : ∀ c : Nat, c < 256 → idxT 2 c = if dv c < 0 ∨ (2 : Int) ≤ dv c then -1 else dv c := by decide +kernel
theorem idx_tab10 : ∀ c : Nat, c < 256 → idxT 10 c = if dv c < 0 ∨ (10 : Int) ≤ dv c then -1 else dv c := by decide +kernel
theorem idx_tab16 : ∀ c : Nat, c < 256 → idxT 16 c = if dv c < 0 ∨ (16 : Int) ≤ dv c then -1 else dv c := by decide +kernel
theorem idx_tab {b : Nat} (hb : b = 2 ∨ b = 10 ∨ b = 16) {c : Nat} (hc : c < 256) : idxT b c = if dv c < 0 ∨ (b : Int) ≤ dv c then -1 else dv c := by
  rcases hb with rfl | rfl | rfl
  · exact idx_tab2 c hc
  · exact idx_tab10 c hc
  · exact idx_tab16 c hc
theorem bwithin_eq (n lo hi : Int) : run_bits_within (.start n lo hi) = some ((decide (lo ≤ n) && decide (n ≤ hi), ()), ()) := by
  rw [run_bits_within]
  by_cases h : lo ≤ n
  · rw [if_pos (by simpa using h)]; simp [h]
  · rw [if_neg (by simpa using h)]; simp [h]
theorem lower_eq (c : Nat) : run_bits_lower (.start (c : Int)) = some (((if 65 ≤ c ∧ c ≤ 70 then 32 else 0 : Int), ()), ()) := by
  rw [run_bits_lower]
  by_cases h1 : 65 ≤ c
  · rw [if_pos (by simp; omega)]
    by_cases h2 : c ≤ 70
    · rw [if_pos (by simp; omega), if_pos ⟨h1, h2⟩]
    · rw [if_neg (by simp; omega), if_neg (by omega)]
  · rw [if_neg (by simp; omega), if_neg (by omega)]
abbrev numR' (r : Option (Int × Int × Int)) : Int × (Bool × Unit) := match r with
 | none => (0, (false, ()))
 | some (n, c, z) => (n, ((z != 95 && (decide (1 ≤ c) && decide (c ≤ 20))), ()))
theorem number_loop {b : Nat} (hb : b = 2 ∨ b = 10 ∨ b = 16) (l : List Int) (hl : ∀ c ∈ l, 0 ≤ c ∧ c < 256) (hlen : l.length ≤ 60000) : ∀ (k i : Nat) (n c last : Int), i + k = l.length → 0 ≤ n → n ≤ 1048576 → 0 ≤ c → c ≤ (i : Int) →
    run_bits_number (.p244 (b : Int) n c last l (l.length : Int) (i : Int)) = some (numR' (numV (b : Int) (l.drop i) last n c), ()) := by
  intro k
  induction k with
  | zero =>
    intro i n c last h h0 h1 h2 h3
    rw [run_bits_number, if_neg (by simp; omega), List.drop_eq_nil_of_le (by omega)]
    simp only [numV, numR']
    by_cases hz : last = 95
    · rw [if_neg (by simpa using hz)]
      subst hz
      rfl
    · rw [if_pos (by simpa using hz), bwithin_eq]
      have : (last != 95) = true := by simpa using hz
      simp only [some_bind', this, Bool.true_and]
  | succ k ih =>
    intro i n c last h h0 h1 h2 h3
    have hi : i < l.length := by omega
    obtain ⟨c0, c1⟩ := hl _ (List.getElem_mem hi)
    obtain ⟨ch, hch⟩ := Int.eq_ofNat_of_zero_le c0
    have hch : l[i] = (ch : Int) := hch
    rw [run_bits_number, if_pos (by simp; omega), idx_nat, List.getElem?_eq_getElem hi, List.drop_eq_getElem_cons hi]
    simp only [some_bind']
    unfold numV
    rw [wrap_i64 (x := (i : Int) + 1) (by omega) (by omega), show ((i : Int) + 1) = ((i + 1 : Nat) : Int) by omega]
    by_cases h95 : l[i] = 95
    · rw [if_pos (by simpa using h95), if_pos h95]
      by_cases hz : last = 95
      · rw [if_pos (by simpa using hz), if_pos hz]
      · rw [if_neg (by simpa using hz), if_neg hz, ih (i + 1) n c _ (by omega) h0 h1 h2 (by omega), h95]
    · rw [if_neg (by simpa using h95), if_neg h95]
      have h16 : (⟨#[48, 49, 50, 51, 52, 53, 54, 55, 56, 57, 97, 98, 99, 100, 101, 102]⟩ : ByteArray).size = 16 := rfl
      have hbb : 2 ≤ b ∧ b ≤ 16 := by omega
      rw [show (0 : Int) = ((0 : Nat) : Int) from rfl, span_nat (Nat.zero_le _) (by rw [h16]; omega), hch]
      simp only [some_bind', lower_eq, run_strings_IndexByte, run_internal_stringslite_IndexByte, byteAt]
      have ht := idx_tab hb (c := ch) (by omega)
      unfold idxT at ht
      have z0 : ((0 : Nat) : Int) = 0 := rfl
      rw [z0, ht]
      obtain ⟨d0, d1⟩ := dv_range (ch : Int)
      by_cases hd : dv (ch : Int) < 0 ∨ (b : Int) ≤ dv (ch : Int)
      · rw [if_pos hd, if_pos hd, if_pos (by decide)]
      · have hm : n * (b : Int) ≤ 1048576 * 16 := Int.mul_le_mul h1 (by omega) (by omega) (by decide)
        have hm0 : 0 ≤ n * (b : Int) := Int.mul_nonneg h0 (by omega)
        rw [if_neg hd, if_neg hd, if_neg (by simp only [decide_eq_true_eq]; omega), wrap_i64 (x := n * (b : Int)) (by omega) (by omega), wrap_i64 (x := n * (b : Int) + dv (ch : Int)) (by omega) (by omega), wrap_i64 (x := c + 1) (by omega) (by omega)]
        rw [ih (i + 1) _ (c + 1) _ (by omega) (by split <;> omega) (by split <;> omega) (by omega) (by omega)]
        rfl
theorem number_eq {b : Nat} (hb : b = 2 ∨ b = 10 ∨ b = 16) {s : ByteArray} (hs : s.size ≤ 60000) : run_bits_number (.start s (b : Int)) = some (numR' (numV (b : Int) (strBytes s) 95 0 0), ()) := by
  rw [run_bits_number]
  have := number_loop hb (strBytes s) (strBytes_range s) (by rw [strBytes_size]; exact hs) (strBytes s).length 0 0 0 95 (by omega) (by decide) (by decide) (by decide) (by decide)
  exact this

/-! ### as the reference reads them -/
def satR (x : Int) : Int := if 1099511627776 < x then 1099511627776 else x
/-- p: the byte before is a digit -/
def numR (b : Int) : List Int → Bool → Int → Int → Option (Int × Int)
 | [], _, v, c => some (v, c)
 | ch :: l, p, v, c =>
   if ch = 95 ∧ p = true ∧ l ≠ [] then numR b l false v c
   else if dv ch < 0 ∨ b ≤ dv ch then none else numR b l true (satR (v * b + dv ch)) (c + 1)
/-- the two values -/
def Same (x y : Int) : Prop := (x = y ∧ y < 1048576) ∨ (x = 1048576 ∧ 1048576 ≤ y)
theorem same_step {b x y d : Int} (hb : 2 ≤ b) (hb2 : b ≤ 16) (h : Same x y) (hx : 0 ≤ x) (hy : y ≤ 1099511627776) (hd : 0 ≤ d) (hd2 : d < 16) : Same (satM (x * b + d)) (satR (y * b + d)) := by
  unfold satM satR
  rcases h with ⟨rfl, h⟩ | ⟨rfl, h⟩
  · have hm : x * b ≤ 1048576 * 16 := Int.mul_le_mul (by omega) hb2 (by omega) (by decide)
    have hm0 : 0 ≤ x * b := Int.mul_nonneg hx (by omega)
    rw [if_neg (show ¬ (1099511627776 : Int) < x * b + d by omega)]
    by_cases h1 : x * b + d < 1048576
    · rw [if_pos h1]; exact .inl ⟨rfl, h1⟩
    · rw [if_neg h1]; exact .inr ⟨rfl, by omega⟩
  · have hm : 1048576 * 2 ≤ y * b := Int.mul_le_mul h hb (by decide) (by omega)
    rw [if_neg (show ¬ (1048576 : Int) * b + d < 1048576 by omega)]
    refine .inr ⟨rfl, ?_⟩
    split <;> omega
theorem num_rel {b : Int} (hb : 2 ≤ b) (hb2 : b ≤ 16) : ∀ (l : List Int) (last : Int) (p : Bool) (v1 v2 c : Int), p = (last != 95) → Same v1 v2 → 0 ≤ v1 → v2 ≤ 1099511627776 →
    match numV b l last v1 c with
    | none => numR b l p v2 c = none
    | some (n, k, z) => (z = 95 ∧ l ≠ [] → numR b l p v2 c = none) ∧ (z ≠ 95 ∨ l = [] → ∃ n2, numR b l p v2 c = some (n2, k) ∧ Same n n2)
 | [], last, p, v1, v2, c, hp, hs, h0, h1 => by
   simp only [numV]
   exact ⟨fun h => absurd rfl h.2, fun _ => ⟨v2, rfl, hs⟩⟩
 | ch :: l, last, p, v1, v2, c, hp, hs, h0, h1 => by
   unfold numV numR
   by_cases h95 : ch = 95
   · subst h95
     rw [if_pos rfl]
     by_cases hz : last = 95
     · have hpf : p = false := by rw [hp]; simpa using hz
       rw [if_pos hz, hpf, if_neg (by simp), dv_95, if_pos (.inl (by decide))]
     · have hpt : p = true := by rw [hp]; simpa using hz
       rw [if_neg hz]
       by_cases hl : l = []
       · subst hl
         simp only [numV]
         rw [if_neg (by simp), dv_95, if_pos (.inl (by decide))]
         exact ⟨fun _ => rfl, fun h => by rcases h with h | h <;> simp at h⟩
       · rw [if_pos ⟨rfl, hpt, hl⟩]
         have ih := num_rel hb hb2 l 95 false v1 v2 c rfl hs h0 h1
         cases hv : numV b l 95 v1 c with
         | none => rw [hv] at ih; exact ih
         | some r =>
           obtain ⟨n, k, z⟩ := r
           rw [hv] at ih
           simp only at ih ⊢
           refine ⟨fun h => ih.1 ⟨h.1, hl⟩, fun h => ?_⟩
           rcases h with h | h
           · exact ih.2 (.inl h)
           · cases h
   · rw [if_neg h95, if_neg (fun h : ch = 95 ∧ p = true ∧ l ≠ [] => h95 h.1)]
     by_cases hd : dv ch < 0 ∨ b ≤ dv ch
     · rw [if_pos hd, if_pos hd]
     · rw [if_neg hd, if_neg hd]
       obtain ⟨d0, d1⟩ := dv_range ch
       have hs2 := same_step hb hb2 hs h0 h1 (show 0 ≤ dv ch by omega) (show dv ch < 16 by omega)
       have ih := num_rel hb hb2 l ch true (satM (v1 * b + dv ch)) (satR (v2 * b + dv ch)) (c + 1) (by simpa using h95) hs2 (by
         unfold satM
         have : 0 ≤ v1 * b := Int.mul_nonneg h0 (by omega)
         split <;> omega) (by unfold satR; split <;> omega)
       cases hv : numV b l ch (satM (v1 * b + dv ch)) (c + 1) with
       | none => rw [hv] at ih; exact ih
       | some r =>
         obtain ⟨n, k, z⟩ := r
         rw [hv] at ih
         simp only at ih ⊢
         by_cases hl : l = []
         · subst hl
           refine ⟨fun h => ?_, fun _ => ih.2 (.inr rfl)⟩
           simp only [numV, Option.some.injEq, Prod.mk.injEq] at hv
           exact absurd (hv.2.2.trans h.1) h95
         · refine ⟨fun h => ih.1 ⟨h.1, hl⟩, fun h => ?_⟩
           rcases h with h | h
           · exact ih.2 (.inl h)
           · cases h
end Go.Proofs.YtcgkjbglijganaaGreatDoor.Ev.F
