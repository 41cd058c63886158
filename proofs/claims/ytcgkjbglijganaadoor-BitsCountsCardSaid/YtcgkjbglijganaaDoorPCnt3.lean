/- One-hot codes, indexes, permutations; the law of counts. -/
import Derived.Test.YtcgkjbglijganaaDoorPCnt2
set_option linter.unusedVariables false
set_option linter.unusedSimpArgs false
namespace Go.Proofs.YtcgkjbglijganaaDoor.Ev.F
open Go.Proofs.YtcgkjbglijganaaDoor.Ev

/-! ### one-hot codes -/
def hotE (i w : Int) : Int := if 1 ≤ w ∧ w ≤ 16 then (if 0 ≤ i ∧ i ≤ w - 1 then 0 else 2) else 25
theorem hotE_zero {i w : Int} : hotE i w = 0 ↔ (1 ≤ w ∧ w ≤ 16) ∧ 0 ≤ i ∧ i ≤ w - 1 := by
  unfold hotE
  by_cases h : 1 ≤ w ∧ w ≤ 16
  · by_cases h2 : 0 ≤ i ∧ i ≤ w - 1
    · simp [h, h2]
    · rw [if_pos h, if_neg h2]; simp [h]; omega
  · rw [if_neg h]; simp; omega
theorem HotErr_eq (i w : Int) : run_ratchetref01_HotErr (.start i w) = some ((hotE i w, ()), ()) := by
  simp only [run_ratchetref01_HotErr, IsWidth_eq, Within_eq, some_bind']
  unfold hotE
  by_cases h : 1 ≤ w ∧ w ≤ 16
  · rw [wrap_i64 (x := w - 1) (by omega) (by omega)]
    by_cases h2 : 0 ≤ i ∧ i ≤ w - 1
    · simp [h, h2]
    · have h3 : decide (0 ≤ i ∧ i ≤ w - 1) = false := decide_eq_false h2
      rw [if_neg (by simp [h]), if_pos h, if_neg h2, h3]
      rfl
  · rw [decide_eq_false h, if_neg h]; rfl
theorem OneHot_eq (i w : Int) : run_bits_OneHot (.start i w) = some (((if hotE i w = 0 then (w, pw i, ()) else (0, 0, ())), hotE i w, ()), ()) := by
  simp only [run_bits_OneHot, isWidth_eq, unless_eq, within_eq, some_bind', first2]
  by_cases h : 1 ≤ w ∧ w ≤ 16
  · rw [wrap_i64 (x := w - 1) (by omega) (by omega)]
    by_cases h2 : 0 ≤ i ∧ i ≤ w - 1
    · have hc : hotE i w = 0 := hotE_zero.2 ⟨h, h2⟩
      have hp : pw i < pw w := by
        have := pw_succ (w := w) (by omega)
        have := pw_mono (a := i) (b := w - 1) (by omega)
        have := pw_pos (w - 1)
        omega
      have hp2 := pw_16 h.2
      have hp3 := pw_pos i
      rw [hc, decide_eq_true h, decide_eq_true h2]
      simp only [fst, if_true]
      rw [if_neg (by decide), if_pos (by simp; omega), shl_one (by omega), of_eq (by omega) (by omega) ⟨by omega, by omega⟩, Int.emod_eq_of_lt (by omega) hp]
      rfl
    · have hc : hotE i w = 2 := by unfold hotE; rw [if_pos h, if_neg h2]
      rw [hc, decide_eq_true h, decide_eq_false h2]
      rfl
  · have hc : hotE i w = 25 := by unfold hotE; rw [if_neg h]
    rw [hc, decide_eq_false h]
    generalize (if decide (0 ≤ i ∧ i ≤ IntKind.wrap .i64 (w - 1)) = true then (0 : Int) else 2) = q
    rfl

/-! ### the index of the only one -/
def idxE (w v : Int) : Int := fst (chk w v) (if popN 16 v.toNat = 1 then 0 else 3)
theorem OnesCount_some (x : Int) : ∃ y, run_math_bits_OnesCount (.start x) = some ((y, ()), ()) := by
  simp only [run_math_bits_OnesCount, run_math_bits_OnesCount64]
  rw [if_pos (by decide), if_pos (by decide), if_pos (by decide), if_pos (by decide), if_pos (by decide), if_pos (by decide)]
  exact ⟨_, rfl⟩
theorem IndexOf_eq (w v : Int) : run_bits_IndexOf (.start w v) = some (((if idxE w v = 0 then ((firstN w.toNat w.toNat v.toNat : Nat) : Int) else 0), idxE w v, ()), ()) := by
  simp only [run_bits_IndexOf, CheckBits_eq, some_bind']
  by_cases hc : chk w v = 0
  · obtain ⟨n, X, rfl, rfl, hn, hn2, hX⟩ := nat_of_chk hc
    have h16 : (2 : Nat) ^ n ≤ 2 ^ 16 := Nat.pow_le_pow_right (by decide) hn2
    obtain ⟨t, ht, hm, hz⟩ := tz_min hn2 hX
    have hX16 : X < 65536 := by omega
    simp only [wrapU_n hX16, OnesCount_eq hX16, some_bind', unless_eq, first2, ht]
    by_cases hp : popN 16 X = 1
    · have hx0 : X ≠ 0 := fun e => by subst e; revert hp; decide
      have htn := hz hx0
      rw [if_pos (by omega)] at hm
      have he : idxE (n : Int) (X : Int) = 0 := by unfold idxE; rw [hc, Int.toNat_natCast, if_pos hp]; rfl
      rw [he, hp, hc, Int.toNat_natCast, Int.toNat_natCast, ← hm]
      rfl
    · have he : idxE (n : Int) (X : Int) = 3 := by unfold idxE; rw [hc, Int.toNat_natCast, if_neg hp]; rfl
      have hb : (((popN 16 X : Nat) : Int) == 1) = false := by simp; omega
      rw [he, hb, hc]
      rfl
  · obtain ⟨y, hy⟩ := OnesCount_some (IntKind.wrap .u64 v)
    have he : idxE w v = chk w v := by unfold idxE fst; rw [if_neg hc]
    simp only [hy, some_bind', unless_eq, first2]
    have hf : ∀ q, fst (chk w v) q = chk w v := fun q => by unfold fst; rw [if_neg hc]
    rw [hf, he, if_pos (by simpa using hc), if_neg hc]
theorem IndexErr_eq (w v : Int) : run_ratchetref01_IndexErr (.start w v) = some ((idxE w v, ()), ()) := by
  simp only [run_ratchetref01_IndexErr, BitsErr_eq, some_bind']
  by_cases hc : chk w v = 0
  · obtain ⟨n, X, rfl, rfl, hn, hn2, hX⟩ := nat_of_chk hc
    rw [if_neg (by simp [hc]), Counts_eq hn2 hX, some_bind']
    obtain ⟨h1, _⟩ := ones_n hn2 hX
    by_cases hp : popN 16 X = 1
    · have he : idxE (n : Int) (X : Int) = 0 := by unfold idxE; rw [hc, Int.toNat_natCast, if_pos hp]; rfl
      rw [he, if_neg (by simp; omega)]
    · have he : idxE (n : Int) (X : Int) = 3 := by unfold idxE; rw [hc, Int.toNat_natCast, if_neg hp]; rfl
      rw [he, if_pos (by simp; omega)]
  · have he : idxE w v = chk w v := by unfold idxE fst; rw [if_neg hc]
    rw [if_pos (by simpa using hc), he]

/-! ### permutations -/
theorem Index_loop (s : List Int) (v : Int) (hs : s.length ≤ 100) : ∀ (m j : Nat), j + m = s.length → ∃ r, run_slices_Index_int_int (.p52 s v (s.length : Int) (j : Int)) = some ((r, ()), ()) ∧ (decide (r ≥ 0) = decide (v ∈ s.drop j))
 | 0, j, h => by
   refine ⟨-1, ?_, ?_⟩
   · rw [run_slices_Index_int_int, if_neg (by simp; omega)]
   · rw [List.drop_eq_nil_of_le (by omega)]; simp
 | m + 1, j, h => by
   have hj : j < s.length := by omega
   rw [run_slices_Index_int_int, if_pos (by simp; omega), idx_nat, List.getElem?_eq_getElem hj, some_bind', List.drop_eq_getElem_cons hj]
   by_cases he : v = s[j]
   · refine ⟨j, by rw [if_pos (by simpa using he)], ?_⟩
     simp [← he]
   · obtain ⟨r, h1, h2⟩ := Index_loop s v hs m (j + 1) (by omega)
     refine ⟨r, by rw [if_neg (by simpa using he), wrapS (by omega), h1], ?_⟩
     have hm : (v ∈ s[j] :: s.drop (j + 1)) ↔ v ∈ s.drop (j + 1) := by rw [List.mem_cons]; exact ⟨fun h => h.resolve_left he, .inr⟩
     rw [h2]
     simp only [hm]
theorem Contains_eq (s : List Int) (v : Int) (hs : s.length ≤ 100) : run_slices_Contains_int_int (.start s v) = some ((decide (v ∈ s), ()), ()) := by
  obtain ⟨r, h1, h2⟩ := Index_loop s v hs s.length 0 (by omega)
  rw [run_slices_Contains_int_int, run_slices_Index_int_int]
  rw [show ((0 : Nat) : Int) = (0 : Int) from rfl] at h1
  rw [h1, some_bind', h2, List.drop_zero]
theorem Has_loop (s : List Int) (v : Int) (hs : s.length ≤ 100) : ∀ (m j : Nat), j + m = s.length → run_ratchetbase_Has (.p52 s v (j : Int)) = some ((decide (v ∈ s.drop j), ()), ())
 | 0, j, h => by
   rw [run_ratchetbase_Has, if_neg (by simp; omega), List.drop_eq_nil_of_le (by omega)]; simp
 | m + 1, j, h => by
   have hj : j < s.length := by omega
   rw [run_ratchetbase_Has, if_pos (by simp; omega), idx_nat, List.getElem?_eq_getElem hj, some_bind', List.drop_eq_getElem_cons hj]
   by_cases he : s[j] = v
   · rw [if_pos (by simpa using he)]; simp [he]
   · rw [if_neg (by simpa using he), wrapS (by omega), Has_loop s v hs m (j + 1) (by omega)]
     have hm : (v ∈ s[j] :: s.drop (j + 1)) ↔ v ∈ s.drop (j + 1) := by rw [List.mem_cons]; exact ⟨fun h => h.resolve_left (Ne.symm he), .inr⟩
     simp only [hm]
theorem Has_eq (s : List Int) (v : Int) (hs : s.length ≤ 100) : run_ratchetbase_Has (.start s v) = some ((decide (v ∈ s), ()), ()) := by
  rw [run_ratchetbase_Has]
  have := Has_loop s v hs s.length 0 (by omega)
  rw [show ((0 : Nat) : Int) = (0 : Int) from rfl] at this
  rw [this, List.drop_zero]

def permE (n : Nat) (l : List Int) : Nat → Nat → Int
 | 0, _ => 0
 | m + 1, k => if 0 ≤ l.getD k 0 ∧ l.getD k 0 ≤ (n : Int) - 1 then (if l.getD k 0 ∈ l.take k then 23 else permE n l m (k + 1)) else 6
def permV (X : Nat) (l : List Int) : Nat → Nat
 | 0 => 0
 | k + 1 => permV X l k + bitAt X (l.getD k 0).toNat * 2 ^ k
theorem permV_lt (X : Nat) (l : List Int) : ∀ k, permV X l k < 2 ^ k
 | 0 => by simp [permV]
 | k + 1 => by
   have h := permV_lt X l k
   unfold permV
   rw [Nat.pow_succ]
   rcases bitAt_01 X (l.getD k 0).toNat with h1 | h1 <;> rw [h1] <;> omega
theorem word_bit_eq {w : Int} {X i : Nat} (hX : X < 65536) (hi : i ≤ 64) : run_bits_word_bit (.start w (X : Int) (i : Int)) = some ((((bitAt X i : Nat) : Int), ()), ()) := by
  rw [run_bits_word_bit, if_pos (by simp), shr_eq (by omega), pw_nat]
  have h1 : ((X : Nat) : Int) / ((2 ^ i : Nat) : Int) = ((X / 2 ^ i : Nat) : Int) := rfl
  have h2 : X / 2 ^ i ≤ X := Nat.div_le_self _ _
  rw [h1, bitAt_eq]
  generalize X / 2 ^ i = q at *
  have h3 := and_mask (x := ((q : Nat) : Int)) (w := 1) (by decide) (by decide) (by omega) (by omega)
  rw [show pw 1 - 1 = 1 by decide, show pw 1 = 2 by decide] at h3
  rw [h3]
  rfl
theorem or_step {O b k : Nat} (hO : O < 2 ^ k) (hk : k ≤ 20) (hb : b = 0 ∨ b = 1) : bits .or .i64 (O : Int) (shl .i64 (b : Int) (k : Int)) = ((O + b * 2 ^ k : Nat) : Int) := by
  have hp : (2 : Nat) ^ k ≤ 2 ^ 20 := Nat.pow_le_pow_right (by decide) hk
  have hbk : b * 2 ^ k ≤ 2 ^ 20 := by rcases hb with rfl | rfl <;> omega
  have e : (b : Int) * pw (k : Int) = ((b * 2 ^ k : Nat) : Int) := by rw [pw_nat, Int.natCast_mul]
  rw [shl_eq (by omega) (by rw [e]; omega) (by rw [e]; omega), e, or_nat (by omega) (by omega), ← Nat.shiftLeft_eq, Nat.or_comm, ← Nat.shiftLeft_add_eq_or_of_lt hO, Nat.add_comm]
theorem span_0 {n k : Nat} (h : k ≤ n) : span n 0 (k : Int) = some (0, k) := by
  unfold span
  rw [if_pos (by omega)]; rfl
theorem cut_0 {α : Type} (l : List α) (k : Nat) : cut l (0, k) = l.take k := rfl

theorem Permuted_loop (l : List Int) (n X : Nat) (hn : n ≤ 16) (hl : l.length = n) (hX : X < 2 ^ n) (p q : Int) : ∀ (m k : Nat), k + m = n →
    run_bits_Permuted (.p244 l ((permV X l k : Nat) : Int) l (l.length : Int) (k : Int) (n : Int) (X : Int) p q) = some (((if permE n l m k = 0 then ((n : Int), ((permV X l n : Nat) : Int), ()) else (0, 0, ())), permE n l m k, ()), ())
 | 0, k, h => by
   obtain rfl : k = n := by omega
   have h16 : (2 : Nat) ^ k ≤ 2 ^ 16 := Nat.pow_le_pow_right (by decide) hn
   have hv := permV_lt X l k
   rw [run_bits_Permuted, if_neg (by simp; omega), of_eq (by omega) (by omega) ⟨by omega, by omega⟩, some_bind', pw_nat, show ((permV X l k : Nat) : Int) % ((2 ^ k : Nat) : Int) = ((permV X l k % 2 ^ k : Nat) : Int) from rfl, Nat.mod_eq_of_lt hv]
   rfl
 | m + 1, k, h => by
   have h16 : (2 : Nat) ^ n ≤ 2 ^ 16 := Nat.pow_le_pow_right (by decide) hn
   have hk : k < l.length := by omega
   have hg : l.getD k 0 = l[k] := by rw [List.getD_eq_getElem?_getD, List.getElem?_eq_getElem hk]; rfl
   rw [run_bits_Permuted, if_pos (by simp; omega), idx_nat, List.getElem?_eq_getElem hk]
   simp only [some_bind', within_eq, unless_eq]
   rw [span_0 (by omega), some_bind', cut_0, Contains_eq _ _ (by rw [List.length_take]; omega), some_bind', wrap_i64 (x := (n : Int) - 1) (by omega) (by omega)]
   simp only [first2, some_bind']
   unfold permE
   rw [hg]
   by_cases h1 : 0 ≤ l[k] ∧ l[k] ≤ (n : Int) - 1
   · rw [decide_eq_true h1, if_pos h1]
     by_cases h2 : l[k] ∈ l.take k
     · rw [decide_eq_true h2, if_pos h2]
       rfl
     · rw [decide_eq_false h2, if_neg h2]
       obtain ⟨i, hi⟩ := Int.eq_ofNat_of_zero_le h1.1
       rw [if_neg (by decide), hi, word_bit_eq (by omega) (by omega), some_bind', if_pos (by simp), or_step (permV_lt X l k) (by omega) (bitAt_01 X i), wrapS (by omega)]
       have e : permV X l k + bitAt X i * 2 ^ k = permV X l (k + 1) := by
         rw [permV, hg, hi]; rfl
       rw [e]
       exact Permuted_loop l n X hn hl hX p q m (k + 1) (by omega)
   · rw [decide_eq_false h1, if_neg h1]
     generalize decide (l[k] ∈ List.take k l) = q
     rfl
def ordE (w v : Int) (l : List Int) : Int := fst (fst (chk w v) (if (l.length : Int) = w then 0 else 10)) (permE w.toNat l w.toNat 0)
theorem Permuted_eq (w v : Int) (l : List Int) : run_bits_Permuted (.start w v l) = some (((if ordE w v l = 0 then (w, ((permV v.toNat l w.toNat : Nat) : Int), ()) else (0, 0, ())), ordE w v l, ()), ()) := by
  rw [run_bits_Permuted]
  simp only [CheckBits_eq, unless_eq, some_bind', first2]
  have hb : (if ((l.length : Int) == w) = true then (0 : Int) else 10) = if (l.length : Int) = w then 0 else 10 := by
    by_cases h : (l.length : Int) = w <;> simp [h]
  rw [hb]
  by_cases hc : fst (chk w v) (if (l.length : Int) = w then 0 else 10) = 0
  · obtain ⟨h1, h2⟩ := fst_zero.1 hc
    obtain ⟨n, X, rfl, rfl, hn, hn2, hX⟩ := nat_of_chk h1
    have hl : l.length = n := by split at h2 <;> first | omega | cases h2
    have := Permuted_loop l n X hn2 hl hX 0 0 n 0 (by omega)
    have he : ordE (n : Int) (X : Int) l = permE n l n 0 := by unfold ordE; rw [hc, Int.toNat_natCast]; rfl
    rw [if_neg (by simp [hc]), he, Int.toNat_natCast, Int.toNat_natCast]
    exact this
  · have he : ordE w v l = fst (chk w v) (if (l.length : Int) = w then 0 else 10) := by
      unfold ordE
      rw [fst, if_neg hc]
    rw [if_pos (by simpa using hc), he, if_neg hc]
theorem OrderErr_loop (l : List Int) (n : Nat) (v : Int) (hn : n ≤ 16) (hl : l.length = n) : ∀ (m k : Nat), k + m = n → run_ratchetref01_OrderErr (.p244 l (k : Int) (n : Int) v) = some ((permE n l m k, ()), ())
 | 0, k, h => by rw [run_ratchetref01_OrderErr, if_neg (by simp; omega)]; rfl
 | m + 1, k, h => by
   have hk : k < l.length := by omega
   have hg : l.getD k 0 = l[k] := by rw [List.getD_eq_getElem?_getD, List.getElem?_eq_getElem hk]; rfl
   rw [run_ratchetref01_OrderErr, if_pos (by simp; omega), idx_nat, List.getElem?_eq_getElem hk]
   simp only [some_bind', Within_eq]
   rw [span_0 (by omega), some_bind', cut_0, Has_eq _ _ (by rw [List.length_take]; omega), some_bind', wrap_i64 (x := (n : Int) - 1) (by omega) (by omega), wrapS (by omega), OrderErr_loop l n v hn hl m (k + 1) (by omega)]
   rw [show permE n l (m + 1) k = (if 0 ≤ l.getD k 0 ∧ l.getD k 0 ≤ (n : Int) - 1 then (if l.getD k 0 ∈ l.take k then 23 else permE n l m (k + 1)) else 6) from rfl, hg]
   by_cases h1 : 0 ≤ l[k] ∧ l[k] ≤ (n : Int) - 1
   · rw [decide_eq_true h1, if_pos h1]
     by_cases h2 : l[k] ∈ l.take k
     · rw [decide_eq_true h2, if_pos h2]; rfl
     · rw [decide_eq_false h2, if_neg h2]; rfl
   · rw [decide_eq_false h1, if_neg h1]; rfl
theorem OrderErr_eq (w v : Int) (l : List Int) : run_ratchetref01_OrderErr (.start w v l) = some ((ordE w v l, ()), ()) := by
  rw [run_ratchetref01_OrderErr, BitsErr_eq, some_bind']
  by_cases hc : chk w v = 0
  · obtain ⟨n, X, rfl, rfl, hn, hn2, hX⟩ := nat_of_chk hc
    rw [if_neg (by simp [hc])]
    by_cases hl : l.length = n
    · have := OrderErr_loop l n (X : Int) hn2 hl n 0 (by omega)
      have he : ordE (n : Int) (X : Int) l = permE n l n 0 := by unfold ordE; rw [hc, if_pos (by omega), Int.toNat_natCast]; rfl
      rw [if_neg (by simp; omega), he]
      exact this
    · have he : ordE (n : Int) (X : Int) l = 10 := by unfold ordE; rw [hc, if_neg (by omega)]; rfl
      rw [if_pos (by simp; omega), he]
  · have he : ordE w v l = chk w v := by unfold ordE fst; simp [hc]
    rw [if_pos (by simpa using hc), he]
theorem lowL_push {Y b k : Nat} (hY : Y < 2 ^ k) (hb : b = 0 ∨ b = 1) : lowL (Y + b * 2 ^ k) (k + 1) = lowL Y k ++ [(b : Int)] := by
  rw [lowL_succ]
  congr 1
  · unfold lowL
    refine List.map_congr_left fun j hj => ?_
    have hj := List.mem_range.1 hj
    rw [bitn_eq, bitn_eq]
    obtain ⟨d, rfl⟩ : ∃ d, k = j + (d + 1) := ⟨k - j - 1, by omega⟩
    congr 1
    rw [Nat.pow_add, Nat.mul_left_comm, Nat.add_mul_div_left _ _ (Nat.two_pow_pos j), Nat.pow_succ]
    have : b * (2 ^ d * 2) = 2 * (b * 2 ^ d) := by rw [Nat.mul_comm (2 ^ d) 2, Nat.mul_left_comm]
    rw [this]
    omega
  · rw [bitn_eq, Nat.add_mul_div_right _ _ (Nat.two_pow_pos k), Nat.div_eq_of_lt hY]
    congr 1
    rcases hb with rfl | rfl <;> rfl
theorem Permute_loop (l : List Int) (n X : Nat) (hn : n ≤ 16) (hl : l.length = n) (v p q : Int) : ∀ (m k : Nat), k + m = n → permE n l m k = 0 →
    run_ratchetref01_Permute (.p244 l (k : Int) (n : Int) v p q (lowL X n) (lowL (permV X l k) k)) = some ((((n : Int), ((permV X l n : Nat) : Int), ()), ()), ())
 | 0, k, h, _ => by
   obtain rfl : k = n := by omega
   rw [run_ratchetref01_Permute, if_neg (by simp; omega), whole_eq _ _ (by omega) (permV_lt X l k)]
   rfl
 | m + 1, k, h, he => by
   have hk : k < l.length := by omega
   have hg : l.getD k 0 = l[k] := by rw [List.getD_eq_getElem?_getD, List.getElem?_eq_getElem hk]; rfl
   unfold permE at he
   rw [hg] at he
   by_cases h1 : 0 ≤ l[k] ∧ l[k] ≤ (n : Int) - 1
   · rw [if_pos h1] at he
     by_cases h2 : l[k] ∈ l.take k
     · rw [if_pos h2] at he; cases he
     · rw [if_neg h2] at he
       obtain ⟨i, hi⟩ := Int.eq_ofNat_of_zero_le h1.1
       have e : lowL (permV X l k) k ++ [bitn X i] = lowL (permV X l (k + 1)) (k + 1) := by
         rw [permV, hg, hi, lowL_push (permV_lt X l k) (bitAt_01 X _), bitn_at]; rfl
       rw [run_ratchetref01_Permute, if_pos (by simp; omega), idx_nat, List.getElem?_eq_getElem hk, some_bind', hi, if_pos (by simp [lowL_len]; omega), lowL_idx X (by omega), some_bind', if_pos (by rw [lowL_len]; exact fits8 (by simp; omega)), wrapS (by omega), e]
       exact Permute_loop l n X hn hl v p q m (k + 1) (by omega) he
   · rw [if_neg h1] at he; cases he
theorem Permute_eq {w v : Int} {l : List Int} (h : ordE w v l = 0) : run_ratchetref01_Permute (.start w v l) = some (((w, ((permV v.toNat l w.toNat : Nat) : Int), ()), ()), ()) := by
  unfold ordE at h
  obtain ⟨h1, h2⟩ := fst_zero.1 h
  obtain ⟨h3, h4⟩ := fst_zero.1 h1
  obtain ⟨n, X, rfl, rfl, hn, hn2, hX⟩ := nat_of_chk h3
  have h16 : (2 : Nat) ^ n ≤ 2 ^ 16 := Nat.pow_le_pow_right (by decide) hn2
  have hl : l.length = n := by split at h4 <;> first | omega | cases h4
  rw [Int.toNat_natCast] at h2
  have := Permute_loop l n X hn2 hl (X : Int) 0 0 n 0 (by omega) h2
  rw [run_ratchetref01_Permute, low_eq X n (by omega) (by omega), some_bind', Int.toNat_natCast, Int.toNat_natCast]
  exact this

/-! ### the law -/
theorem counts_p2047 (w v : Int) (l : List Int) : run_ratchetlaw01_BitsCounts (.p2047 l (ordE w v l) w v (if ordE w v l = 0 then (w, ((permV v.toNat l w.toNat : Nat) : Int), ()) else (0, 0, ()) : Int × Int × Unit).1 (if ordE w v l = 0 then (w, ((permV v.toNat l w.toNat : Nat) : Int), ()) else (0, 0, ()) : Int × Int × Unit).2.1) = some ((true, ()), ()) := by
  rw [run_ratchetlaw01_BitsCounts, OrderErr_eq, some_bind']
  by_cases hc : ordE w v l = 0
  · simp only [hc, if_true]
    rw [if_neg (by simp), if_pos (by simp), Permute_eq hc, some_bind']
    simp
  · simp [hc]
theorem counts_p1023 (w v : Int) (l : List Int) : run_ratchetlaw01_BitsCounts (.p1023 l (if idxE w v = 0 then ((firstN w.toNat w.toNat v.toNat : Nat) : Int) else 0) (idxE w v) (ordE w v l) w v (if ordE w v l = 0 then (w, ((permV v.toNat l w.toNat : Nat) : Int), ()) else (0, 0, ()) : Int × Int × Unit).1 (if ordE w v l = 0 then (w, ((permV v.toNat l w.toNat : Nat) : Int), ()) else (0, 0, ()) : Int × Int × Unit).2.1) = some ((true, ()), ()) := by
  rw [run_ratchetlaw01_BitsCounts, IndexErr_eq, some_bind']
  by_cases hc : idxE w v = 0
  · have h1 : chk w v = 0 := by unfold idxE at hc; exact (fst_zero.1 hc).1
    obtain ⟨n, X, rfl, rfl, hn, hn2, hX⟩ := nat_of_chk h1
    rw [if_neg (by simp [hc]), if_pos (by simp [hc]), if_neg (by simp [hc]), Counts_eq hn2 hX, some_bind', if_neg (by simp [hc])]
    exact counts_p2047 (n : Int) (X : Int) l
  · rw [if_pos (by simpa using hc), if_neg (by simp), if_neg (by simp [hc]), if_neg (by simpa using hc)]
    exact counts_p2047 w v l
theorem counts_p511 (w v i j : Int) (l : List Int) : run_ratchetlaw01_BitsCounts (.p511 l (hotE i j) (if idxE w v = 0 then ((firstN w.toNat w.toNat v.toNat : Nat) : Int) else 0) (idxE w v) (ordE w v l) w v i j (if hotE i j = 0 then (j, pw i, ()) else (0, 0, ()) : Int × Int × Unit).1 (if hotE i j = 0 then (j, pw i, ()) else (0, 0, ()) : Int × Int × Unit).2.1
    (if ordE w v l = 0 then (w, ((permV v.toNat l w.toNat : Nat) : Int), ()) else (0, 0, ()) : Int × Int × Unit).1 (if ordE w v l = 0 then (w, ((permV v.toNat l w.toNat : Nat) : Int), ()) else (0, 0, ()) : Int × Int × Unit).2.1) = some ((true, ()), ()) := by
  rw [run_ratchetlaw01_BitsCounts, HotErr_eq, some_bind']
  by_cases hc : hotE i j = 0
  · obtain ⟨h1, h2⟩ := hotE_zero.1 hc
    rw [if_neg (by simp [hc]), if_pos (by simp [hc]), if_neg (by simp [hc]), Power_eq (by omega) (by omega), some_bind', of_law, some_bind', if_neg (by simp [hc])]
    exact counts_p1023 w v l
  · rw [if_pos (by simpa using hc), if_neg (by simp), if_neg (by simp [hc]), if_neg (by simpa using hc)]
    exact counts_p1023 w v l
theorem counts_true (w v i j : Int) (l : List Int) : run_ratchetlaw01_BitsCounts (.start w v i j l) = some ((true, ()), ()) := by
  rw [run_ratchetlaw01_BitsCounts, some_bind', if_neg (by simp)]
  by_cases hl : (l.length : Int) > 18
  · rw [if_pos (by simpa using hl)]
  · rw [if_neg (by simpa using hl), CountsOf_eq, some_bind', OneHot_eq, some_bind', IndexOf_eq, some_bind', show run_ratchetbase_CopyInts_v1 (.start l) = some (((), ()), (l, ())) by
      rw [run_ratchetbase_CopyInts_v1]
      simp
      exact fits8 (by simp; omega), some_bind', Permuted_eq, some_bind', BitsErr_eq, some_bind']
    by_cases hc : chk w v = 0
    · obtain ⟨n, X, rfl, rfl, hn, hn2, hX⟩ := nat_of_chk hc
      rw [if_neg (by simp [hc]), if_pos (by simp [hc]), if_neg (by simp [hc]), Counts_eq hn2 hX, some_bind', if_neg (by simp [hc, cnt])]
      exact counts_p511 (n : Int) (X : Int) i j l
    · rw [if_pos (by simpa using hc), if_neg (by simp), if_neg (by simp [hc]), if_neg (by simpa using hc)]
      exact counts_p511 w v i j l
end Go.Proofs.YtcgkjbglijganaaDoor.Ev.F
