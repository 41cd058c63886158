/- Gray codes. -/
import Derived.Test.YtcgkjbglijganaaDoorPLow
import Derived.Test.YtcgkjbglijganaaDoorF2
set_option linter.unusedVariables false
set_option linter.unusedSimpArgs false
namespace Go.Proofs.YtcgkjbglijganaaDoor.Ev.F
open Go.Proofs.YtcgkjbglijganaaDoor.Ev

def gray (X : Nat) : Nat := X ^^^ X / 2
def ung (X : Nat) : Nat := if X = 0 then 0 else X ^^^ ung (X / 2)
termination_by X
decreasing_by omega
theorem ung_rec (X : Nat) : ung X = X ^^^ ung (X / 2) := by
  by_cases h : X = 0
  · subst h
    have : ung 0 = 0 := by rw [ung]; simp
    simp [this]
  · rw [ung, if_neg h]
theorem ung_gray : ∀ (n X : Nat), X ≤ n → ung (gray X) = X
 | 0, X, h => by
   obtain rfl : X = 0 := by omega
   rw [show gray 0 = 0 from rfl, ung]; simp
 | n + 1, X, h => by
   by_cases h0 : X = 0
   · subst h0
     rw [show gray 0 = 0 from rfl, ung]; simp
   · have e : gray X / 2 = gray (X / 2) := by unfold gray; rw [Nat.xor_div_two]
     rw [ung_rec, e, ung_gray n (X / 2) (by omega)]
     unfold gray
     rw [Nat.xor_assoc, Nat.xor_self, Nat.xor_zero]
theorem gray_lt {X n : Nat} (h : X < 2 ^ n) : gray X < 2 ^ n := Nat.xor_lt_two_pow h (Nat.lt_of_le_of_lt (Nat.div_le_self _ _) h)
theorem ung_lt {n : Nat} : ∀ (m X : Nat), X ≤ m → X < 2 ^ n → ung X < 2 ^ n
 | 0, X, h, h1 => by
   obtain rfl : X = 0 := by omega
   rw [show ung 0 = 0 by rw [ung]; simp]; exact h1
 | m + 1, X, h, h1 => by
   by_cases h0 : X = 0
   · subst h0
     rw [show ung 0 = 0 by rw [ung]; simp]; exact h1
   · rw [ung_rec]
     exact Nat.xor_lt_two_pow h1 (ung_lt m (X / 2) (by omega) (by omega))

theorem gray_bit (X i : Nat) : (gray X).testBit i = (X.testBit i ^^ X.testBit (i + 1)) := by
  unfold gray
  rw [Nat.testBit_xor, Nat.testBit_div_two]
theorem ung_bit (X i : Nat) : (ung X).testBit i = (X.testBit i ^^ (ung X).testBit (i + 1)) := by
  have h : (ung X) / 2 = ung (X / 2) := by
    induction X using Nat.strongRecOn with
    | ind X ih =>
      by_cases h0 : X = 0
      · subst h0
        have : ung 0 = 0 := by rw [ung]; simp
        simp [this]
      · rw [ung_rec X, Nat.xor_div_two, ih (X / 2) (by omega), ← ung_rec]
  rw [← Nat.testBit_div_two, h, ← Nat.testBit_xor, ← ung_rec]

theorem xor_nat {A B : Nat} (hA : A < 4611686018427387904) (hB : B < 4611686018427387904) : bits .xor .i64 (A : Int) (B : Int) = ((A ^^^ B : Nat) : Int) := by
  rw [bits_eq]
  have h : A ^^^ B < 2 ^ 62 := Nat.xor_lt_two_pow (by simpa using hA) (by simpa using hB)
  have e1 : (BitVec.ofInt 64 (A : Int)).toNat = A := by rw [BitVec.ofInt_natCast, BitVec.toNat_ofNat]; omega
  have e2 : (BitVec.ofInt 64 (B : Int)).toNat = B := by rw [BitVec.ofInt_natCast, BitVec.toNat_ofNat]; omega
  show IntKind.wrap .i64 (((BitVec.ofInt 64 (A : Int) ^^^ BitVec.ofInt 64 (B : Int)).toNat : Nat) : Int) = _
  rw [BitVec.toNat_xor, e1, e2]
  exact wrap_i64 (by omega) (by simp at h; omega)

/-! ### the program -/
theorem shr1 (X : Nat) : shr .i64 (X : Int) 1 = ((X / 2 : Nat) : Int) := by
  rw [shr_eq (by decide)]
  simp [pw]
theorem GrayOf_eq (w v : Int) : run_bits_GrayOf (.start w v) = some (((if chk w v = 0 then (w, ((gray v.toNat : Nat) : Int), ()) else (0, 0, ())), chk w v, ()), ()) := by
  simp only [run_bits_GrayOf, CheckBits_eq, some_bind']
  by_cases hc : chk w v = 0
  · obtain ⟨h, hw, h0, h1⟩ := chk_zero.1 hc
    have hp := pw_16 hw
    obtain ⟨n, rfl⟩ := Int.eq_ofNat_of_zero_le (show 0 ≤ w by omega)
    obtain ⟨X, rfl⟩ := Int.eq_ofNat_of_zero_le h0
    rw [pw_nat] at h1
    have hX : X < 2 ^ n := by omega
    have hg := gray_lt hX
    rw [pw_nat] at hp
    rw [if_neg (by simp [hc]), if_pos (by decide), shr1, xor_nat (by omega) (by omega), of_eq (by omega) (by omega) ⟨by omega, by have : X ^^^ X / 2 < 2 ^ n := hg; omega⟩]
    simp only [some_bind', hc, if_true, Int.toNat_natCast]
    rw [pw_nat, show ((X ^^^ X / 2 : Nat) : Int) % ((2 ^ n : Nat) : Int) = (((X ^^^ X / 2) % 2 ^ n : Nat) : Int) from rfl, Nat.mod_eq_of_lt (show X ^^^ X / 2 < 2 ^ n from hg)]
    rfl
  · rw [if_pos (by simpa using hc), if_neg hc]

theorem FromGray_loop (w v p q : Int) {n : Nat} (hn : n ≤ 16) (hw : w = n) : ∀ (m R O : Nat), R ≤ m → R < 2 ^ n → O < 2 ^ n → run_bits_FromGray (.p244 (O : Int) (R : Int) w v p q) = some (((w, ((O ^^^ ung R : Nat) : Int), ()), 0, ()), ())
 | 0, R, O, h, h1, h2 => by
   obtain rfl : R = 0 := by omega
   have hp := pw_16 (w := w) (by omega)
   rw [run_bits_FromGray, if_neg (by simp), hw] 
   rw [hw, pw_nat] at hp
   rw [of_eq (by omega) (by omega) ⟨by omega, by omega⟩, pw_nat, show ((O : Nat) : Int) % ((2 ^ n : Nat) : Int) = ((O % 2 ^ n : Nat) : Int) from rfl, Nat.mod_eq_of_lt h2, show ung 0 = 0 by rw [ung]; simp, Nat.xor_zero]
   rfl
 | m + 1, R, O, h, h1, h2 => by
   by_cases h0 : R = 0
   · exact FromGray_loop w v p q hn hw 0 R O (by omega) h1 h2
   · have hp := pw_16 (w := w) (by omega)
     rw [hw, pw_nat] at hp
     have hx := Nat.xor_lt_two_pow h2 h1
     rw [run_bits_FromGray, if_pos (by simp; omega), if_pos (by decide), shr1, xor_nat (by omega) (by omega), FromGray_loop w v p q hn hw m (R / 2) (O ^^^ R) (by omega) (by omega) hx, Nat.xor_assoc, ← ung_rec]
theorem FromGray_eq (w v : Int) : run_bits_FromGray (.start w v) = some (((if chk w v = 0 then (w, ((ung v.toNat : Nat) : Int), ()) else (0, 0, ())), chk w v, ()), ()) := by
  rw [run_bits_FromGray]
  simp only [CheckBits_eq, some_bind']
  by_cases hc : chk w v = 0
  · obtain ⟨h, hw, h0, h1⟩ := chk_zero.1 hc
    obtain ⟨n, rfl⟩ := Int.eq_ofNat_of_zero_le (show 0 ≤ w by omega)
    obtain ⟨X, rfl⟩ := Int.eq_ofNat_of_zero_le h0
    rw [pw_nat] at h1
    have := FromGray_loop (n : Int) (X : Int) 0 0 (n := n) (by omega) rfl X X 0 (Nat.le_refl _) (by omega) (Nat.two_pow_pos n)
    rw [if_neg (by simp [hc]), if_pos hc]
    rw [show (0 : Int) = ((0 : Nat) : Int) from rfl]
    rw [show ((0 : Nat) : Int) = (0 : Int) from rfl] at this ⊢
    rw [this, hc, Nat.zero_xor]
    simp
  · rw [if_pos (by simpa using hc), if_neg hc]

/-! ### the reference -/
theorem bit_ne (X Y i j : Nat) : (if (bitn X i != bitn Y j) = true then (1 : Int) else 0) = if (X.testBit i ^^ Y.testBit j) = true then 1 else 0 := by
  unfold bitn
  cases X.testBit i <;> cases Y.testBit j <;> simp
theorem bitn_top {X n : Nat} (h : X < 2 ^ n) : bitn X n = 0 := by
  unfold bitn
  rw [Nat.testBit_lt_two_pow h]; rfl
theorem wrapS {i : Nat} (h : i ≤ 100) : IntKind.wrap .i64 ((i : Int) + 1) = ((i + 1 : Nat) : Int) := by rw [wrap_i64 (by omega) (by omega)]; rfl

theorem Gray_loop (X n : Nat) (hn : n ≤ 16) (hX : X < 2 ^ n) (v p q : Int) : ∀ (k i : Nat), i + k = n → run_ratchetref01_Gray (.p244 (i : Int) (n : Int) v p q (lowL X (n + 1)) (lowL (gray X) i)) = some ((((n : Int), ((gray X : Nat) : Int), ()), ()), ())
 | 0, i, h => by
   obtain rfl : i = n := by omega
   rw [run_ratchetref01_Gray, if_neg (by simp), whole_eq _ _ (by omega) (gray_lt hX)]
   rfl
 | k + 1, i, h => by
   rw [run_ratchetref01_Gray, if_pos (by simp; omega), wrapS (by omega), if_pos (by simp [lowL_len]; omega), lowL_idx X (by omega), some_bind', if_pos (by simp [lowL_len]; omega), lowL_idx X (by omega), some_bind', Bit_eq, some_bind',
     if_pos (by rw [lowL_len]; exact fits8 (by simp; omega)), bit_ne, ← gray_bit, show (if (gray X).testBit i = true then (1 : Int) else 0) = bitn (gray X) i from rfl, ← lowL_succ]
   exact Gray_loop X n hn hX v p q k (i + 1) (by omega)
theorem Gray_eq {X n : Nat} (hn : n ≤ 16) (hX : X < 2 ^ n) : run_ratchetref01_Gray (.start (n : Int) (X : Int)) = some ((((n : Int), ((gray X : Nat) : Int), ()), ()), ()) := by
  have h16 : (2 : Nat) ^ n ≤ 2 ^ 16 := Nat.pow_le_pow_right (by decide) hn
  rw [run_ratchetref01_Gray, low_eq X n (by omega) (by omega), some_bind', if_pos (by rw [lowL_len]; exact fits8 (by simp; omega)), show lowL X n ++ [(0 : Int)] = lowL X (n + 1) by rw [lowL_succ, bitn_top hX]]
  exact Gray_loop X n hn hX _ _ _ n 0 (by omega)

/-- the list while it is done: from i on -/
def mixL (X n i : Nat) : List Int := (List.range (n + 1)).map fun j => if j < i then bitn X j else bitn (ung X) j
theorem mixL_len (X n i : Nat) : (mixL X n i).length = n + 1 := by simp [mixL]
theorem mixL_idx (X n i : Nat) {j : Nat} (h : j < n + 1) : idx (mixL X n i) (j : Int) = some (if j < i then bitn X j else bitn (ung X) j) := by
  rw [idx_nat]
  simp [mixL, h]
theorem mixL_set (X n i : Nat) (h : i < n) : List.set (mixL X n (i + 1)) i (bitn (ung X) i) = mixL X n i := by
  apply List.ext_getElem?
  intro j
  rw [List.getElem?_set]
  simp only [mixL_len]
  by_cases e : i = j
  · subst e
    rw [if_pos rfl, if_pos (by omega)]
    simp [mixL, show i < n + 1 by omega]
  · rw [if_neg e]
    by_cases hj : j < n + 1
    · simp only [mixL, List.getElem?_map, List.getElem?_range hj, Option.map_some]
      by_cases h1 : j < i
      · rw [if_pos (by omega), if_pos h1]
      · rw [if_neg (by omega), if_neg h1]
    · simp [mixL, hj]
theorem Ungray_loop (X n : Nat) (hn : n ≤ 16) (hX : X < 2 ^ n) (v p q : Int) : ∀ (i : Nat), i ≤ n → run_ratchetref01_Ungray (.p244 ((i : Int) - 1) (n : Int) v p q (lowL X n) (mixL X n i)) = some ((((n : Int), ((ung X : Nat) : Int), ()), ()), ())
 | 0, h => by
   have hu : ung X < 2 ^ (n + 1) := Nat.lt_trans (ung_lt X X (Nat.le_refl _) hX) (Nat.pow_lt_pow_right (by decide) (by omega))
   rw [run_ratchetref01_Ungray, if_neg (by simp), show mixL X n 0 = lowL (ung X) (n + 1) by simp [mixL, lowL], whole_eq _ _ (by omega) hu]
   rfl
 | i + 1, h => by
   have e0 : (((i + 1 : Nat) : Int) - 1) = (i : Int) := by omega
   rw [run_ratchetref01_Ungray, e0, wrapS (by omega), if_pos (by simp), if_pos (by simp [lowL_len]; omega), lowL_idx X (by omega), some_bind', if_pos (by simp [mixL_len]; omega), mixL_idx X n (i + 1) (by omega), some_bind', if_neg (by omega), Bit_eq, some_bind',
     if_pos (by simp [mixL_len]; omega), mixL_idx X n (i + 1) (by omega), some_bind', bit_ne, ← ung_bit, show (if (ung X).testBit i = true then (1 : Int) else 0) = bitn (ung X) i from rfl, Int.toNat_natCast, mixL_set X n i (by omega), wrap_i64 (by omega) (by omega)]
   exact Ungray_loop X n hn hX v p q i (by omega)
theorem CopyInts_v_eq (l : List Int) (h : l.length ≤ 100) : run_ratchetbase_CopyInts (.start l) = some (((), ()), (l, ())) := by
  rw [run_ratchetbase_CopyInts]
  simp
  exact fits8 (by simp; omega)
theorem Ungray_eq {X n : Nat} (hn : n ≤ 16) (hX : X < 2 ^ n) : run_ratchetref01_Ungray (.start (n : Int) (X : Int)) = some ((((n : Int), ((ung X : Nat) : Int), ()), ()), ()) := by
  have h16 : (2 : Nat) ^ n ≤ 2 ^ 16 := Nat.pow_le_pow_right (by decide) hn
  have hu := ung_lt X X (Nat.le_refl _) hX
  rw [run_ratchetref01_Ungray, low_eq X n (by omega) (by omega), some_bind', CopyInts_v_eq _ (by rw [lowL_len]; omega), some_bind', if_pos (by rw [lowL_len]; exact fits8 (by simp; omega)),
    show lowL X n ++ [(0 : Int)] = mixL X n n by
      rw [← bitn_top hu]
      simp only [mixL, List.range_succ, List.map_append, List.map_cons, List.map_nil, lowL]
      rw [if_neg (Nat.lt_irrefl n)]
      congr 1
      exact List.map_congr_left fun j hj => by rw [if_pos (List.mem_range.1 hj)],
    wrap_i64 (by omega) (by omega)]
  exact Ungray_loop X n hn hX _ _ _ n (Nat.le_refl _)

/-! ### codes of neighbours -/
theorem xor_odd_even (a b : Nat) : (2 * a + 1) ^^^ (2 * b) = 2 * (a ^^^ b) + 1 := by
  apply Nat.eq_of_testBit_eq
  intro i
  rw [Nat.testBit_xor]
  cases i with
  | zero => rw [Nat.testBit_zero, Nat.testBit_zero, Nat.testBit_zero]; simp
  | succ i =>
    rw [Nat.testBit_succ, Nat.testBit_succ, Nat.testBit_succ, show (2 * a + 1) / 2 = a by omega, show 2 * b / 2 = b by omega, show (2 * (a ^^^ b) + 1) / 2 = a ^^^ b by omega, Nat.testBit_xor]
theorem xor_next (a : Nat) : (2 * a) ^^^ (2 * a + 1) = 1 := by
  rw [Nat.xor_comm, xor_odd_even, Nat.xor_self]
theorem next_xor : ∀ (w X : Nat), X < 2 ^ (w + 1) → ∃ p, p < w + 1 ∧ X ^^^ ((X + 1) % 2 ^ (w + 1)) = 2 ^ (p + 1) - 1
 | 0, X, h => by
   refine ⟨0, by omega, ?_⟩
   have : X = 0 ∨ X = 1 := by simp at h; omega
   rcases this with rfl | rfl <;> decide
 | w + 1, X, h => by
   have hp : 2 ^ (w + 1 + 1) = 2 * 2 ^ (w + 1) := by rw [Nat.pow_succ, Nat.mul_comm]
   rcases Nat.mod_two_eq_zero_or_one X with h0 | h0
   · obtain ⟨a, rfl⟩ : ∃ a, X = 2 * a := ⟨X / 2, by omega⟩
     refine ⟨0, by omega, ?_⟩
     rw [Nat.mod_eq_of_lt (by omega), xor_next]
   · obtain ⟨a, rfl⟩ : ∃ a, X = 2 * a + 1 := ⟨X / 2, by omega⟩
     obtain ⟨p, h1, h2⟩ := next_xor w a (by omega)
     refine ⟨p + 1, by omega, ?_⟩
     rw [show 2 * a + 1 + 1 = 2 * (a + 1) by omega, hp, Nat.mul_mod_mul_left, xor_odd_even, h2]
     have : 1 ≤ 2 ^ (p + 1) := Nat.one_le_two_pow
     rw [Nat.pow_succ 2 (p + 1)]
     omega
theorem gray_next {w X : Nat} (h : X < 2 ^ (w + 1)) : ∃ p, p < w + 1 ∧ ∀ j, ((gray X).testBit j ^^ (gray ((X + 1) % 2 ^ (w + 1))).testBit j) = decide (j = p) := by
  obtain ⟨p, h1, h2⟩ := next_xor w X h
  refine ⟨p, h1, fun j => ?_⟩
  have b : ∀ i, (X.testBit i ^^ ((X + 1) % 2 ^ (w + 1)).testBit i) = decide (i < p + 1) := fun i => by rw [← Nat.testBit_xor, h2, Nat.testBit_two_pow_sub_one]
  rw [gray_bit, gray_bit]
  have b1 := b j
  have b2 := b (j + 1)
  have b3 : decide (j = p) = (decide (j < p + 1) ^^ decide (j + 1 < p + 1)) := by
    by_cases e1 : j = p
    · subst e1; simp
    · by_cases e2 : j < p
      · simp [e1, show j < p + 1 by omega, e2]
      · simp [e1, show ¬ j < p + 1 by omega, e2]
  rw [b3, ← b1, ← b2]
  cases X.testBit j <;> cases X.testBit (j + 1) <;> cases ((X + 1) % 2 ^ (w + 1)).testBit j <;> cases ((X + 1) % 2 ^ (w + 1)).testBit (j + 1) <;> rfl

/-- the bits, the highest first -/
def topL (X w : Nat) : List Int := (List.range w).map fun k => bitn X (w - 1 - k)
/-- .. while they are listed: the last s ones -/
def topS (X w s : Nat) : List Int := (List.range w).map fun k => if w ≤ k + s then bitn X (w - 1 - k) else 0
theorem topS_len (X w s : Nat) : (topS X w s).length = w := by simp [topS]
theorem topS_set {X w s : Nat} (h : s < w) : List.set (topS X w s) (w - 1 - s) (bitn X s) = topS X w (s + 1) := by
  apply List.ext_getElem?
  intro j
  rw [List.getElem?_set]
  simp only [topS_len]
  by_cases e : w - 1 - s = j
  · rw [if_pos e, if_pos (by omega)]
    simp only [topS, List.getElem?_map, List.getElem?_range (show j < w by omega), Option.map_some]
    rw [if_pos (by omega), show w - 1 - j = s by omega]
  · rw [if_neg e]
    by_cases hj : j < w
    · simp only [topS, List.getElem?_map, List.getElem?_range hj, Option.map_some]
      by_cases h1 : w ≤ j + s
      · rw [if_pos h1, if_pos (by omega)]
      · rw [if_neg h1, if_neg (by omega)]
    · simp [topS, hj]
theorem BitsOf_loop (X w : Nat) (hw : w ≤ 60) (hX : X < 4611686018427387904) : ∀ (k s : Nat), s + k = w → run_ratchetbase_BitsOf (.p116 ((X / 2 ^ s : Nat) : Int) ((w : Int) - 1 - s) (topS X w s)) = some (((), ()), (topS X w w, ()))
 | 0, s, h => by
   obtain rfl : s = w := by omega
   rw [run_ratchetbase_BitsOf, if_neg (by simp; omega)]
 | k + 1, s, h => by
   have hi : ((w : Int) - 1 - s) = ((w - 1 - s : Nat) : Int) := by omega
   have hle : X / 2 ^ s ≤ X := Nat.div_le_self _ _
   have e1 : Int.tmod ((X / 2 ^ s : Nat) : Int) 2 = bitn X s := by
     rw [Int.tmod_eq_emod_of_nonneg (Int.natCast_nonneg _), bitn_eq]; rfl
   have e2 : IntKind.wrap .i64 (Int.tdiv ((X / 2 ^ s : Nat) : Int) 2) = ((X / 2 ^ (s + 1) : Nat) : Int) := by
     have h1 : ((X / 2 ^ s : Nat) : Int).tdiv 2 = ((X / 2 ^ s / 2 : Nat) : Int) := by rw [Int.tdiv_eq_ediv_of_nonneg (Int.natCast_nonneg _)]; rfl
     rw [h1, Nat.div_div_eq_div_mul, ← Nat.pow_succ]
     have h2 : X / 2 ^ (s + 1) ≤ X := Nat.div_le_self _ _
     generalize X / 2 ^ (s + 1) = q at *
     exact wrap_i64 (by omega) (by omega)
   have e3 : IntKind.wrap .i64 (((w - 1 - s : Nat) : Int) - 1) = (w : Int) - 1 - ((s + 1 : Nat) : Int) := by rw [wrap_i64 (by omega) (by omega)]; omega
   obtain ⟨y, hy⟩ : ∃ y, idx (topS X w s) ((w - 1 - s : Nat) : Int) = some y := by
     rw [idx_nat]
     exact ⟨_, List.getElem?_eq_getElem (by rw [topS_len]; omega)⟩
   rw [hi, run_ratchetbase_BitsOf, if_pos (by simp), if_pos (by decide), if_pos (by simp [topS_len]; omega), hy, some_bind', if_pos (by decide), e1, e2, e3, Int.toNat_natCast, topS_set (by omega)]
   exact BitsOf_loop X w hw hX k (s + 1) (by omega)
theorem BitsOf_eq (X w : Nat) (hw : w ≤ 60) (hX : X < 4611686018427387904) : run_ratchetbase_BitsOf (.start (X : Int) (w : Int)) = some (((), ()), (topL X w, ())) := by
  have hf : fitsM (w : Int) (w : Int) 8 = true := by
    unfold fitsM
    simp
    omega
  have := BitsOf_loop X w hw hX w 0 (by omega)
  rw [run_ratchetbase_BitsOf, if_pos hf, wrap_i64 (by omega) (by omega)]
  rw [show topS X w w = topL X w by simp [topS, topL], show topS X w 0 = List.replicate (Int.toNat (w : Int)) 0 by
    rw [Int.toNat_natCast]
    apply List.ext_getElem?
    intro j
    by_cases hj : j < w
    · simp only [topS, List.getElem?_map, List.getElem?_range hj, Option.map_some, List.getElem?_replicate, if_pos hj]
      rw [if_neg (by omega)]
    · simp [topS, hj]] at this
  simpa using this
theorem topL_idx (X : Nat) {w k : Nat} (h : k < w) : idx (topL X w) (k : Int) = some (bitn X (w - 1 - k)) := by
  rw [idx_nat]; simp [topL, h]
theorem topL_len (X w : Nat) : (topL X w).length = w := by simp [topL]

theorem count_loop (A B w p : Nat) (hw : w ≤ 16) (hp : p < w) (h : ∀ j, (A.testBit j ^^ B.testBit j) = decide (j = p)) (v : Int) : ∀ (m k : Nat), k + m = w →
    run_ratchetlaw01_BitsGray (.p65524 (if w - 1 - p < k then 1 else 0) (k : Int) (w : Int) v (topL A w) (topL B w)) = some ((true, ()), ())
 | 0, k, hk => by
   rw [run_ratchetlaw01_BitsGray, if_neg (by simp; omega), if_pos (by omega)]
   rfl
 | m + 1, k, hk => by
   have e : IntKind.wrap .i64 ((if w - 1 - p < k then (1 : Int) else 0) + (if decide (w - 1 - k = p) = true then 1 else 0)) = if w - 1 - p < k + 1 then 1 else 0 := by
     by_cases h1 : w - 1 - p < k
     · rw [if_pos h1, if_neg (show ¬ decide (w - 1 - k = p) = true by simp; omega), if_pos (show w - 1 - p < k + 1 by omega)]; decide
     · rw [if_neg h1]
       by_cases h2 : w - 1 - p = k
       · rw [if_pos (show decide (w - 1 - k = p) = true by simp; omega), if_pos (show w - 1 - p < k + 1 by omega)]; decide
       · rw [if_neg (show ¬ decide (w - 1 - k = p) = true by simp; omega), if_neg (show ¬ w - 1 - p < k + 1 by omega)]; decide
   rw [run_ratchetlaw01_BitsGray, if_pos (by simp; omega), if_pos (by simp [topL_len]; omega), topL_idx A (by omega), some_bind', if_pos (by simp [topL_len]; omega), topL_idx B (by omega), some_bind', Bit_eq, some_bind', bit_ne, h, e, wrapS (by omega)]
   exact count_loop A B w p hw hp h v m (k + 1) (by omega)

theorem gray_p127 {w X : Nat} (h : 1 ≤ w) (hw : w ≤ 16) (hX : X < 2 ^ w) : run_ratchetlaw01_BitsGray (.p127 (w : Int) (X : Int) (w : Int) ((gray X : Nat) : Int)) = some ((true, ()), ()) := by
  have h16 : (2 : Nat) ^ w ≤ 2 ^ 16 := Nat.pow_le_pow_right (by decide) hw
  have hpos : 0 < 2 ^ w := Nat.two_pow_pos w
  have hg := gray_lt hX
  have hn : (X + 1) % 2 ^ w < 2 ^ w := Nat.mod_lt _ hpos
  have hg2 := gray_lt hn
  have c1 : chk (w : Int) ((gray X : Nat) : Int) = 0 := chk_zero.2 ⟨by omega, by omega, by omega, by rw [pw_nat]; omega⟩
  have c2 : chk (w : Int) (((X + 1) % 2 ^ w : Nat) : Int) = 0 := chk_zero.2 ⟨by omega, by omega, by omega, by rw [pw_nat]; omega⟩
  have c3 : chk (w : Int) ((gray ((X + 1) % 2 ^ w) : Nat) : Int) = 0 := chk_zero.2 ⟨by omega, by omega, by omega, by rw [pw_nat]; omega⟩
  have e1 : IntKind.wrap .i64 ((X : Int) + 1) = ((X + 1 : Nat) : Int) := by rw [wrap_i64 (by omega) (by omega)]; rfl
  rw [run_ratchetlaw01_BitsGray]
  simp only [FromGray_eq, some_bind', c1, if_true, Power_eq (show (0 : Int) ≤ w by omega) (show (w : Int) ≤ 62 by omega), pw_nat, e1, Mod_eq (n := ((X + 1 : Nat) : Int)) (m := ((2 ^ w : Nat) : Int)) (by omega) (by omega), of_law, GrayOf_eq]
  rw [show ((X + 1 : Nat) : Int) % ((2 ^ w : Nat) : Int) = (((X + 1) % 2 ^ w : Nat) : Int) from rfl, c2]
  simp only [if_true, Int.toNat_natCast, ung_gray X X (Nat.le_refl _), BitsErr_eq, some_bind', c3]
  rw [if_neg (by simp), if_neg (by simp), if_neg (by simp), if_neg (by simp), run_ratchetlaw01_BitsGray, BitsOf_eq _ w (by omega) (by omega), some_bind', BitsOf_eq _ w (by omega) (by omega), some_bind']
  obtain ⟨w', rfl⟩ : ∃ w', w = w' + 1 := ⟨w - 1, by omega⟩
  obtain ⟨p, hp, hb⟩ := gray_next hX
  have := count_loop _ _ (w' + 1) p hw hp hb (X : Int) (w' + 1) 0 (by omega)
  simpa using this

theorem gray_true (w v : Int) : run_ratchetlaw01_BitsGray (.start w v) = some ((true, ()), ()) := by
  rw [run_ratchetlaw01_BitsGray]
  simp only [GrayOf_eq, FromGray_eq, BitsErr_eq, some_bind']
  rw [if_neg (by simp)]
  by_cases hc : chk w v = 0
  · obtain ⟨h, hw, h0, h1⟩ := chk_zero.1 hc
    obtain ⟨n, rfl⟩ := Int.eq_ofNat_of_zero_le (show 0 ≤ w by omega)
    obtain ⟨X, rfl⟩ := Int.eq_ofNat_of_zero_le h0
    rw [pw_nat] at h1
    have hX : X < 2 ^ n := by omega
    simp only [hc, if_true, Int.toNat_natCast, Gray_eq (show n ≤ 16 by omega) hX, Ungray_eq (show n ≤ 16 by omega) hX, some_bind', gray_p127 (show 1 ≤ n by omega) (show n ≤ 16 by omega) hX]
    simp
  · simp [hc]
end Go.Proofs.YtcgkjbglijganaaDoor.Ev.F
