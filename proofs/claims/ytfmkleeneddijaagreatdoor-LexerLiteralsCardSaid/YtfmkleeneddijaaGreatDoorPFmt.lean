/- strconv.FormatInt at the bases 2 and 16. -/
import Derived.Test.YtfmkleeneddijaaGreatDoorPDig
import Derived.Test.YtfmkleeneddijaaGreatDoorF2
set_option linter.unusedVariables false
set_option linter.unusedSimpArgs false
set_option linter.unnecessarySimpa false
namespace Go.Proofs.YtfmkleeneddijaaGreatDoor.Ev.F
open Go.Proofs.YtfmkleeneddijaaGreatDoor.Ev

theorem wrap_u64' {x : Int} (h0 : 0 ≤ x) (h1 : x < 18446744073709551616) : IntKind.wrap .u64 x = x := by
  rw [IntKind.wrap_u64]; omega
theorem and_u64 {u n : Nat} (hn : n ≤ 32) (hu : u < 65536) : bits .and .u64 (u : Int) (((2 ^ n - 1 : Nat)) : Int) = ((u % 2 ^ n : Nat) : Int) := by
  rw [bits_eq]
  unfold bits0
  have hlt : 2 ^ n < 2 ^ 64 := Nat.pow_lt_pow_right (by decide) (by omega)
  have e2 : (BitVec.ofInt 64 (((2 ^ n - 1 : Nat)) : Int)).toNat = 2 ^ n - 1 := by
    rw [BitVec.ofInt_natCast, BitVec.toNat_ofNat]
    exact Nat.mod_eq_of_lt (show 2 ^ n - 1 < 2 ^ 64 from Nat.lt_of_le_of_lt (Nat.sub_le _ _) hlt)
  have e3 : (BitVec.ofInt 64 ((u : Nat) : Int)).toNat = u := by
    rw [BitVec.ofInt_natCast, BitVec.toNat_ofNat]
    exact Nat.mod_eq_of_lt (by omega)
  show IntKind.wrap .u64 (((BitVec.ofInt 64 (u : Int) &&& BitVec.ofInt 64 (((2 ^ n - 1 : Nat)) : Int)).toNat : Nat) : Int) = _
  rw [BitVec.toNat_and, e2, e3, Nat.and_two_pow_sub_one_eq_mod]
  have := Nat.mod_le u (2 ^ n)
  exact wrap_u64' (by omega) (by omega)
theorem shr_u64 {u n : Nat} (hn : n ≤ 32) : shr .u64 (u : Int) (n : Int) = ((u / 2 ^ n : Nat) : Int) := by
  unfold shr
  have e : min ((n : Int)).toNat IntKind.u64.bits = n := by
    have : IntKind.u64.bits = 64 := rfl
    omega
  rw [e, Int.fdiv_eq_ediv_of_nonneg _ (Int.le_of_lt (Int.pow_pos (by decide)))]
  rw [Int.natCast_ediv]
  simp
theorem drop_set {α : Type} (l : List α) (i : Nat) (x : α) (h : i < l.length) : (l.set i x).drop i = x :: l.drop (i + 1) := by
  rw [List.drop_eq_getElem_cons (by simpa using h), List.getElem_set_self, List.drop_set_of_lt (Nat.lt_succ_self i)]
theorem bytesStr_toI (l : List UInt8) : bytesStr (toI l) = ⟨l.toArray⟩ := by
  unfold bytesStr toI
  rw [List.map_map]
  have : (List.map ((fun n : Int => UInt8.ofNat n.toNat) ∘ fun c : UInt8 => (c.toNat : Int)) l) = l := by
    rw [show ((fun n : Int => UInt8.ofNat n.toNat) ∘ fun c : UInt8 => (c.toNat : Int)) = id from funext fun c => by simp]
    exact List.map_id l
  rw [this]
theorem fb_fin {i : Nat} (hi : i ≤ 65) {B : List Int} (hB : B.length = 65) {tail : List UInt8} (ht : B.drop i = toI tail) (s : ByteArray) : run_internal_strconv_formatBits (.p127 [] false false s (i : Int) B) = some (((), (⟨tail.toArray⟩, ())), ()) := by
  rw [run_internal_strconv_formatBits, if_neg (by decide), run_internal_strconv_formatBits, if_neg (by decide), show (65 : Int) = ((65 : Nat) : Int) from rfl, span_nat hi (Nat.le_refl _)]
  simp only [some_bind']
  rw [if_pos (Nat.ble_eq_true_of_le (by omega))]
  have : cut B (i, 65) = toI tail := by
    unfold cut
    rw [List.take_of_length_le (by omega), ht]
  rw [this, bytesStr_toI]
theorem fb_loop {n : Nat} (h1 : 1 ≤ n) (h4 : n ≤ 4) (s : ByteArray) : ∀ (k u i : Nat) (B : List Int) (tail : List UInt8), 1 ≤ k → u < (2 ^ n) ^ k → u < 65536 → k ≤ i → i ≤ 65 → B.length = 65 → B.drop i = toI tail →
    run_internal_strconv_formatBits (.p32440 [] (u : Int) false false s (i : Int) (n : Int) ((2 ^ n : Nat) : Int) (((2 ^ n - 1 : Nat)) : Int) B) = some (((), (⟨(digs (2 ^ n) k u ++ tail).toArray⟩, ())), ()) := by
  have hb2 : 2 ≤ 2 ^ n := by
    have : 2 ^ 1 ≤ 2 ^ n := Nat.pow_le_pow_right (by decide) h1
    omega
  have hb16 : 2 ^ n ≤ 16 := by
    have : 2 ^ n ≤ 2 ^ 4 := Nat.pow_le_pow_right (by decide) h4
    omega
  intro k
  induction k with
  | zero => intro u i B tail h; omega
  | succ k ih =>
    intro u i B tail hk hu hu2 hki hi hB ht
    rw [run_internal_strconv_formatBits, digs_succ]
    have hw : IntKind.wrap .i64 ((i : Int) - 1) = ((i - 1 : Nat) : Int) := by rw [wrap_i64 (by omega) (by omega)]; omega
    have hx : ∃ x, B[i - 1]? = some x := ⟨_, List.getElem?_eq_getElem (by omega)⟩
    obtain ⟨x, hx⟩ := hx
    have hchk : (decide ((0 : Int) ≤ ((i - 1 : Nat) : Int)) && decide (((i - 1 : Nat) : Int) < (65 : Int))) = true := by
      simp
      omega
    have hds : ∀ (d : Nat), (B.set (i - 1) ((ub d).toNat : Int)).drop (i - 1) = toI (ub d :: tail) := fun d => by
      rw [drop_set _ _ _ (by omega), show i - 1 + 1 = i by omega, ht]
      rfl
    by_cases hub : u < 2 ^ n
    · rw [if_neg (by simp only [decide_eq_true_eq]; omega), if_pos hub, D36_get u (by omega)]
      simp only [some_bind']
      rw [hw, if_pos hchk, idx_nat, hx]
      simp only [some_bind', Int.toNat_natCast]
      rw [fb_fin (by omega) (by simpa using hB) (hds u)]
      rfl
    · have hkk : 1 ≤ k := by
        rcases Nat.eq_zero_or_pos k with h0 | h0
        · subst h0; simp at hu; omega
        · exact h0
      have hm := Nat.mod_lt u (show 0 < 2 ^ n by omega)
      rw [if_pos (by simp only [decide_eq_true_eq]; omega), if_neg hub, and_u64 (by omega) hu2, D36_get _ (by omega)]
      simp only [some_bind']
      rw [hw, if_pos hchk, idx_nat, hx]
      simp only [some_bind', Int.toNat_natCast]
      rw [if_pos (by simp), shr_u64 (by omega)]
      have := ih (u / 2 ^ n) (i - 1) (B.set (i - 1) ((ub (u % 2 ^ n)).toNat : Int)) (ub (u % 2 ^ n) :: tail) hkk (div_pow hu) (by have := Nat.div_le_self u (2 ^ n); omega) (by omega) (by omega) (by simpa using hB) (hds _)
      rw [this, List.append_assoc]
      rfl
theorem fb_pow (n : Nat) (hn : n = 1 ∨ n = 4) : (run_internal_strconv_isPowerOfTwo (.start ((2 ^ n : Nat) : Int)) = some ((true, ()), ())) ∧ run_math_bits_TrailingZeros (.start (IntKind.wrap .u64 ((2 ^ n : Nat) : Int))) = some (((n : Int), ()), ()) := by
  rcases hn with rfl | rfl
  · exact ⟨by kernel_rfl, by kernel_rfl⟩
  · exact ⟨by kernel_rfl, by kernel_rfl⟩
/-- the digits that FormatInt writes -/
def fmtD (n v : Nat) : List UInt8 := digs (2 ^ n) 16 v
theorem FormatInt_eq {n v : Nat} (hn : n = 1 ∨ n = 4) (hv : v < 65536) : run_strconv_FormatInt (.start (v : Int) ((2 ^ n : Nat) : Int)) = some ((⟨(fmtD n v).toArray⟩, ()), ()) := by
  obtain ⟨p1, p2⟩ := fb_pow n hn
  have hb : 2 ≤ 2 ^ n ∧ 2 ^ n ≤ 16 ∧ 2 ^ n ≠ 10 := by rcases hn with rfl | rfl <;> decide
  have hpw : v < (2 ^ n) ^ 16 := by
    have : (2 : Nat) ^ 16 ≤ (2 ^ n) ^ 16 := Nat.pow_le_pow_left hb.1 16
    have e : (2 : Nat) ^ 16 = 65536 := by decide
    omega
  have w1 : IntKind.wrap .u64 ((2 ^ n : Nat) : Int) = ((2 ^ n : Nat) : Int) := wrap_u64' (by omega) (by omega)
  rw [run_strconv_FormatInt, run_internal_strconv_FormatInt, if_neg (by simp only [beq_iff_eq]; omega), wrap_u64' (x := (v : Int)) (by omega) (by omega)]
  have e0 : decide ((v : Int) < 0) = false := by simp
  rw [e0, run_internal_strconv_formatBits, if_neg (by simp only [decide_eq_true_eq]; omega), if_neg (by simp only [beq_iff_eq]; omega), if_neg (by simp only [decide_eq_true_eq]; omega), run_internal_strconv_formatBits, if_neg (by decide), run_internal_strconv_formatBits, p1]
  simp only [some_bind', if_true]
  rw [p2]
  simp only [some_bind']
  rw [w1, wrap_u64' (x := (n : Int)) (by omega) (by omega), wrap_u64' (x := ((2 ^ n : Nat) : Int) - 1) (by omega) (by omega), show ((2 ^ n : Nat) : Int) - 1 = ((2 ^ n - 1 : Nat) : Int) by omega]
  have := fb_loop (n := n) (by omega) (by omega) ⟨#[]⟩ 16 v 65 (List.replicate 65 0) [] (by decide) hpw hv (by decide) (by decide) (by simp) (by simp [toI])
  rw [show ((65 : Nat) : Int) = 65 from rfl] at this
  rw [this, List.append_nil]
  rfl

/-! ### decimals -/
theorem Decimal_loop : ∀ (n : Nat), n < 100000 → ∀ (l : List UInt8), l.length + n ≤ 200000 → run_ratchetbase_Decimal (.p248 (n : Int) ⟨l.toArray⟩ ⟨#[]⟩) = some ((⟨((if n = 0 then [] else Lib.decDigits n) ++ l).toArray⟩, ()), ()) := by
  intro n
  induction n using Nat.strongRecOn with
  | ind n ih =>
    intro hn l hl
    have hlsz : ∀ m : List UInt8, (⟨m.toArray⟩ : ByteArray).size = m.length := fun m => rfl
    have hsz : (⟨#[]⟩ : ByteArray).size = 0 := rfl
    rw [run_ratchetbase_Decimal]
    by_cases h0 : n = 0
    · subst h0
      rw [if_neg (by decide), if_pos (Nat.ble_eq_true_of_le (by rw [hsz]; rw [hlsz]; omega)), if_pos rfl]
      congr 3
    · have ht : Int.tmod (n : Int) 10 = ((n % 10 : Nat) : Int) := by rw [Int.tmod_eq_emod_of_nonneg (by omega)]; omega
      have hd : Int.tdiv (n : Int) 10 = ((n / 10 : Nat) : Int) := by rw [Int.tdiv_eq_ediv_of_nonneg (by omega)]; omega
      have hm := Nat.mod_lt n (show 0 < 10 by decide)
      have hS : run_ratchetbase_Size (.start ((n % 10 : Nat) : Int)) = some ((((n % 10 : Nat) : Int), ()), ()) := by
        rw [run_ratchetbase_Size, wrap_i64 (x := 0 - ((n % 10 : Nat) : Int)) (by omega) (by omega), if_neg (by omega)]
      rw [if_pos (by simp only [bne_iff_ne]; omega), if_pos (by decide), ht, hS]
      simp only [some_bind']
      rw [wrap_i64 (x := 48 + ((n % 10 : Nat) : Int)) (by omega) (by omega), wrap_u8' (x := 48 + ((n % 10 : Nat) : Int)) (by omega) (by omega)]
      have eb : bytesStr ([48 + ((n % 10 : Nat) : Int)] : List Int) = ⟨[UInt8.ofNat (48 + n % 10)].toArray⟩ := by
        unfold bytesStr
        simp only [List.map_cons, List.map_nil]
        rw [show (48 + ((n % 10 : Nat) : Int)).toNat = 48 + n % 10 by omega]
      have ea : (⟨[UInt8.ofNat (48 + n % 10)].toArray⟩ : ByteArray) ++ ⟨l.toArray⟩ = ⟨(UInt8.ofNat (48 + n % 10) :: l).toArray⟩ := byte_ext (by simp)
      rw [eb, ea, if_pos (Nat.ble_eq_true_of_le (by rw [hlsz, hlsz]; simp; omega)), if_pos (by decide), hd, wrap_i64 (x := ((n / 10 : Nat) : Int)) (by omega) (by omega), ih (n / 10) (by omega) (by omega) _ (by simp; omega), if_neg h0]
      conv => rhs; rw [Lib.decDigits]
      by_cases h10 : n < 10
      · rw [dif_pos h10, if_pos (by omega), Nat.mod_eq_of_lt h10]
        rfl
      · rw [dif_neg h10, if_neg (by omega), List.append_assoc]
        rfl
theorem Decimal_eq {n : Nat} (hn : n < 100000) : run_ratchetbase_Decimal (.start (n : Int)) = some ((deci (n : Int), ()), ()) := by
  have hd : deci (n : Int) = ⟨(Lib.decDigits n).toArray⟩ := byte_ext (by
    rw [deci_data]
    unfold Lib.itoa
    rw [if_neg (by omega), Int.toNat_natCast])
  rw [run_ratchetbase_Decimal]
  by_cases h0 : n = 0
  · subst h0
    rw [if_pos (by decide), hd, Lib.decDigits, dif_pos (by decide)]
    rfl
  · rw [if_neg (by simp only [beq_iff_eq]; omega), if_neg (by simp only [decide_eq_true_eq]; omega), run_ratchetbase_Decimal]
    have := Decimal_loop n hn [] (by simp; omega)
    rw [if_neg h0, List.append_nil] at this
    rw [hd]
    exact this
end Go.Proofs.YtfmkleeneddijaaGreatDoor.Ev.F
