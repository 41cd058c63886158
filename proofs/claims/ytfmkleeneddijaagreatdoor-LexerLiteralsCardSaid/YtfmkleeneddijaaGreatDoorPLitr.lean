/- Literals written and read again; the law. -/
import Derived.Test.YtfmkleeneddijaaGreatDoorPFmt
import Derived.Test.YtfmkleeneddijaaGreatDoorPToks
set_option linter.unusedVariables false
set_option linter.unusedSimpArgs false
set_option linter.unnecessarySimpa false
namespace Go.Proofs.YtfmkleeneddijaaGreatDoor.Ev.F
open Go.Proofs.YtfmkleeneddijaaGreatDoor.Ev

/-- the literal of a width, a sign and digits -/
def txt (w : Nat) (c : UInt8) (D : List UInt8) : ByteArray := ⟨(Lib.decDigits w ++ 39 :: c :: D).toArray⟩
theorem txt_data (w : Nat) (c : UInt8) (D : List UInt8) : (txt w c D).data.toList = Lib.decDigits w ++ 39 :: c :: D := rfl
theorem W_ok0 : ∀ w : Nat, w < 17 → (natOk ⟨(Lib.decDigits w).toArray⟩ && (decide (natN ⟨(Lib.decDigits w).toArray⟩ = (w : Int)) && ((Lib.decDigits w).all (fun c => c != 39) && decide ((Lib.decDigits w).length ≤ 2)))) = true := by decide +kernel
theorem W_ok {w : Nat} (h : w < 17) : natOk ⟨(Lib.decDigits w).toArray⟩ = true ∧ natN ⟨(Lib.decDigits w).toArray⟩ = (w : Int) ∧ (∀ c ∈ Lib.decDigits w, c ≠ 39) ∧ (Lib.decDigits w).length ≤ 2 := by
  have := W_ok0 w h
  rw [Bool.and_eq_true, Bool.and_eq_true, Bool.and_eq_true, decide_eq_true_eq, decide_eq_true_eq, List.all_eq_true] at this
  exact ⟨this.1, this.2.1, fun c hc => by simpa using this.2.2.1 c hc, this.2.2.2⟩
theorem index_app : ∀ (l r : List UInt8), (∀ c ∈ l, c ≠ 39) → Lib.indexByte (l ++ 39 :: r) 39 = (l.length : Int)
 | [], r, _ => rfl
 | c :: l, r, h => by
   have ih := index_app l r fun d hd => h d (List.mem_cons_of_mem _ hd)
   have hc : (c == 39) = false := beq_eq_false_iff_ne.2 (h c List.mem_cons_self)
   show (if (c == 39) = true then 0 else if (Lib.indexByte (l ++ 39 :: r) 39 == -1) = true then -1 else Lib.indexByte (l ++ 39 :: r) 39 + 1) = _
   rw [hc, ih, if_neg (by decide), if_neg (by simp only [beq_iff_eq]; omega)]
   simp
theorem txt_lit {w : Nat} (h1 : 1 ≤ w) (h16 : w ≤ 16) {c : UInt8} {D : List UInt8} (hD1 : 1 ≤ D.length) (hD : D.length ≤ 16) {v : Nat} (hv : digL (baseO (c.toNat : Int)) (toI D) 0 = some (v : Int)) (hlt : (v : Int) < pw (w : Int)) : litE (txt w c D) = ((v : Int), ((w : Int), 0)) := by
  obtain ⟨k1, k2, k3, k4⟩ := W_ok (show w < 17 by omega)
  have hi : Lib.indexByte (txt w c D).data.toList 39 = ((Lib.decDigits w).length : Int) := by rw [txt_data]; exact index_app _ _ k3
  have hsz : (txt w c D).size = (Lib.decDigits w).length + (D.length + 2) := by rw [← sizeL, txt_data]; simp
  have hx : (txt w c D).extract 0 (Lib.decDigits w).length = ⟨(Lib.decDigits w).toArray⟩ := byte_ext (by
    rw [ByteArray.data_extract, Array.toList_extract, List.extract_eq_take_drop, txt_data]
    simp)
  have et : (((Lib.decDigits w).length : Int) + 1).toNat = (Lib.decDigits w).length + 1 := by omega
  have hb : bt (txt w c D) ((Lib.decDigits w).length + 1) = (c.toNat : Int) := bt_get (by
    rw [txt_data, List.getElem?_append_right (by omega)]
    simp)
  have hs : strBytes ((txt w c D).extract ((Lib.decDigits w).length + 1 + 1) (txt w c D).size) = toI D := by
    unfold strBytes
    have e : List.drop ((Lib.decDigits w).length + 1 + 1) (Lib.decDigits w ++ 39 :: c :: D) = D := by
      rw [Nat.add_assoc, ← List.drop_drop, List.drop_left]
      rfl
    rw [ext_drop, txt_data, e]
    rfl
  unfold litE
  rw [hi, if_neg (by omega), Int.toNat_natCast, hx, k1, if_neg (Bool.noConfusion : ¬ true = false), et, if_pos (by omega), hb, hs, k2]
  unfold litD
  rw [hv]
  show litFin (w : Int) (v : Int) = _
  unfold litFin
  rw [if_pos (by omega), if_neg (by omega)]

/-! ### how literals are written -/
theorem pw_nat (n : Nat) : pw (n : Int) = ((2 ^ n : Nat) : Int) := by unfold pw; simp
theorem enc_ok : ∀ n : Nat, n < 128 → seq (Utf8.encode (n : Int)) ⟨#[UInt8.ofNat n]⟩ = true := by decide +kernel
theorem fl_end {w : Nat} (h1 : 1 ≤ w) (h16 : w ≤ 16) {c : Nat} (hc : c < 128) {D : List UInt8} (hD : D.length ≤ 20) : run_lexer_FormatLiteral (.p127 (w : Int) (c : Int) ⟨D.toArray⟩) = some ((txt w (UInt8.ofNat c) D, ((0 : Int), ())), ()) := by
  obtain ⟨k1, k2, k3, k4⟩ := W_ok (show w < 17 by omega)
  have hw : itoaRun ((w : Int), ()) () = some ((⟨(Lib.decDigits w).toArray⟩, ()), ()) := by
    unfold itoaRun
    simp only
    rw [if_pos (by omega), Lib.itoa_nonneg]
  have he : Utf8.encode (IntKind.wrap .i32 (c : Int)) = ⟨#[UInt8.ofNat c]⟩ := by
    have : IntKind.wrap .i32 (c : Int) = (c : Int) := by rw [IntKind.wrap_i32]; omega
    rw [this]
    exact seq_iff.1 (enc_ok c hc)
  have hlsz : ∀ m : List UInt8, (⟨m.toArray⟩ : ByteArray).size = m.length := fun m => rfl
  have h39 : (⟨#[39]⟩ : ByteArray).size = 1 := rfl
  have hcs : (⟨#[UInt8.ofNat c]⟩ : ByteArray).size = 1 := rfl
  rw [run_lexer_FormatLiteral, hw]
  simp only [some_bind', he]
  have sa : ∀ a b : ByteArray, (a ++ b).size = a.size + b.size := fun a b => by simp
  rw [if_pos (Nat.ble_eq_true_of_le (by rw [hlsz, h39]; omega)), if_pos (Nat.ble_eq_true_of_le (by simp only [sa, hlsz, List.length_cons, List.length_nil]; omega)), if_pos (Nat.ble_eq_true_of_le (by simp only [sa, hlsz, List.length_cons, List.length_nil]; omega))]
  have : ((⟨(Lib.decDigits w).toArray⟩ : ByteArray) ++ ⟨#[39]⟩ ++ ⟨#[UInt8.ofNat c]⟩ ++ ⟨D.toArray⟩) = txt w (UInt8.ofNat c) D := byte_ext (by rw [txt_data]; simp)
  rw [this]
theorem repeat_48 : ∀ m : Nat, Lib.repeatL [48] m = List.replicate m 48
 | 0 => rfl
 | m + 1 => by show [48] ++ Lib.repeatL [48] m = _; rw [repeat_48 m]; rfl
/-- how many digits -/
def cnt (n w : Nat) : Nat := (w + n - 1) / n
theorem fl_pow {n : Nat} {c : Nat} (hn : n = 1 ∧ c = 98 ∨ n = 4 ∧ c = 104) {w v : Nat} (h1 : 1 ≤ w) (h16 : w ≤ 16) (hv : v < 2 ^ w) : run_lexer_FormatLiteral (.p7 (v : Int) (w : Int) (c : Int)) = some ((txt w (UInt8.ofNat c) (padD (2 ^ n) (cnt n w) v), ((0 : Int), ())), ()) := by
  have h65 : (2 : Nat) ^ w ≤ 2 ^ 16 := Nat.pow_le_pow_right (by decide) h16
  have e16 : (2 : Nat) ^ 16 = 65536 := by decide
  have hnn : n = 1 ∨ n = 4 := by omega
  have hc1 : 1 ≤ cnt n w ∧ cnt n w ≤ 16 ∧ w ≤ n * cnt n w := by
    unfold cnt
    rcases hn with ⟨rfl, _⟩ | ⟨rfl, _⟩ <;> omega
  have hb2 : 2 ≤ 2 ^ n := by rcases hnn with rfl | rfl <;> decide
  have hvb : v < (2 ^ n) ^ cnt n w := by
    rw [← Nat.pow_mul]
    have : (2 : Nat) ^ w ≤ 2 ^ (n * cnt n w) := Nat.pow_le_pow_right (by decide) hc1.2.2
    omega
  obtain ⟨g1, g2, g3⟩ := pad_digs hb2 (cnt n w) v 16 hc1.1 hc1.2.1 hvb
  have hB : run_lexer_baseOf (.start (c : Int)) = some ((((2 ^ n : Nat) : Int), ()), ()) := by
    rw [baseOf_eq (by omega) (by omega)]
    rcases hn with ⟨rfl, rfl⟩ | ⟨rfl, rfl⟩ <;> rfl
  have hm : Option.getD (aget ieq (aput ieq (aput ieq ([] : List (Int × Int)) (98 : Int) (1 : Int)) (104 : Int) (4 : Int)) (c : Int)) (0 : Int) = (n : Int) := by
    rcases hn with ⟨rfl, rfl⟩ | ⟨rfl, rfl⟩ <;> decide
  have hF : fmtRun (v : Int) ((2 ^ n : Nat) : Int) (run_strconv_FormatInt (.start (v : Int) ((2 ^ n : Nat) : Int))) = some ((⟨(fmtD n v).toArray⟩, ()), ()) := by
    unfold fmtRun
    rw [if_neg (by rcases hnn with rfl | rfl <;> decide), FormatInt_eq hnn (by omega)]
  rw [run_lexer_FormatLiteral, hB]
  simp only [some_bind']
  rw [if_neg (by rcases hnn with rfl | rfl <;> decide), hF]
  simp only [some_bind', hm]
  have hq : Int.tdiv (IntKind.wrap .i64 (IntKind.wrap .i64 ((w : Int) + (n : Int)) - 1)) (n : Int) = ((cnt n w : Nat) : Int) := by
    rw [wrap_i64 (x := (w : Int) + (n : Int)) (by omega) (by omega), wrap_i64 (x := (w : Int) + (n : Int) - 1) (by omega) (by omega), Int.tdiv_eq_ediv_of_nonneg (by omega)]
    unfold cnt
    rw [Int.natCast_ediv]
    congr 1
    omega
  have hlsz : ∀ m : List UInt8, (⟨m.toArray⟩ : ByteArray).size = m.length := fun m => rfl
  have hfl : (fmtD n v).length = (digs (2 ^ n) 16 v).length := rfl
  rw [if_pos (by simp only [gt_iff_lt, decide_eq_true_eq]; omega), if_pos (by simp only [Bool.not_eq_true', beq_eq_false_iff_ne]; omega), hq, hlsz, hfl, wrap_i64 (x := ((cnt n w : Nat) : Int)) (by omega) (by omega), wrap_i64 (x := ((cnt n w : Nat) : Int) - (((digs (2 ^ n) 16 v).length : Nat) : Int)) (by omega) (by omega)]
  have hR : repeatRun ((⟨#[48]⟩ : ByteArray), ((cnt n w : Nat) : Int) - (((digs (2 ^ n) 16 v).length : Nat) : Int), ()) () = some ((⟨(List.replicate (cnt n w - (digs (2 ^ n) 16 v).length) 48).toArray⟩, ()), ()) := by
    unfold repeatRun
    have et : (((cnt n w : Nat) : Int) - (((digs (2 ^ n) 16 v).length : Nat) : Int)).toNat = cnt n w - (digs (2 ^ n) 16 v).length := by omega
    have h48 : (⟨#[48]⟩ : ByteArray).size = 1 := rfl
    have hb : (decide ((0 : Int) ≤ ((cnt n w : Nat) : Int) - (((digs (2 ^ n) 16 v).length : Nat) : Int)) && (decide (((cnt n w : Nat) : Int) - (((digs (2 ^ n) 16 v).length : Nat) : Int) ≤ 9223372036854775807) && Nat.ble ((⟨#[48]⟩ : ByteArray).size * (((cnt n w : Nat) : Int) - (((digs (2 ^ n) 16 v).length : Nat) : Int)).toNat) 140737488355328)) = true := by
      rw [Bool.and_eq_true, Bool.and_eq_true, decide_eq_true_eq, decide_eq_true_eq]
      exact ⟨by omega, by omega, Nat.ble_eq_true_of_le (by rw [h48, et]; omega)⟩
    simp only
    rw [hb, cond_true, et]
    show some (((⟨(Lib.repeatL [48] (cnt n w - (digs (2 ^ n) 16 v).length)).toArray⟩ : ByteArray), ()), ()) = _
    rw [repeat_48]
  rw [hR]
  simp only [some_bind']
  have hrl : (List.replicate (cnt n w - (digs (2 ^ n) 16 v).length) (48 : UInt8)).length = cnt n w - (digs (2 ^ n) 16 v).length := List.length_replicate
  have hfl2 : (⟨(fmtD n v).toArray⟩ : ByteArray).size = (digs (2 ^ n) 16 v).length := rfl
  rw [if_pos (Nat.ble_eq_true_of_le (by rw [hlsz, hrl]; omega))]
  have hj : (⟨(List.replicate (cnt n w - (digs (2 ^ n) 16 v).length) 48).toArray⟩ : ByteArray) ++ ⟨(fmtD n v).toArray⟩ = ⟨(padD (2 ^ n) (cnt n w) v).toArray⟩ := byte_ext (by
    rw [← g3]
    unfold fmtD
    simp)
  rw [hj]
  exact fl_end h1 h16 (by omega) (by rw [padD_len]; omega)
theorem fl_dec {w v : Nat} (h1 : 1 ≤ w) (h16 : w ≤ 16) (hv : v < 2 ^ w) : run_lexer_FormatLiteral (.p7 (v : Int) (w : Int) 100) = some ((txt w 100 (Lib.decDigits v), ((0 : Int), ())), ()) := by
  have h65 : (2 : Nat) ^ w ≤ 2 ^ 16 := Nat.pow_le_pow_right (by decide) h16
  have e16 : (2 : Nat) ^ 16 = 65536 := by decide
  have hB : run_lexer_baseOf (.start (100 : Int)) = some (((10 : Int), ()), ()) := by
    rw [baseOf_eq (by decide) (by decide)]
    rfl
  have hm : Option.getD (aget ieq (aput ieq (aput ieq ([] : List (Int × Int)) (98 : Int) (1 : Int)) (104 : Int) (4 : Int)) (100 : Int)) (0 : Int) = 0 := by decide
  have hF : fmtRun (v : Int) 10 (run_strconv_FormatInt (.start (v : Int) 10)) = some ((⟨(Lib.decDigits v).toArray⟩, ()), ()) := by
    unfold fmtRun
    rw [if_pos rfl]
    unfold itoaRun
    simp only
    rw [if_pos (by omega), Lib.itoa_nonneg]
  have hdl : (Lib.decDigits v).length ≤ 5 := by
    rw [dec_digs 5 v (by decide) (by have e : (10 : Nat) ^ 5 = 100000 := by decide
                                     omega)]
    exact (pad_digs (by decide) 5 v 5 (by decide) (by decide) (by have e : (10 : Nat) ^ 5 = 100000 := by decide
                                                                  omega)).1
  rw [run_lexer_FormatLiteral, hB]
  simp only [some_bind']
  rw [if_neg (by decide), hF]
  simp only [some_bind', hm]
  rw [if_neg (by decide)]
  exact fl_end (c := 100) h1 h16 (by decide) (by omega)

/-! ### how the reference writes them -/
theorem rf_loop {n : Nat} (hn : n = 1 ∨ n = 4) (c : Nat) (hc : c < 256) {w v : Nat} (h1 : 1 ≤ w) (h16 : w ≤ 16) (hv : v < 65536) : ∀ (k j : Nat), j + k = cnt n w →
    run_ratchetref05_Format (.p1012 (v : Int) (w : Int) (c : Int) (n : Int) ⟨(padD (2 ^ n) j v).toArray⟩ ((n * j : Nat) : Int)) = some ((txt w (UInt8.ofNat c) (padD (2 ^ n) (cnt n w) v), ()), ()) := by
  have hb : 2 ≤ 2 ^ n ∧ 2 ^ n ≤ 16 := by rcases hn with rfl | rfl <;> decide
  have hlsz : ∀ m : List UInt8, (⟨m.toArray⟩ : ByteArray).size = m.length := fun m => rfl
  obtain ⟨k1, k2, k3, k4⟩ := W_ok (show w < 17 by omega)
  intro k
  induction k with
  | zero =>
    intro j h
    have hend : w ≤ n * j := by
      rw [show j = cnt n w by omega]
      unfold cnt
      rcases hn with rfl | rfl <;> omega
    have hj : j ≤ 16 := by
      rw [show j = cnt n w by omega]
      unfold cnt
      rcases hn with rfl | rfl <;> omega
    have hdc : deci (w : Int) = ⟨(Lib.decDigits w).toArray⟩ := byte_ext (by rw [deci_data, Lib.itoa_nonneg])
    have h39 : (⟨#[39]⟩ : ByteArray).size = 1 := rfl
    have hbs : bytesStr ([(c : Int)] : List Int) = ⟨#[UInt8.ofNat c]⟩ := by unfold bytesStr; simp
    have hcs : (⟨#[UInt8.ofNat c]⟩ : ByteArray).size = 1 := rfl
    have sa : ∀ a b : ByteArray, (a ++ b).size = a.size + b.size := fun a b => by simp
    rw [run_ratchetref05_Format, if_neg (by simp only [decide_eq_true_eq]; omega), Decimal_eq (by omega), hdc, hbs]
    simp only [some_bind']
    rw [if_pos (Nat.ble_eq_true_of_le (by rw [hlsz, h39]; omega)), if_pos (Nat.ble_eq_true_of_le (by simp only [sa, hlsz, List.length_cons, List.length_nil]; omega)), if_pos (Nat.ble_eq_true_of_le (by simp only [sa, hlsz, List.length_cons, List.length_nil, padD_len]; omega))]
    have : ((⟨(Lib.decDigits w).toArray⟩ : ByteArray) ++ ⟨#[39]⟩ ++ ⟨#[UInt8.ofNat c]⟩ ++ ⟨(padD (2 ^ n) j v).toArray⟩) = txt w (UInt8.ofNat c) (padD (2 ^ n) (cnt n w) v) := byte_ext (by rw [txt_data, show cnt n w = j by omega]; simp)
    rw [this]
  | succ k ih =>
    intro j h
    have hlt : n * j < w := by
      have : j < cnt n w := by omega
      unfold cnt at this
      rcases hn with rfl | rfl <;> omega
    have hj : j ≤ 15 := by
      have : j < cnt n w := by omega
      unfold cnt at this
      rcases hn with rfl | rfl <;> omega
    have hpj : pw ((n * j : Nat) : Int) = (((2 ^ n) ^ j : Nat) : Int) := by rw [pw_nat, Nat.pow_mul]
    have hpn : pw (n : Int) = ((2 ^ n : Nat) : Int) := pw_nat n
    have hpos : 0 < (2 ^ n) ^ j := Nat.pow_pos (by omega)
    have hq : Int.tdiv (v : Int) (((2 ^ n) ^ j : Nat) : Int) = ((v / (2 ^ n) ^ j : Nat) : Int) := by
      rw [Int.tdiv_eq_ediv_of_nonneg (by omega), Int.natCast_ediv]
    have hle := Nat.div_le_self v ((2 ^ n) ^ j)
    have hm := Nat.mod_lt (v / (2 ^ n) ^ j) (show 0 < 2 ^ n by omega)
    have ht : Int.tmod ((v / (2 ^ n) ^ j : Nat) : Int) ((2 ^ n : Nat) : Int) = ((v / (2 ^ n) ^ j % 2 ^ n : Nat) : Int) := by
      rw [Int.tmod_eq_emod_of_nonneg (Int.natCast_nonneg _), Int.natCast_emod]
    rw [run_ratchetref05_Format, if_pos (by simp only [decide_eq_true_eq]; omega), Power_eq (by omega) (by omega), Power_eq (by omega) (by omega)]
    simp only [some_bind', hpj, hpn]
    have z0 : ((((2 ^ n) ^ j : Nat) : Int) == 0) = false := by rw [beq_eq_false_iff_ne]; omega
    have z1 : (((2 ^ n : Nat) : Int) == 0) = false := by rw [beq_eq_false_iff_ne]; omega
    rw [z0, z1, if_pos (by decide), if_pos (by decide), hq, wrap_i64 (x := ((v / (2 ^ n) ^ j : Nat) : Int)) (by have := Int.natCast_nonneg (v / (2 ^ n) ^ j); omega) (by omega), ht, wrap_i64 (x := ((v / (2 ^ n) ^ j % 2 ^ n : Nat) : Int) + 1) (by have := Int.natCast_nonneg (v / (2 ^ n) ^ j % 2 ^ n); omega) (by omega), show ((v / (2 ^ n) ^ j % 2 ^ n : Nat) : Int) + 1 = ((v / (2 ^ n) ^ j % 2 ^ n + 1 : Nat) : Int) by omega]
    have h16s : D16.size = 16 := rfl
    rw [span_nat (by omega) (by rw [h16s]; omega)]
    simp only [some_bind']
    have hx : D16.extract (v / (2 ^ n) ^ j % 2 ^ n) (v / (2 ^ n) ^ j % 2 ^ n + 1) = ⟨#[ub (v / (2 ^ n) ^ j % 2 ^ n)]⟩ := D16_get (by omega)
    rw [hx]
    have hus : (⟨#[ub (v / (2 ^ n) ^ j % 2 ^ n)]⟩ : ByteArray).size = 1 := rfl
    rw [if_pos (Nat.ble_eq_true_of_le (by rw [hus, hlsz, padD_len]; omega)), wrap_i64 (x := ((n * j : Nat) : Int) + (n : Int)) (by omega) (by omega)]
    have hj2 : (⟨#[ub (v / (2 ^ n) ^ j % 2 ^ n)]⟩ : ByteArray) ++ ⟨(padD (2 ^ n) j v).toArray⟩ = ⟨(padD (2 ^ n) (j + 1) v).toArray⟩ := byte_ext (by rw [padD_cons]; simp)
    rw [hj2, show ((n * j : Nat) : Int) + (n : Int) = ((n * (j + 1) : Nat) : Int) by rw [Nat.mul_succ]; omega]
    exact ih (j + 1) (by omega)
theorem rf_dec {w v : Nat} (h1 : 1 ≤ w) (h16 : w ≤ 16) (hv : v < 65536) : run_ratchetref05_Format (.start (v : Int) (w : Int) 100) = some ((txt w 100 (Lib.decDigits v), ()), ()) := by
  obtain ⟨k1, k2, k3, k4⟩ := W_ok (show w < 17 by omega)
  have hdc : ∀ m : Nat, deci (m : Int) = ⟨(Lib.decDigits m).toArray⟩ := fun m => byte_ext (by rw [deci_data, Lib.itoa_nonneg])
  have hlsz : ∀ m : List UInt8, (⟨m.toArray⟩ : ByteArray).size = m.length := fun m => rfl
  have h39 : (⟨#[39, 100]⟩ : ByteArray).size = 2 := rfl
  have sa : ∀ a b : ByteArray, (a ++ b).size = a.size + b.size := fun a b => by simp
  have e5 : (10 : Nat) ^ 5 = 100000 := by decide
  have hdl : (Lib.decDigits v).length ≤ 5 := by
    rw [dec_digs 5 v (by decide) (by omega)]
    exact (pad_digs (by decide) 5 v 5 (by decide) (by decide) (by omega)).1
  rw [run_ratchetref05_Format, if_pos (by decide), Decimal_eq (by omega), hdc]
  simp only [some_bind']
  rw [if_pos (Nat.ble_eq_true_of_le (by rw [hlsz, h39]; omega)), Decimal_eq (by omega), hdc]
  simp only [some_bind']
  rw [if_pos (Nat.ble_eq_true_of_le (by simp only [sa, hlsz, List.length_cons, List.length_nil]; omega))]
  have : ((⟨(Lib.decDigits w).toArray⟩ : ByteArray) ++ ⟨#[39, 100]⟩ ++ ⟨(Lib.decDigits v).toArray⟩) = txt w 100 (Lib.decDigits v) := byte_ext (by rw [txt_data]; simp)
  rw [this]
theorem rf_pow {n : Nat} {c : Nat} (hn : n = 1 ∧ c = 98 ∨ n = 4 ∧ c = 104) {w v : Nat} (h1 : 1 ≤ w) (h16 : w ≤ 16) (hv : v < 65536) : run_ratchetref05_Format (.start (v : Int) (w : Int) (c : Int)) = some ((txt w (UInt8.ofNat c) (padD (2 ^ n) (cnt n w) v), ()), ()) := by
  have := rf_loop (n := n) (by omega) c (by omega) h1 h16 hv (cnt n w) 0 (by omega)
  have z : ((n * 0 : Nat) : Int) = 0 := rfl
  rw [z] at this
  rw [run_ratchetref05_Format, if_neg (by simp only [beq_iff_eq]; omega)]
  rcases hn with ⟨rfl, rfl⟩ | ⟨rfl, rfl⟩
  · rw [if_neg (by decide), run_ratchetref05_Format]
    exact this
  · rw [if_pos (by decide), run_ratchetref05_Format]
    exact this

/-! ### the law -/
theorem literals_fin {t : ByteArray} {v w : Nat} (hs : t.size ≤ 60000) (h : litE t = ((v : Int), ((w : Int), 0))) : run_ratchetlaw05_LexerLiterals (.p1023 t (v : Int) (w : Int)) = some ((true, ()), ()) := by
  rw [run_ratchetlaw05_LexerLiterals, ParseLiteral_eq hs, h]
  simp only [some_bind', litR]
  rw [if_pos (by decide)]
  simp
theorem txt_size {w : Nat} (h : w ≤ 16) (c : UInt8) {D : List UInt8} (hD : D.length ≤ 20) : (txt w c D).size ≤ 60000 := by
  obtain ⟨_, _, _, k4⟩ := W_ok (show w < 17 by omega)
  rw [← sizeL, txt_data]
  simp
  omega
theorem literals_ok {w v c : Nat} (h1 : 1 ≤ w) (h16 : w ≤ 16) (hv : v < 2 ^ w) (hc : c = 98 ∨ c = 100 ∨ c = 104) : ∃ (t : ByteArray), run_lexer_FormatLiteral (.p7 (v : Int) (w : Int) (c : Int)) = some ((t, ((0 : Int), ())), ()) ∧ run_ratchetref05_Format (.start (v : Int) (w : Int) (c : Int)) = some ((t, ()), ()) ∧ t.size ≤ 60000 ∧ litE t = ((v : Int), ((w : Int), 0)) := by
  have h65 : (2 : Nat) ^ w ≤ 2 ^ 16 := Nat.pow_le_pow_right (by decide) h16
  have e16 : (2 : Nat) ^ 16 = 65536 := by decide
  have hpw : (v : Int) < pw (w : Int) := by rw [pw_nat]; omega
  have e5 : (10 : Nat) ^ 5 = 100000 := by decide
  have pow : ∀ n : Nat, (n = 1 ∧ c = 98 ∨ n = 4 ∧ c = 104) → ∃ (t : ByteArray), run_lexer_FormatLiteral (.p7 (v : Int) (w : Int) (c : Int)) = some ((t, ((0 : Int), ())), ()) ∧ run_ratchetref05_Format (.start (v : Int) (w : Int) (c : Int)) = some ((t, ()), ()) ∧ t.size ≤ 60000 ∧ litE t = ((v : Int), ((w : Int), 0)) := by
    intro n hn
    have hnn : n = 1 ∨ n = 4 := by omega
    have hb : 2 ≤ 2 ^ n ∧ 2 ^ n ≤ 16 := by rcases hnn with rfl | rfl <;> decide
    have hc1 : 1 ≤ cnt n w ∧ cnt n w ≤ 16 ∧ w ≤ n * cnt n w := by
      unfold cnt
      rcases hn with ⟨rfl, _⟩ | ⟨rfl, _⟩ <;> omega
    have hvb : v < (2 ^ n) ^ cnt n w := by
      rw [← Nat.pow_mul]
      have : (2 : Nat) ^ w ≤ 2 ^ (n * cnt n w) := Nat.pow_le_pow_right (by decide) hc1.2.2
      omega
    obtain ⟨g1, g2, g3⟩ := pad_digs hb.1 (cnt n w) v (cnt n w) hc1.1 (Nat.le_refl _) hvb
    refine ⟨_, fl_pow hn h1 h16 hv, rf_pow hn h1 h16 (by omega), txt_size h16 _ (by rw [padD_len]; omega), txt_lit h1 h16 (by rw [padD_len]; omega) (by rw [padD_len]; omega) ?_ hpw⟩
    have hbase : baseO ((UInt8.ofNat c).toNat : Int) = ((2 ^ n : Nat) : Int) := by
      rcases hn with ⟨rfl, rfl⟩ | ⟨rfl, rfl⟩ <;> decide
    rw [hbase, ← g3, toI_app, digL_zeros _ hb.1]
    exact digL_digs hb.1 hb.2 _ _ hvb (by omega)
  rcases hc with rfl | rfl | rfl
  · exact pow 1 (.inl ⟨rfl, rfl⟩)
  · obtain ⟨g1, g2, g3⟩ := pad_digs (b := 10) (by decide) 5 v 5 (by decide) (by decide) (by omega)
    have hdd := dec_digs 5 v (by decide) (by omega)
    refine ⟨_, fl_dec h1 h16 hv, rf_dec h1 h16 (by omega), txt_size h16 _ (by rw [hdd]; omega), txt_lit h1 h16 (by rw [hdd]; omega) (by rw [hdd]; omega) ?_ hpw⟩
    rw [hdd]
    have hbase : baseO ((100 : UInt8).toNat : Int) = ((10 : Nat) : Int) := by decide
    rw [hbase]
    exact digL_digs (by decide) (by decide) _ _ (by omega) (by omega)
  · exact pow 4 (.inr ⟨rfl, rfl⟩)
theorem lwithin_eq (n lo hi : Int) : run_lexer_within (.start n lo hi) = some ((decide (lo ≤ n) && decide (n ≤ hi), ()), ()) := by
  rw [run_lexer_within]
  by_cases h : lo ≤ n
  · rw [if_pos (by simpa using h)]; simp [h]
  · rw [if_neg (by simpa using h)]; simp [h]
theorem and_false' {a b : Prop} [Decidable a] [Decidable b] (h : ¬ (a ∧ b)) : (decide a && decide b) = false := by
  by_cases ha : a
  · have : ¬ b := fun hb => h ⟨ha, hb⟩
    simp [this]
  · simp [ha]
theorem and_true' {a b : Prop} [Decidable a] [Decidable b] (h : a ∧ b) : (decide a && decide b) = true := by simp [h.1, h.2]
theorem fl_start {v w c : Int} : run_lexer_FormatLiteral (.start v w c) = if (1 ≤ w ∧ w ≤ 16) ∧ 0 ≤ v ∧ v ≤ pw w - 1 then run_lexer_FormatLiteral (.p7 v w c) else some ((⟨#[]⟩, ((2 : Int), ())), ()) := by
  conv => lhs; rw [run_lexer_FormatLiteral, lwithin_eq]
  simp only [some_bind']
  by_cases hw : 1 ≤ w ∧ w ≤ 16
  · have hp := pw_16 hw.2
    have hp0 := pw_pos w
    rw [and_true' hw, if_neg (by decide), if_pos (by simp; omega), shl_one (by omega), wrap_i64 (x := pw w - 1) (by omega) (by omega), lwithin_eq]
    simp only [some_bind']
    by_cases hv : 0 ≤ v ∧ v ≤ pw w - 1
    · rw [and_true' hv, if_neg (by decide), if_pos ⟨hw, hv⟩]
    · rw [and_false' hv, if_pos (by decide), if_neg (fun h => hv h.2)]
  · rw [and_false' hw, if_pos (by decide), if_neg (fun h => hw h.1)]
theorem fe_start {v w c : Int} : run_ratchetref05_FormatErr (.start v w c) = if (1 ≤ w ∧ w ≤ 16) ∧ 0 ≤ v ∧ v ≤ pw w - 1 then run_ratchetref05_FormatErr (.p7 c) else some (((2 : Int), ()), ()) := by
  conv => lhs; rw [run_ratchetref05_FormatErr, run_ratchetbase_IsWidth, Within_eq]
  simp only [some_bind']
  by_cases hw : 1 ≤ w ∧ w ≤ 16
  · have hp := pw_16 hw.2
    have hp0 := pw_pos w
    rw [and_true' hw, if_neg (by decide), run_ratchetbase_Fits, Power_eq (by omega) (by omega)]
    simp only [some_bind']
    rw [wrap_i64 (x := pw w - 1) (by omega) (by omega), Within_eq]
    simp only [some_bind']
    by_cases hv : 0 ≤ v ∧ v ≤ pw w - 1
    · rw [and_true' hv, if_neg (by decide), if_pos ⟨hw, hv⟩]
    · rw [and_false' hv, if_pos (by decide), if_neg (fun h => hv h.2)]
  · rw [and_false' hw, if_pos (by decide), if_neg (fun h => hw h.1)]
theorem literals_true (s : ByteArray) (x0 x1 c : Int) (hc0 : 0 ≤ c) (hc1 : c < 256) : run_ratchetlaw05_LexerLiterals (.start s x0 x1 c) = some ((true, ()), ()) := by
  rw [run_ratchetlaw05_LexerLiterals]
  simp only [some_bind', Bool.not_true, Bool.false_eq_true, if_false]
  by_cases hs : s.size ≤ 60
  · rw [if_neg (by simp; omega), ParseLiteral_eq (by omega), rLiteral_eq (by omega)]
    simp only [some_bind']
    rw [if_neg (by simp), if_neg (by simp), run_ratchetlaw05_LexerLiterals, fl_start, fe_start]
    by_cases hw : (1 ≤ x1 ∧ x1 ≤ 16) ∧ 0 ≤ x0 ∧ x0 ≤ pw x1 - 1
    · rw [if_pos hw, if_pos hw, run_ratchetref05_FormatErr, rBy_eq]
      simp only [some_bind']
      by_cases hb : baseO c = 0
      · rw [run_lexer_FormatLiteral, baseOf_eq hc0 hc1]
        simp only [some_bind']
        rw [if_pos (by simpa using hb), if_pos (by simpa using hb)]
        simp only [some_bind']
        rw [if_pos (by decide), if_pos (by decide), seq_self]
      · obtain ⟨hw1, hv⟩ := hw
        obtain ⟨v, rfl⟩ := Int.eq_ofNat_of_zero_le hv.1
        obtain ⟨w, rfl⟩ := Int.eq_ofNat_of_zero_le (show 0 ≤ x1 by omega)
        obtain ⟨c, rfl⟩ := Int.eq_ofNat_of_zero_le hc0
        have hcc : c = 98 ∨ c = 100 ∨ c = 104 := by
          unfold baseO at hb
          by_cases e1 : (c : Int) = 98
          · omega
          · rw [if_neg e1] at hb
            by_cases e2 : (c : Int) = 100
            · omega
            · rw [if_neg e2] at hb
              by_cases e3 : (c : Int) = 104
              · omega
              · rw [if_neg e3] at hb
                exact absurd rfl hb
        have hv2 := hv.2
        rw [pw_nat] at hv2
        obtain ⟨t, t1, t2, t3, t4⟩ := literals_ok (w := w) (v := v) (c := c) (by omega) (by omega) (by omega) hcc
        have hb' : (baseO ((c : Nat) : Int) == 0) = false := by simpa using hb
        rw [t1, hb', if_neg (by decide)]
        simp only [some_bind']
        rw [if_neg (by decide), if_neg (by decide), t2]
        simp only [some_bind']
        rw [seq_self, if_neg (by decide)]
        exact literals_fin t3 t4
    · rw [if_neg hw, if_neg hw]
      simp only [some_bind']
      rw [if_pos (by decide), if_pos (by decide), seq_self]
  · rw [if_pos (by simp; omega)]
theorem lit_u8 {x : Int} (h : (Lit.int .u8 x).wf = true) : 0 ≤ x ∧ x < 256 := by
  have e1 : IntKind.u8.min = 0 := rfl
  have e2 : IntKind.u8.max = 255 := rfl
  simp [Lit.wf, e1, e2] at h
  omega
theorem literals_law (a0 : ByteArray) (a1 : arr2_int) (a2 : Int) (h : (Lit.int .u8 a2).wf = true) : run_ratchetlaw05_LexerLiterals (.start a0 a1.a0 a1.a1 a2) = some ((true, ()), ()) := literals_true _ _ _ _ (lit_u8 h).1 (lit_u8 h).2
end Go.Proofs.YtfmkleeneddijaaGreatDoor.Ev.F
