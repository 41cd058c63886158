/- Tokens: what the scanner comes to. -/
import Derived.Test.YtfmkleeneddijaaGreatDoorPLex
import Derived.Laws.RangeString
set_option linter.unusedVariables false
set_option linter.unusedSimpArgs false
set_option linter.unnecessarySimpa false
namespace Go.Proofs.YtfmkleeneddijaaGreatDoor.Ev.F
open Go.Proofs.YtfmkleeneddijaaGreatDoor.Ev

def isCap (c : Int) : Bool := decide (65 ≤ c) && decide (c ≤ 90)
def isLet (c : Int) : Bool := isCap c || (decide (97 ≤ c) && decide (c ≤ 122))
def isDig (c : Int) : Bool := decide (48 ≤ c) && decide (c ≤ 57)
def isWd (c : Int) : Bool := isLet c || (isDig c || c == 95)
def isNum (c : Int) : Bool := isWd c || c == 39
theorem isCapital_eq (c : Int) : run_lexer_isCapital (.start c) = some ((isCap c, ()), ()) := by
  simp only [run_lexer_isCapital, isCap]
  by_cases h : 65 ≤ c <;> simp [h]
theorem isLetter_eq (c : Int) : run_lexer_isLetter (.start c) = some ((isLet c, ()), ()) := by
  simp only [run_lexer_isLetter, isCapital_eq, some_bind', isLet]
  cases h1 : isCap c
  · by_cases h : 97 ≤ c <;> simp [h]
  · simp
theorem isDigit_eq (c : Int) : run_lexer_isDigit (.start c) = some ((isDig c, ()), ()) := by
  simp only [run_lexer_isDigit, isDig]
  by_cases h : 48 ≤ c <;> simp [h]
theorem isWord_eq (c : Int) : run_lexer_isWord (.start c) = some ((isWd c, ()), ()) := by
  simp only [run_lexer_isWord, isLetter_eq, isDigit_eq, some_bind', isWd]
  cases isLet c <;> cases isDig c <;> simp
theorem token1_eq (c : Int) : run_lexer_scanner_token_1 (.start c) = some ((isNum c, ()), ()) := by
  simp only [run_lexer_scanner_token_1, isWord_eq, some_bind', isNum]
  cases isWd c <;> simp

/-! ### runs of bytes -/
/-- where a run of bytes of a kind ends -/
def runE (s : ByteArray) (f : Int → Bool) : Nat → Nat → Nat
 | 0, i => i
 | k + 1, i => if i < s.size then (if f (bt s i) = true then runE s f k (i + 1) else i) else i
theorem runE_le {s : ByteArray} {f : Int → Bool} : ∀ (k i : Nat), i ≤ s.size → i ≤ runE s f k i ∧ runE s f k i ≤ s.size
 | 0, i, h => ⟨Nat.le_refl _, h⟩
 | k + 1, i, h => by
   unfold runE
   split
   · split
     · have := runE_le (s := s) (f := f) k (i + 1) (by omega); omega
     · exact ⟨Nat.le_refl _, h⟩
   · exact ⟨Nat.le_refl _, h⟩
theorem dec_lo {s : ByteArray} {i : Nat} (h : i < s.size) (h1 : bt s i < 128) : Utf8.decode s i = ((bt s i).toNat, 1) := by
  have e : ((s[i]'h).toNat : Int) = bt s i := by
    unfold bt
    rw [List.getD, List.getElem?_eq_getElem (by rw [sizeL]; exact h)]
    simp [ByteArray.getElem_eq_getElem_data]
  rw [decode_ascii s i h (by omega)]
  congr 1; omega
theorem dec_hi {s : ByteArray} {i : Nat} (h : i < s.size) (h1 : 128 ≤ bt s i) : 126 < (Utf8.decode s i).1 := by
  have e : ((s.get! i).toNat : Int) = bt s i := by
    unfold bt
    rw [List.getD, List.getElem?_eq_getElem (by rw [sizeL]; exact h)]
    have h' : i < s.data.size := h
    show ((s.data[i]!).toNat : Int) = _
    rw [getElem!_pos s.data i h']
    simp
  unfold Utf8.decode
  simp only [Nat.add_zero]
  rw [if_neg (by omega)]
  repeat' split
  all_goals first | (simp only; omega) | (simp only [Utf8.runeError]; decide) | skip
  all_goals simp_all
  all_goals omega

theorem wr8 {c : Int} (h0 : 0 ≤ c) (h1 : c < 256) : IntKind.wrap .u8 c = c := wrap_u8' h0 h1
theorem isWd_hi {c : Int} (h : 128 ≤ c) : isWd c = false := by
  have e1 : (c == 95) = false := by simp; omega
  simp [isWd, isLet, isDig, isCap, e1]; omega
theorem isNum_hi {c : Int} (h : 128 ≤ c) : isNum c = false := by
  have e1 : (c == 39) = false := by simp; omega
  simp [isNum, isWd_hi h, e1]
theorem run1_eq {t : ByteArray} {p : Nat} (h : p < t.size) : run_lexer_scanner_run_1 (.start ((Utf8.decode t p).1 : Int)) = some ((!isWd (bt t p), ()), (((), ()), ())) := by
  rw [run_lexer_scanner_run_1]
  have b0 := bt_0 t p
  rcases Int.lt_or_le (bt t p) 128 with h1 | h1
  · rw [dec_lo h h1]
    simp only
    rw [Int.toNat_of_nonneg b0]
    by_cases h2 : bt t p = 127
    · rw [h2]; rfl
    · rw [if_neg (by simp; omega), wr8 b0 (by omega), isWord_eq]
      rfl
  · have h2 := dec_hi h h1
    have h3 := isWd_hi h1
    rw [if_pos (by simp; omega), h3]
    rfl
theorem indexFunc_eq {t : ByteArray} : ∀ (k p : Nat), p ≤ t.size → t.size ≤ p + k →
    run_strings_indexFunc (.p52 true t p) = some ((if runE t isWd k p < t.size then (runE t isWd k p : Int) else -1, ()), (((), ()), ()))
 | 0, p, h1, h2 => by
   rw [run_strings_indexFunc, if_neg (by simp; omega), if_neg (by unfold runE; omega)]
 | k + 1, p, h1, h2 => by
   rw [run_strings_indexFunc]
   unfold runE
   by_cases hp : p < t.size
   · rw [if_pos (by simpa using hp), run1_eq hp, if_pos hp]
     simp only [some_bind']
     by_cases hw : isWd (bt t p) = true
     · have hlo : bt t p < 128 := by
         rcases Int.lt_or_le (bt t p) 128 with h | h
         · exact h
         · rw [isWd_hi h] at hw; cases hw
       rw [if_neg (by simp [hw]), if_pos hw, dec_lo hp hlo]
       exact indexFunc_eq k (p + 1) (by omega) (by omega)
     · rw [if_pos (by simp at hw; simp [hw]), if_neg hw, if_pos hp]
   · rw [if_neg (by simpa using hp), if_neg hp, if_neg (by omega)]
theorem runE_ext {s : ByteArray} {f : Int → Bool} {i : Nat} (hi : i ≤ s.size) : ∀ (k p : Nat), i + p ≤ s.size → i + runE (s.extract i s.size) f k p = runE s f k (i + p)
 | 0, p, h => rfl
 | k + 1, p, h => by
   unfold runE
   rw [size_ext s hi (Nat.le_refl _)]
   by_cases hp : i + p < s.size
   · rw [if_pos (by omega), if_pos hp, bt_ext s (Nat.le_refl _) hp]
     split
     · rw [runE_ext hi k (p + 1) (by omega)]; rfl
     · rfl
   · rw [if_neg (by omega), if_neg hp]
theorem ext_ext (s : ByteArray) {i j : Nat} (hi : i ≤ s.size) (hj : i + j ≤ s.size) : (s.extract i s.size).extract 0 j = s.extract i (i + j) := by
  have e := size_ext s hi (Nat.le_refl _)
  refine ext_bt ?_ fun n hn => ?_
  · rw [size_ext _ (Nat.zero_le _) (by omega), size_ext s (by omega) hj]; omega
  · rw [size_ext _ (Nat.zero_le _) (by omega)] at hn
    rw [bt_ext _ (by omega) (by omega), Nat.zero_add, bt_ext s (Nat.le_refl _) (by omega), bt_ext s hj (by omega)]
/-- the run from i on -/
def runT (s : ByteArray) (f : Int → Bool) (i : Nat) : ByteArray := s.extract i (runE s f (s.size - i) i)
theorem runT_size {s : ByteArray} {f : Int → Bool} {i : Nat} (hi : i ≤ s.size) : (runT s f i).size = runE s f (s.size - i) i - i := by
  have := runE_le (s := s) (f := f) (s.size - i) i hi
  exact size_ext s this.1 this.2
theorem run_eq {s : ByteArray} {i : Nat} (hi : i ≤ s.size) (e : Int) : run_lexer_scanner_run (.start s (i : Int) e) = some ((runT s isWd i, ()), sc s (i : Int) e) := by
  rw [run_lexer_scanner_run, span_nat hi (Nat.le_refl _)]
  simp only [some_bind', run_strings_IndexFunc]
  rw [run_strings_indexFunc]
  have hsz := size_ext s hi (Nat.le_refl _)
  rw [indexFunc_eq (s.size - i) 0 (Nat.zero_le _) (by omega)]
  simp only [some_bind']
  have h1 := runE_ext (f := isWd) hi (s.size - i) 0 hi
  have h2 := runE_le (s := s) (f := isWd) (s.size - i) i hi
  rw [Nat.add_zero] at h1
  by_cases h : runE (s.extract i s.size) isWd (s.size - i) 0 < (s.extract i s.size).size
  · rw [if_pos h, if_pos (by simp), show (0 : Int) = ((0 : Nat) : Int) from rfl, span_nat (Nat.zero_le _) (by omega)]
    simp only [some_bind']
    rw [ext_ext s hi (by omega), h1]
    rfl
  · rw [if_neg h, if_neg (by decide)]
    have : runE s isWd (s.size - i) i = s.size := by omega
    unfold runT
    rw [this]
theorem run1n_eq {t : ByteArray} {p : Nat} (h : p < t.size) : run_lexer_scanner_run_1_v1 (.start ((Utf8.decode t p).1 : Int)) = some ((!isNum (bt t p), ()), (((), ()), ())) := by
  rw [run_lexer_scanner_run_1_v1]
  have b0 := bt_0 t p
  rcases Int.lt_or_le (bt t p) 128 with h1 | h1
  · rw [dec_lo h h1]
    simp only
    rw [Int.toNat_of_nonneg b0]
    by_cases h2 : bt t p = 127
    · rw [h2]; rfl
    · rw [if_neg (by simp; omega), wr8 b0 (by omega), token1_eq]
      rfl
  · have h2 := dec_hi h h1
    have h3 := isNum_hi h1
    rw [if_pos (by simp; omega), h3]
    rfl
theorem indexFuncn_eq {t : ByteArray} : ∀ (k p : Nat), p ≤ t.size → t.size ≤ p + k →
    run_strings_indexFunc_v1 (.p52 true t p) = some ((if runE t isNum k p < t.size then (runE t isNum k p : Int) else -1, ()), (((), ()), ()))
 | 0, p, h1, h2 => by
   rw [run_strings_indexFunc_v1, if_neg (by simp; omega), if_neg (by unfold runE; omega)]
 | k + 1, p, h1, h2 => by
   rw [run_strings_indexFunc_v1]
   unfold runE
   by_cases hp : p < t.size
   · rw [if_pos (by simpa using hp), run1n_eq hp, if_pos hp]
     simp only [some_bind']
     by_cases hw : isNum (bt t p) = true
     · have hlo : bt t p < 128 := by
         rcases Int.lt_or_le (bt t p) 128 with h | h
         · exact h
         · rw [isNum_hi h] at hw; cases hw
       rw [if_neg (by simp [hw]), if_pos hw, dec_lo hp hlo]
       exact indexFuncn_eq k (p + 1) (by omega) (by omega)
     · rw [if_pos (by simp at hw; simp [hw]), if_neg hw, if_pos hp]
   · rw [if_neg (by simpa using hp), if_neg hp, if_neg (by omega)]
theorem runn_eq {s : ByteArray} {i : Nat} (hi : i ≤ s.size) (e : Int) : run_lexer_scanner_run_v1 (.start s (i : Int) e) = some ((runT s isNum i, ()), sc s (i : Int) e) := by
  rw [run_lexer_scanner_run_v1, span_nat hi (Nat.le_refl _)]
  simp only [some_bind', run_strings_IndexFunc_v1]
  rw [run_strings_indexFunc_v1]
  have hsz := size_ext s hi (Nat.le_refl _)
  rw [indexFuncn_eq (s.size - i) 0 (Nat.zero_le _) (by omega)]
  simp only [some_bind']
  have h1 := runE_ext (f := isNum) hi (s.size - i) 0 hi
  have h2 := runE_le (s := s) (f := isNum) (s.size - i) i hi
  rw [Nat.add_zero] at h1
  by_cases h : runE (s.extract i s.size) isNum (s.size - i) 0 < (s.extract i s.size).size
  · rw [if_pos h, if_pos (by simp), show (0 : Int) = ((0 : Nat) : Int) from rfl, span_nat (Nat.zero_le _) (by omega)]
    simp only [some_bind']
    rw [ext_ext s hi (by omega), h1]
    rfl
  · rw [if_neg h, if_neg (by decide)]
    have : runE s isNum (s.size - i) i = s.size := by omega
    unfold runT
    rw [this]
/-! ### words -/
def kws : List ByteArray := [⟨#[98, 105, 116, 115]⟩, ⟨#[99, 97, 115, 101]⟩, ⟨#[100, 97, 116, 97]⟩, ⟨#[100, 101, 102]⟩, ⟨#[101, 108, 115, 101]⟩, ⟨#[101, 120, 116, 101, 110, 100]⟩, ⟨#[102, 111, 114]⟩, ⟨#[105, 102]⟩, ⟨#[105, 109, 112, 111, 114, 116]⟩, ⟨#[105, 110]⟩, ⟨#[105, 110, 115, 116]⟩, ⟨#[105, 110, 112, 117, 116]⟩, ⟨#[108, 101, 116]⟩, ⟨#[108, 111, 103]⟩, ⟨#[109, 101, 116, 104, 111, 100]⟩, ⟨#[109, 111, 100, 117, 108, 101]⟩, ⟨#[111, 102]⟩, ⟨#[111, 117, 116, 112, 117, 116]⟩, ⟨#[112, 97, 99, 107, 97, 103, 101]⟩, ⟨#[114, 101, 103]⟩, ⟨#[114, 117, 108, 101]⟩, ⟨#[115, 101, 120, 116, 101, 110, 100]⟩, ⟨#[116, 104, 101, 110]⟩, ⟨#[119, 104, 101, 110]⟩, ⟨#[119, 105, 114, 101]⟩]
theorem Keywords_eq : run_lexer_Keywords .start = some ((kws, ()), ()) := by rw [run_lexer_Keywords]; rfl
def isKw (w : ByteArray) : Bool := kws.any fun k => seq w k
theorem sIndex_eq (w : ByteArray) (l : List ByteArray) (hl : l.length < 60000) : ∀ (k i : Nat), i + k = l.length → ∃ r : Int, run_slices_Index_string_string (.p52 l w (l.length : Int) (i : Int)) = some ((r, ()), ()) ∧ decide (0 ≤ r) = (l.drop i).any fun k => seq w k
 | 0, i, h => by
   rw [run_slices_Index_string_string, if_neg (by simp; omega), List.drop_eq_nil_of_le (by omega)]
   exact ⟨-1, rfl, rfl⟩
 | k + 1, i, h => by
   have hi : i < l.length := by omega
   rw [run_slices_Index_string_string, if_pos (by simp; omega), idx_nat, List.getElem?_eq_getElem hi, List.drop_eq_getElem_cons hi]
   simp only [some_bind', List.any_cons]
   by_cases hs : seq w l[i] = true
   · rw [if_pos hs, hs]
     exact ⟨(i : Int), rfl, by simp⟩
   · rw [if_neg hs, wrap_i64 (by omega) (by omega)]
     obtain ⟨r, h1, h2⟩ := sIndex_eq w l hl k (i + 1) (by omega)
     refine ⟨r, h1, ?_⟩
     rw [h2]
     simp at hs
     simp [hs]
theorem IsKeyword_eq (w : ByteArray) : run_lexer_IsKeyword (.start w) = some ((isKw w, ()), ()) := by
  rw [run_lexer_IsKeyword, Keywords_eq]
  simp only [some_bind', run_slices_Contains_string_string]
  rw [run_slices_Index_string_string]
  obtain ⟨r, h1, h2⟩ := sIndex_eq w kws (by decide) kws.length 0 (by omega)
  have h1 : run_slices_Index_string_string (.p52 kws w (kws.length : Int) 0) = some ((r, ()), ()) := h1
  rw [h1]
  simp only [some_bind']
  have : decide (r ≥ 0) = isKw w := h2
  rw [this]
def wordE (s : ByteArray) (i : Nat) : Int × Int :=
  if 16 < (runT s isWd i).size then (0, 4) else if isKw (runT s isWd i) = true then (2, 0) else if isCap (bt s i) = true then (1, 0) else (0, 0)
theorem runT_pos {s : ByteArray} {f : Int → Bool} {i : Nat} (hi : i < s.size) (h : f (bt s i) = true) : 1 ≤ (runT s f i).size ∧ bt (runT s f i) 0 = bt s i := by
  obtain ⟨k, hk⟩ : ∃ k, s.size - i = k + 1 := ⟨s.size - i - 1, by omega⟩
  have h2 := runE_le (s := s) (f := f) k (i + 1) (by omega)
  have h3 : runE s f (s.size - i) i = runE s f k (i + 1) := by
    rw [hk]
    show (if i < s.size then (if f (bt s i) = true then runE s f k (i + 1) else i) else i) = _
    rw [if_pos hi, if_pos h]
  have h4 := runT_size (f := f) (Nat.le_of_lt hi)
  refine ⟨by omega, ?_⟩
  unfold runT
  rw [bt_ext s (by omega) (by omega), Nat.add_zero]
theorem word_eq {s : ByteArray} {i : Nat} (hi : i < s.size) (h : isWd (bt s i) = true) (hs : s.size ≤ 60000) : run_lexer_scanner_word (.start s (i : Int) 0) = some (((wordE s i).1, (runT s isWd i, ())), sc s (i : Int) (wordE s i).2) := by
  rw [run_lexer_scanner_word, run_eq (Nat.le_of_lt hi)]
  simp only [some_bind', sc]
  unfold wordE
  by_cases h1 : 16 < (runT s isWd i).size
  · rw [if_pos (by simp; omega), if_pos h1, fail_ok]
    simp [some_bind', sc]
  · rw [if_neg (by simp; omega), if_neg h1, IsKeyword_eq]
    simp only [some_bind']
    by_cases h2 : isKw (runT s isWd i) = true
    · rw [if_pos h2, if_pos h2]
    · obtain ⟨h3, h4⟩ := runT_pos hi h
      rw [if_neg h2, if_neg h2, show (0 : Int) = ((0 : Nat) : Int) from rfl, sidx_nat (by omega), h4]
      simp only [some_bind', isCapital_eq]
      by_cases h5 : isCap (bt s i) = true
      · rw [if_pos h5, if_pos h5]
      · rw [if_neg h5, if_neg h5]
end Go.Proofs.YtfmkleeneddijaaGreatDoor.Ev.F
