/- Bytes of a text, space and comments: what the scanner comes to. -/
import Derived.Test.YtfmkleeneddijaaGreatDoorF1
import Derived.Test.YtfmkleeneddijaaGreatDoorEvPure
set_option linter.unusedVariables false
set_option linter.unusedSimpArgs false
set_option linter.unnecessarySimpa false
namespace Go.Proofs.YtfmkleeneddijaaGreatDoor.Ev.F
open Go.Proofs.YtfmkleeneddijaaGreatDoor.Ev

/-! ### bytes -/
theorem fits_one {a b : Nat} (by_ : Nat) (h : (a + b) * by_ ≤ 140737488355328) : fits a b by_ = true := Nat.ble_eq_true_of_le h
def bt (s : ByteArray) (i : Nat) : Int := ((s.data.toList.getD i 0).toNat : Int)
theorem sizeL (s : ByteArray) : s.data.toList.length = s.size := by rw [Array.length_toList]; rfl
theorem sidx_nat {s : ByteArray} {i : Nat} (h : i < s.size) : sidx s (i : Int) = some (bt s i) := by
  unfold sidx bt
  rw [if_pos (by omega), Int.toNat_natCast, List.getD, List.getElem?_eq_getElem (by rw [sizeL]; exact h)]
  rfl
theorem bt_0 (s : ByteArray) (i : Nat) : 0 ≤ bt s i := by unfold bt; omega
theorem bt_lt (s : ByteArray) (i : Nat) : bt s i < 256 := by
  unfold bt
  have := (s.data.toList.getD i 0).toNat_lt
  omega
theorem span_nat {n i j : Nat} (h1 : i ≤ j) (h2 : j ≤ n) : span n (i : Int) (j : Int) = some (i, j) := by
  unfold span
  rw [if_pos ⟨by omega, by omega, by omega⟩]
  rfl
theorem seq_iff {a b : ByteArray} : seq a b = true ↔ a = b := by
  obtain ⟨⟨a⟩⟩ := a
  obtain ⟨⟨b⟩⟩ := b
  simp [seq]
theorem seq_self (a : ByteArray) : seq a a = true := seq_iff.2 rfl

theorem ext_bt {a b : ByteArray} (h : a.size = b.size) (hb : ∀ i, i < a.size → bt a i = bt b i) : a = b := by
  obtain ⟨⟨a⟩⟩ := a
  obtain ⟨⟨b⟩⟩ := b
  congr 2
  refine List.ext_getElem (by simpa [ByteArray.size] using h) fun i h1 h2 => ?_
  have := hb i (by simpa [ByteArray.size] using h1)
  unfold bt at this
  simp only [List.getD, List.getElem?_eq_getElem h1, List.getElem?_eq_getElem h2, Option.getD_some] at this
  exact UInt8.toNat_inj.1 (by omega)
theorem size_ext (s : ByteArray) {i j : Nat} (h1 : i ≤ j) (h2 : j ≤ s.size) : (s.extract i j).size = j - i := by
  rw [ByteArray.size_extract]; omega
theorem bt_ext (s : ByteArray) {i j k : Nat} (h2 : j ≤ s.size) (hk : i + k < j) : bt (s.extract i j) k = bt s (i + k) := by
  unfold bt
  have h3 : (s.extract i j).data.toList = (s.data.toList.take j).drop i := by
    rw [ByteArray.data_extract, Array.toList_extract, List.extract_eq_take_drop]
    apply List.ext_getElem?
    intro n
    simp only [List.getElem?_take, List.getElem?_drop]
    by_cases hn : n < j - i
    · rw [if_pos hn, if_pos (by omega)]
    · rw [if_neg hn, if_neg (by omega)]
  rw [h3]
  simp only [List.getD, List.getElem?_drop, List.getElem?_take, if_pos hk]

/-- does w stand there -/
def hasW (s : ByteArray) (i : Nat) (w : ByteArray) : Bool := decide (i + w.size ≤ s.size) && seq (s.extract i (i + w.size)) w
theorem hasW_iff {s w : ByteArray} {i : Nat} : hasW s i w = true ↔ i + w.size ≤ s.size ∧ ∀ j, j < w.size → bt s (i + j) = bt w j := by
  unfold hasW
  rw [Bool.and_eq_true, decide_eq_true_eq, seq_iff]
  constructor
  · rintro ⟨h1, h2⟩
    refine ⟨h1, fun j hj => ?_⟩
    have := bt_ext s (i := i) (j := i + w.size) (k := j) h1 (by omega)
    rw [h2] at this
    exact this.symm
  · rintro ⟨h1, h2⟩
    refine ⟨h1, ext_bt (by rw [size_ext s (by omega) h1]; omega) fun j hj => ?_⟩
    rw [size_ext s (by omega) h1] at hj
    rw [bt_ext s h1 (by omega)]
    exact h2 j (by omega)
theorem hasW_two {s : ByteArray} {i : Nat} {a b : UInt8} : hasW s i ⟨#[a, b]⟩ = true ↔ i + 2 ≤ s.size ∧ bt s i = a.toNat ∧ bt s (i + 1) = b.toNat := by
  rw [hasW_iff]
  have e : (⟨#[a, b]⟩ : ByteArray).size = 2 := rfl
  rw [e]
  constructor
  · rintro ⟨h1, h2⟩
    exact ⟨h1, h2 0 (by omega), h2 1 (by omega)⟩
  · rintro ⟨h1, h2, h3⟩
    refine ⟨h1, fun j hj => ?_⟩
    match j, hj with
    | 0, _ => exact h2
    | 1, _ => exact h3

/-! ### kinds of bytes -/
def perm (c : Int) : Bool := c == 9 || (c == 10 || (decide (32 ≤ c) && decide (c ≤ 126)))
def isSp (c : Int) : Bool := c == 9 || (c == 10 || c == 32)
theorem isPermitted_eq (c : Int) : run_lexer_isPermitted (.start c) = some ((perm c, ()), ()) := by
  simp only [run_lexer_isPermitted, perm]
  by_cases h1 : c = 9
  · simp [h1]
  · by_cases h2 : c = 10
    · simp [h2]
    · have e1 : (c == 9) = false := by simpa using h1
      have e2 : (c == 10) = false := by simpa using h2
      by_cases h3 : 32 ≤ c <;> simp [e1, e2, h3]
theorem IsPermitted_eq (c : Int) : run_ratchetref05_IsPermitted (.start c) = some ((perm c, ()), ()) := by
  simp only [run_ratchetref05_IsPermitted, perm]
  by_cases h1 : c = 9
  · simp [h1]
  · by_cases h2 : c = 10
    · simp [h2]
    · have e1 : (c == 9) = false := by simpa using h1
      have e2 : (c == 10) = false := by simpa using h2
      by_cases h3 : 32 ≤ c <;> simp [e1, e2, h3]
theorem isSpace_eq (c : Int) : run_lexer_isSpace (.start c) = some ((isSp c, ()), ()) := by
  simp only [run_lexer_isSpace, isSp]
  by_cases h1 : c = 9
  · simp [h1]
  · have e1 : (c == 9) = false := by simpa using h1
    by_cases h2 : c = 10
    · simp [h2]
    · have e2 : (c == 10) = false := by simpa using h2
      simp [e1, e2]

/-! ### the scanner -/
abbrev sc (s : ByteArray) (a e : Int) : (ByteArray × (Int × (Int × Unit))) × Unit := ((s, (a, (e, ()))), ())
theorem ended_eq (s : ByteArray) (a e : Int) : run_lexer_scanner_ended (.start s a e) = some ((e != 0 || a == (s.size : Int), ()), sc s a e) := by
  simp only [run_lexer_scanner_ended]
  by_cases h : e = 0 <;> simp [h]
theorem ended_in {s : ByteArray} {i : Nat} (h : i < s.size) : run_lexer_scanner_ended (.start s (i : Int) 0) = some ((false, ()), sc s (i : Int) 0) := by
  rw [ended_eq]
  have : ((i : Int) == (s.size : Int)) = false := by simp; omega
  simp [this]
theorem ended_out {s : ByteArray} : run_lexer_scanner_ended (.start s (s.size : Int) 0) = some ((true, ()), sc s (s.size : Int) 0) := by
  rw [ended_eq]; simp
theorem ended_err {s : ByteArray} {a e : Int} (h : e ≠ 0) : run_lexer_scanner_ended (.start s a e) = some ((true, ()), sc s a e) := by
  rw [ended_eq]; simp [h]
theorem hasPrefix_eq (s w : ByteArray) : run_strings_HasPrefix (.start s w) = some ((hasW s 0 w, ()), ()) := by
  simp only [run_strings_HasPrefix, run_internal_stringslite_HasPrefix]
  by_cases h : w.size ≤ s.size
  · rw [if_pos (by simp; omega), show (0 : Int) = ((0 : Nat) : Int) from rfl, span_nat (by omega) h]
    simp [some_bind', hasW, h]
  · rw [if_neg (by simp; omega)]
    simp [some_bind', hasW, h]
theorem has_eq {s w : ByteArray} {i : Nat} (h : i ≤ s.size) (e : Int) : run_lexer_scanner_has (.start w s (i : Int) e) = some ((hasW s i w, ()), sc s (i : Int) e) := by
  simp only [run_lexer_scanner_has]
  rw [span_nat h (Nat.le_refl _)]
  simp only [some_bind', hasPrefix_eq]
  have : hasW (s.extract i s.size) 0 w = hasW s i w := by
    rw [Bool.eq_iff_iff, hasW_iff, hasW_iff, size_ext s h (Nat.le_refl _)]
    constructor
    · rintro ⟨h1, h2⟩
      refine ⟨by omega, fun j hj => ?_⟩
      rw [← h2 j hj, Nat.zero_add, bt_ext s (Nat.le_refl _) (by omega)]
    · rintro ⟨h1, h2⟩
      refine ⟨by omega, fun j hj => ?_⟩
      rw [← h2 j hj, Nat.zero_add, bt_ext s (Nat.le_refl _) (by omega)]
  rw [this]
theorem rhas_eq {s w : ByteArray} {i : Nat} (h : i ≤ s.size) (hs : s.size ≤ 60000) (hw : w.size ≤ 100) : run_ratchetref05_has (.start s (i : Int) w) = some ((hasW s i w, ()), ()) := by
  simp only [run_ratchetref05_has]
  rw [wrap_i64 (by omega) (by omega)]
  by_cases h1 : i + w.size ≤ s.size
  · rw [if_pos (by simp; omega), show ((i : Int) + (w.size : Int)) = ((i + w.size : Nat) : Int) by omega, span_nat (by omega) h1]
    simp [some_bind', hasW, h1]
  · rw [if_neg (by simp; omega)]
    simp [hasW, h1]
theorem fail_ok (s : ByteArray) (a at_ c : Int) : run_lexer_scanner_fail (.start at_ c s a 0) = some ((), sc s at_ c) := by
  simp [run_lexer_scanner_fail]
theorem fail_err {s : ByteArray} {a at_ c e : Int} (h : e ≠ 0) : run_lexer_scanner_fail (.start at_ c s a e) = some ((), sc s a e) := by
  simp [run_lexer_scanner_fail, h]
theorem step_eq {s : ByteArray} {i : Nat} (h : i < s.size) (hs : s.size ≤ 60000) : run_lexer_scanner_step (.start s (i : Int) 0) = some ((), if perm (bt s i) = true then sc s ((i + 1 : Nat) : Int) 0 else sc s (i : Int) 15) := by
  simp only [run_lexer_scanner_step]
  rw [sidx_nat h]
  simp only [some_bind', isPermitted_eq, fail_ok]
  by_cases hp : perm (bt s i) = true
  · rw [hp, wrap_i64 (by omega) (by omega)]
    simp [sc]
  · simp only [Bool.not_eq_true] at hp
    simp [hp, sc]

/-! ### comments -/
/-- the end of a line, or the first byte that is not permitted -/
def lineE (s : ByteArray) : Nat → Nat → Nat × Int
 | 0, i => (i, 0)
 | k + 1, i => if i < s.size then (if bt s i = 10 then (i, 0) else if perm (bt s i) = true then lineE s k (i + 1) else (i, 15)) else (i, 0)
abbrev open2 : ByteArray := ⟨#[47, 42]⟩
abbrev end2 : ByteArray := ⟨#[42, 47]⟩
abbrev line2 : ByteArray := ⟨#[47, 47]⟩
/-- the end of a comment with others in it -/
def nestE (s : ByteArray) (from_ : Nat) : Nat → Nat → Nat → Nat × Int
 | 0, _, _ => (from_, 21)
 | k + 1, i, d =>
   if i < s.size then
     if hasW s i open2 = true then nestE s from_ k (i + 2) (d + 1)
     else if hasW s i end2 = true then (if d = 1 then (i + 2, 0) else nestE s from_ k (i + 2) (d - 1))
     else if perm (bt s i) = true then nestE s from_ k (i + 1) d else (i, 15)
   else (from_, 21)
def comE (s : ByteArray) (i : Nat) : Option (Nat × Int) :=
  if hasW s i line2 = true then some (lineE s (s.size - i) i)
  else if hasW s i open2 = true then some (nestE s i (s.size - i) (i + 2) 1) else none

theorem line_eq {s : ByteArray} (hs : s.size ≤ 60000) : ∀ (k i : Nat), i ≤ s.size → s.size ≤ i + k → run_lexer_scanner_comment (.p200 s (i : Int) 0) = some ((true, ()), sc s ((lineE s k i).1 : Int) (lineE s k i).2)
 | 0, i, h1, h2 => by
   obtain rfl : i = s.size := by omega
   rw [run_lexer_scanner_comment, ended_out]
   simp [some_bind', lineE, sc]
 | k + 1, i, h1, h2 => by
   rw [run_lexer_scanner_comment]
   by_cases hi : i < s.size
   · rw [ended_in hi]
     simp only [some_bind', sc, sidx_nat hi, lineE, if_pos hi]
     by_cases hb : bt s i = 10
     · simp [hb]
     · simp only [step_eq hi hs, some_bind', if_neg hb]
       by_cases hp : perm (bt s i) = true
       · simp only [hp, if_true]
         have := line_eq hs k (i + 1) (by omega) (by omega)
         simp [hb, sc] at this ⊢
         exact this
       · simp only [hp, if_false, Bool.false_eq_true]
         have h3 : run_lexer_scanner_comment (.p200 s (i : Int) 15) = some ((true, ()), sc s (i : Int) 15) := by
           rw [run_lexer_scanner_comment, ended_err (by decide)]
           simp [some_bind', sc]
         simp [hb, sc] at h3 ⊢
         exact h3
   · obtain rfl : i = s.size := by omega
     rw [ended_out]
     simp [some_bind', lineE, sc]

theorem nest_eq {s : ByteArray} (hs : s.size ≤ 60000) (from_ : Nat) : ∀ (k i d : Nat), 1 ≤ d → d ≤ i → i ≤ s.size → s.size ≤ i + k →
    run_lexer_scanner_nested (.p24 (from_ : Int) (d : Int) s (i : Int) 0) = some ((), sc s ((nestE s from_ (k + 1) i d).1 : Int) (nestE s from_ (k + 1) i d).2) := by
  intro k
  induction k with
  | zero =>
    intro i d hd hdi h1 h2
    obtain rfl : i = s.size := by omega
    rw [run_lexer_scanner_nested, ended_out]
    simp [some_bind', fail_ok, nestE, sc]
  | succ k ih =>
    intro i d hd hdi h1 h2
    rw [run_lexer_scanner_nested]
    by_cases hi : i < s.size
    · rw [ended_in hi]
      simp only [some_bind', sc, has_eq (Nat.le_of_lt hi)]
      conv => rhs; unfold nestE
      rw [if_pos hi]
      have back : ∀ (j d' : Nat), 1 ≤ d' → d' ≤ j → j ≤ s.size → s.size ≤ j + k → run_lexer_scanner_nested (.p197 (from_ : Int) (d' : Int) s (j : Int) 0) = some ((), sc s ((nestE s from_ (k + 1) j d').1 : Int) (nestE s from_ (k + 1) j d').2) := by
        intro j d' h3 h4 h5 h6
        rw [run_lexer_scanner_nested, if_neg (by simp; omega)]
        exact ih j d' h3 h4 h5 h6
      by_cases ho : hasW s i open2 = true
      · have h3 := (hasW_two.1 ho).1
        simp only [ho, if_true, Bool.not_false]
        rw [wrap_i64 (by omega) (by omega), wrap_i64 (by omega) (by omega)]
        have := back (i + 2) (d + 1) (by omega) (by omega) (by omega) (by omega)
        simpa [sc] using this
      · simp only [Bool.not_eq_true] at ho
        simp only [ho, Bool.not_false, if_true, Bool.false_eq_true, if_false]
        by_cases he : hasW s i end2 = true
        · have h3 := (hasW_two.1 he).1
          simp only [he, if_true]
          rw [wrap_i64 (by omega) (by omega), wrap_i64 (by omega) (by omega)]
          by_cases hd1 : d = 1
          · subst hd1
            rw [run_lexer_scanner_nested]
            simp [sc]
          · have := back (i + 2) (d - 1) (by omega) (by omega) (by omega) (by omega)
            rw [if_neg hd1]
            have e : ((d : Int) - 1) = ((d - 1 : Nat) : Int) := by omega
            rw [e]
            simpa [sc] using this
        · simp only [Bool.not_eq_true] at he
          simp only [he, Bool.false_eq_true, if_false, step_eq hi hs, some_bind']
          by_cases hp : perm (bt s i) = true
          · have := back (i + 1) d (by omega) (by omega) (by omega) (by omega)
            simpa [hp, sc] using this
          · simp only [Bool.not_eq_true] at hp
            simp only [hp, Bool.false_eq_true, if_false, sc]
            rw [run_lexer_scanner_nested, if_neg (by simp; omega), run_lexer_scanner_nested, ended_err (by decide)]
            simp [some_bind', fail_err, sc]
    · obtain rfl : i = s.size := by omega
      rw [ended_out]
      simp [some_bind', fail_ok, nestE, sc]

theorem lineE_succ (s : ByteArray) (k i : Nat) : lineE s (k + 1) i = if i < s.size then (if bt s i = 10 then (i, 0) else if perm (bt s i) = true then lineE s k (i + 1) else (i, 15)) else (i, 0) := rfl
theorem lineE_le {s : ByteArray} : ∀ (k i : Nat), i ≤ s.size → i ≤ (lineE s k i).1 ∧ (lineE s k i).1 ≤ s.size
 | 0, i, h => by simp [lineE, h]
 | k + 1, i, h => by
   unfold lineE
   by_cases hi : i < s.size
   · rw [if_pos hi]
     split
     · exact ⟨Nat.le_refl _, h⟩
     · split
       · have := lineE_le (s := s) k (i + 1) (by omega); omega
       · exact ⟨Nat.le_refl _, h⟩
   · rw [if_neg hi]; exact ⟨Nat.le_refl _, h⟩
theorem nestE_le {s : ByteArray} {f : Nat} : ∀ (k i d : Nat), (nestE s f k i d).2 = 0 → i < (nestE s f k i d).1 ∧ (nestE s f k i d).1 ≤ s.size
 | 0, i, d, h => by simp [nestE] at h
 | k + 1, i, d, h => by
   unfold nestE at h ⊢
   by_cases hi : i < s.size
   · rw [if_pos hi] at h ⊢
     by_cases ho : hasW s i open2 = true
     · rw [if_pos ho] at h ⊢
       have := nestE_le k (i + 2) (d + 1) h; omega
     · rw [if_neg ho] at h ⊢
       by_cases he : hasW s i end2 = true
       · rw [if_pos he] at h ⊢
         have h3 := (hasW_two.1 he).1
         by_cases hd : d = 1
         · rw [if_pos hd]; exact ⟨by simp, h3⟩
         · rw [if_neg hd] at h ⊢
           have := nestE_le k (i + 2) (d - 1) h; omega
       · rw [if_neg he] at h ⊢
         by_cases hp : perm (bt s i) = true
         · rw [if_pos hp] at h ⊢
           have := nestE_le k (i + 1) d h; omega
         · rw [if_neg hp] at h; simp at h
   · rw [if_neg hi] at h; simp at h
theorem nestE_err {s : ByteArray} {f : Nat} (hf : f ≤ s.size) : ∀ (k i d : Nat), i ≤ s.size → (nestE s f k i d).1 ≤ s.size
 | 0, i, d, h => hf
 | k + 1, i, d, h => by
   unfold nestE
   by_cases hi : i < s.size
   · rw [if_pos hi]
     by_cases ho : hasW s i open2 = true
     · rw [if_pos ho]; exact nestE_err hf k _ _ (hasW_two.1 ho).1
     · rw [if_neg ho]
       by_cases he : hasW s i end2 = true
       · rw [if_pos he]
         have h3 := (hasW_two.1 he).1
         by_cases hd : d = 1
         · rw [if_pos hd]; exact h3
         · rw [if_neg hd]; exact nestE_err hf k _ _ h3
       · rw [if_neg he]
         by_cases hp : perm (bt s i) = true
         · rw [if_pos hp]; exact nestE_err hf k _ _ (by omega)
         · rw [if_neg hp]; exact h
   · rw [if_neg hi]; exact hf
theorem comE_le {s : ByteArray} {i p : Nat} {c : Int} (h : comE s i = some (p, c)) : p ≤ s.size ∧ (c = 0 → i + 2 ≤ p) := by
  unfold comE at h
  split at h
  · rename_i hl
    obtain ⟨h1, h2, h3⟩ := hasW_two.1 hl
    obtain ⟨rfl, rfl⟩ := Prod.mk.inj (Option.some.inj h)
    refine ⟨(lineE_le _ i (by omega)).2, fun _ => ?_⟩
    obtain ⟨k, hk⟩ : ∃ k, s.size - i = k + 2 := ⟨s.size - i - 2, by omega⟩
    rw [hk]
    have e2 : (bt s i) = 47 := h2
    have e3 : (bt s (i + 1)) = 47 := h3
    have a1 : lineE s (k + 2) i = lineE s k (i + 1 + 1) := by
      rw [lineE_succ, if_pos (by omega), e2, if_neg (by decide), if_pos (by decide), lineE_succ, if_pos (by omega), e3, if_neg (by decide), if_pos (by decide)]
    rw [a1]
    exact (lineE_le k (i + 1 + 1) (by omega)).1
  · split at h
    · rename_i ho
      obtain ⟨h1, h2, h3⟩ := hasW_two.1 ho
      obtain ⟨rfl, rfl⟩ := Prod.mk.inj (Option.some.inj h)
      refine ⟨nestE_err (by omega) _ _ _ h1, fun hc => ?_⟩
      have := nestE_le _ _ _ hc; omega
    · cases h

theorem comment_eq {s : ByteArray} (hs : s.size ≤ 60000) {i : Nat} (hi : i ≤ s.size) : run_lexer_scanner_comment (.start s (i : Int) 0) =
    some (((comE s i).isSome, ()), match comE s i with | none => sc s (i : Int) 0 | some (p, c) => sc s (p : Int) c) := by
  rw [run_lexer_scanner_comment, has_eq hi]
  simp only [some_bind', sc]
  unfold comE
  by_cases hl : hasW s i line2 = true
  · rw [if_pos hl, if_pos hl, line_eq hs (s.size - i) i hi (by omega)]
    simp [sc]
  · rw [if_neg hl, if_neg hl, has_eq hi]
    simp only [some_bind', sc]
    by_cases ho : hasW s i open2 = true
    · rw [if_pos ho, if_pos ho]
      have h1 := (hasW_two.1 ho).1
      rw [run_lexer_scanner_nested, run_lexer_scanner_nested, ended_in (by omega)]
      simp only [some_bind', sc, has_eq hi, ho, Bool.not_false, if_true]
      rw [wrap_i64 (by omega) (by omega), wrap_i64 (by omega) (by omega), run_lexer_scanner_nested, if_neg (by decide)]
      obtain ⟨k, hk⟩ : ∃ k, s.size - i = k + 1 := ⟨s.size - i - 1, by omega⟩
      have := nest_eq hs i k (i + 2) 1 (by omega) (by omega) (by omega) (by omega)
      rw [hk]
      simp only [Int.natCast_add] at this ⊢
      simp [sc] at this ⊢
      rw [this]
      simp [some_bind']
    · rw [if_neg ho, if_neg ho]
      simp [sc]

/-! ### the reference's comments -/
theorem rline_eq {s : ByteArray} (hs : s.size ≤ 60000) (at_ : Nat) : ∀ (k i : Nat), i ≤ s.size → s.size ≤ i + k →
    run_ratchetref05_comment (.p424 s (at_ : Int) (i : Int) 0 0) = some (if (lineE s k i).2 = 0 then ((((lineE s k i).1 : Int), ((0, (0, ())), ())), ()) else (((at_ : Int), ((((lineE s k i).1 : Int), ((lineE s k i).2, ())), ())), ()))
 | 0, i, h1, h2 => by
   obtain rfl : i = s.size := by omega
   rw [run_ratchetref05_comment]
   simp [lineE]
 | k + 1, i, h1, h2 => by
   rw [run_ratchetref05_comment]
   by_cases hi : i < s.size
   · rw [if_pos (by simp; omega), sidx_nat hi]
     simp only [some_bind', lineE, if_pos hi]
     by_cases hb : bt s i = 10
     · simp [hb]
     · rw [if_pos (by simpa using hb), if_neg hb, run_ratchetref05_comment, sidx_nat hi]
       simp only [some_bind', IsPermitted_eq]
       by_cases hp : perm (bt s i) = true
       · rw [hp, if_neg (by decide), wrap_i64 (by omega) (by omega)]
         have := rline_eq hs at_ k (i + 1) (by omega) (by omega)
         simpa using this
       · simp only [Bool.not_eq_true] at hp
         simp [hp]
   · obtain rfl : i = s.size := by omega
     simp [lineE]
theorem rnest_eq {s : ByteArray} (hs : s.size ≤ 60000) (f : Nat) : ∀ (k i d : Nat), 1 ≤ d → d ≤ i → i ≤ s.size → s.size ≤ i + k →
    run_ratchetref05_comment (.p248 s (f : Int) (d : Int) (i : Int) 0 0) = some (if (nestE s f (k + 1) i d).2 = 0 then ((((nestE s f (k + 1) i d).1 : Int), ((0, (0, ())), ())), ()) else (((f : Int), ((((nestE s f (k + 1) i d).1 : Int), ((nestE s f (k + 1) i d).2, ())), ())), ())) := by
  intro k
  induction k with
  | zero =>
    intro i d hd hdi h1 h2
    obtain rfl : i = s.size := by omega
    rw [run_ratchetref05_comment, if_pos (by simp; omega), if_pos (by simp)]
    simp [nestE]
  | succ k ih =>
    intro i d hd hdi h1 h2
    rw [run_ratchetref05_comment, if_pos (by simp; omega)]
    by_cases hi : i < s.size
    · rw [if_neg (by simp; omega), sidx_nat hi]
      simp only [some_bind', IsPermitted_eq]
      conv => rhs; unfold nestE
      rw [if_pos hi]
      by_cases ho : hasW s i open2 = true
      · obtain ⟨h3, h4, _⟩ := hasW_two.1 ho
        have hp : perm (bt s i) = true := by rw [h4]; decide
        rw [if_neg (by simp [hp]), rhas_eq h1 hs (by decide), if_pos ho]
        simp only [some_bind', ho, if_true]
        rw [wrap_i64 (by omega) (by omega), wrap_i64 (by omega) (by omega)]
        have := ih (i + 2) (d + 1) (by omega) (by omega) (by omega) (by omega)
        simpa using this
      · rw [if_neg ho]
        by_cases he : hasW s i end2 = true
        · obtain ⟨h3, h4, _⟩ := hasW_two.1 he
          have hp : perm (bt s i) = true := by rw [h4]; decide
          rw [if_neg (by simp [hp]), rhas_eq h1 hs (by decide), if_pos he]
          simp only [some_bind', ho, Bool.false_eq_true, if_false]
          rw [rhas_eq h1 hs (by decide)]
          simp only [some_bind', he, if_true]
          rw [wrap_i64 (by omega) (by omega), wrap_i64 (by omega) (by omega)]
          by_cases hd1 : d = 1
          · subst hd1
            rw [run_ratchetref05_comment]
            simp
          · have := ih (i + 2) (d - 1) (by omega) (by omega) (by omega) (by omega)
            rw [if_neg hd1]
            have e : ((d : Int) - 1) = ((d - 1 : Nat) : Int) := by omega
            rw [e]
            simpa using this
        · rw [if_neg he]
          by_cases hp : perm (bt s i) = true
          · rw [if_neg (by simp [hp]), rhas_eq h1 hs (by decide), if_pos hp]
            simp only [some_bind', ho, Bool.false_eq_true, if_false]
            rw [rhas_eq h1 hs (by decide)]
            simp only [some_bind', he, Bool.false_eq_true, if_false]
            rw [wrap_i64 (by omega) (by omega)]
            have := ih (i + 1) d (by omega) (by omega) (by omega) (by omega)
            simpa using this
          · rw [if_pos (by simpa using hp), if_neg hp]
            simp
    · obtain rfl : i = s.size := by omega
      rw [if_pos (by simp)]
      simp [nestE]
/-- what the reference says of a comment -/
def rcm (i : Nat) : Option (Nat × Int) → (Int × (Int × (Int × Unit)) × Unit) × Unit
 | none => (((i : Int), ((0, (0, ())), ())), ())
 | some (p, c) => if c = 0 then (((p : Int), ((0, (0, ())), ())), ()) else (((i : Int), (((p : Int), (c, ())), ())), ())
theorem rcomment_eq {s : ByteArray} (hs : s.size ≤ 60000) {i : Nat} (hi : i ≤ s.size) : run_ratchetref05_comment (.start s (i : Int)) = some (rcm i (comE s i)) := by
  rw [run_ratchetref05_comment, rhas_eq hi hs (by decide)]
  simp only [some_bind']
  unfold comE
  by_cases hl : hasW s i line2 = true
  · rw [if_pos hl, if_pos hl, rline_eq hs i (s.size - i) i hi (by omega)]
    rfl
  · rw [if_neg hl, if_neg hl, rhas_eq hi hs (by decide)]
    simp only [some_bind']
    by_cases ho : hasW s i open2 = true
    · rw [if_neg (by simp [ho]), if_pos ho, wrap_i64 (by omega) (by omega)]
      have h1 := (hasW_two.1 ho).1
      obtain ⟨k, hk⟩ : ∃ k, s.size - i = k + 1 := ⟨s.size - i - 1, by omega⟩
      have := rnest_eq hs i k (i + 2) 1 (by omega) (by omega) (by omega) (by omega)
      rw [hk]
      simp only [rcm]
      simpa using this
    · rw [if_pos (by simpa using ho), if_neg ho]
      rfl
end Go.Proofs.YtfmkleeneddijaaGreatDoor.Ev.F
