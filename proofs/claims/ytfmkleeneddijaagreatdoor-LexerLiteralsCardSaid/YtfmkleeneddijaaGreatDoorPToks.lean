/- All tokens of a text by the reference; the next token; a token checked. -/
import Derived.Test.YtfmkleeneddijaaGreatDoorPRTok
import Derived.Test.YtfmkleeneddijaaGreatDoorF2
set_option linter.unusedVariables false
set_option linter.unusedSimpArgs false
set_option linter.unnecessarySimpa false
namespace Go.Proofs.YtfmkleeneddijaaGreatDoor.Ev.F
open Go.Proofs.YtfmkleeneddijaaGreatDoor.Ev

/-- the reference's answer of tokens -/
abbrev rtoks (r : List api_LexerToken × Nat × Int) : R_ratchetref05_Tokens := (((), (((r.2.1 : Int), (r.2.2, ())), ())), (r.1, ()))
theorem tk_eta (t : api_LexerToken) : (⟨t.Kind, t.At, t.Text, t.Value, t.Width⟩ : api_LexerToken) = t := rfl
theorem rtoks_loop {s : ByteArray} (hs : s.size ≤ 3999) : ∀ (k i : Nat) (l : List api_LexerToken), i ≤ s.size → s.size < i + k → l.length ≤ i →
    run_ratchetref05_Tokens (.p504 s (i : Int) 0 0 l 0 0) = some (rtoks (toksE s k i l)) := by
  intro k
  induction k with
  | zero => intro i l h1 h2; omega
  | succ k ih =>
    intro i l h1 h2 hl
    have hsk := skipE_le (s := s) (s.size - i + 1) i h1
    change (skipT s i).1 ≤ s.size ∧ ((skipT s i).2 = 0 → i ≤ (skipT s i).1) at hsk
    obtain ⟨x, y, hx, hx0, hx1⟩ := rskip_eq (s := s) (by omega) h1
    rw [run_ratchetref05_Tokens, toksE_succ, hx]
    simp only [some_bind']
    by_cases h0 : (skipT s i).2 = 0
    · obtain ⟨rfl, rfl⟩ := hx0 h0
      rw [if_pos h0, if_neg (by simpa using h0)]
      by_cases he : (skipT s i).1 = s.size
      · rw [if_pos he, he, if_pos (by simp), if_neg (by decide)]
        rfl
      · have hp : (skipT s i).1 < s.size := by omega
        have hge := hsk.2 h0
        obtain ⟨ht1, ht2⟩ := tokE_text hp
        rw [if_neg (by simp; omega), if_neg he, rtoken_eq (by omega) hp]
        simp only [some_bind']
        by_cases h3 : (tokE s (skipT s i).1).2 = 0
        · have h4 := tokE_pos hp h3
          rw [if_pos h3]
          unfold rtk
          rw [if_pos h3, if_neg (show ¬ ((0 : Int) != 0) = true by decide), if_pos (by simp; omega), if_pos (fits_one 48 (by simp; omega))]
          simp only [tkR, tk_eta]
          rw [wrap_i64 (x := ((skipT s i).1 : Int) + (((tokE s (skipT s i).1).1.Text.size : Nat) : Int)) (by omega) (by omega), show ((skipT s i).1 : Int) + (((tokE s (skipT s i).1).1.Text.size : Nat) : Int) = (((skipT s i).1 + (tokE s (skipT s i).1).1.Text.size : Nat) : Int) by omega]
          exact ih _ _ ht2 (by omega) (by simp; omega)
        · rw [if_neg h3]
          unfold rtk
          rw [if_neg h3]
          simp only
          rw [if_pos (by simpa using h3)]
    · rw [if_neg h0, if_pos (by simpa using h0), hx1 h0]
theorem rTextErr_eq {s : ByteArray} (hs : s.size ≤ 60000) : run_ratchetref05_TextErr (.start s) = some ((0, ()), ()) := by
  rw [run_ratchetref05_TextErr, if_neg (by simp; omega)]
theorem textErr_eq {s : ByteArray} (hs : s.size ≤ 60000) : run_lexer_textErr (.start s) = some ((0, ()), ()) := by
  rw [run_lexer_textErr, if_neg (by simp; omega)]
theorem rTokens_eq {s : ByteArray} (hs : s.size ≤ 3999) : run_ratchetref05_Tokens (.start s) = some (rtoks (toksT s)) := by
  rw [run_ratchetref05_Tokens, rTextErr_eq (by omega)]
  simp only [some_bind']
  rw [if_neg (by decide)]
  exact rtoks_loop hs (s.size + 1) 0 [] (Nat.zero_le _) (by omega) (Nat.le_refl _)

/-! ### the next token -/
def noTk : api_LexerToken := ⟨0, 0, ⟨#[]⟩, 0, 0⟩
noncomputable def nextE (s : ByteArray) (i : Nat) : api_LexerToken × Int :=
  if (skipT s i).2 = 0 then (if (skipT s i).1 = s.size then (noTk, 12) else if (tokE s (skipT s i).1).2 = 0 then ((tokE s (skipT s i).1).1, 0) else (noTk, (tokE s (skipT s i).1).2)) else (noTk, (skipT s i).2)
theorem NextToken_eq {s : ByteArray} (hs : s.size ≤ 60000) {i : Nat} (hi : i ≤ s.size) : run_lexer_NextToken (.start s (i : Int)) = some ((tkR (nextE s i).1, ((nextE s i).2, ())), ()) := by
  have hsk := skipE_le (s := s) (s.size - i + 1) i hi
  change (skipT s i).1 ≤ s.size ∧ ((skipT s i).2 = 0 → i ≤ (skipT s i).1) at hsk
  rw [run_lexer_NextToken, textErr_eq hs]
  simp only [some_bind', run_lexer_within]
  rw [if_neg (by decide), if_pos (by simp)]
  simp only [some_bind']
  rw [if_neg (by simp; omega), skip_eq hs hi]
  simp only [some_bind', sc]
  unfold nextE
  by_cases h0 : (skipT s i).2 = 0
  · rw [if_pos h0, if_pos (by simpa using h0), h0]
    by_cases he : (skipT s i).1 = s.size
    · rw [if_pos he, he, ended_out]
      simp only [some_bind', if_true]
      rfl
    · have hp : (skipT s i).1 < s.size := by omega
      rw [if_neg he, ended_in hp]
      simp only [some_bind', sc]
      rw [if_neg (by decide), run_lexer_NextToken, if_pos (by decide), token_eq hp hs]
      simp only [some_bind', sc, tkR]
      rw [run_lexer_NextToken]
      by_cases h3 : (tokE s (skipT s i).1).2 = 0
      · rw [if_pos h3, if_neg (by simpa using h3)]
      · rw [if_neg h3, if_pos (by simpa using h3)]
        rfl
  · rw [if_neg h0, if_neg (by simpa using h0), run_lexer_NextToken, if_neg (by simpa using h0), run_lexer_NextToken, if_pos (by simpa using h0)]
    rfl
theorem Next_eq {s : ByteArray} (hs : s.size ≤ 60000) {i : Nat} (hi : i ≤ s.size) : run_ratchetref05_Next (.start s (i : Int)) = some ((tkR (nextE s i).1, ((nextE s i).2, ())), ()) := by
  have hsk := skipE_le (s := s) (s.size - i + 1) i hi
  change (skipT s i).1 ≤ s.size ∧ ((skipT s i).2 = 0 → i ≤ (skipT s i).1) at hsk
  obtain ⟨x, y, hx, hx0, hx1⟩ := rskip_eq hs hi
  rw [run_ratchetref05_Next, rTextErr_eq hs]
  simp only [some_bind', Within_eq]
  rw [if_neg (by decide), if_neg (by simp; omega), hx]
  simp only [some_bind']
  unfold nextE
  by_cases h0 : (skipT s i).2 = 0
  · obtain ⟨rfl, rfl⟩ := hx0 h0
    rw [if_pos h0, if_neg (by simpa using h0)]
    by_cases he : (skipT s i).1 = s.size
    · rw [if_pos he, if_pos (by simp; omega)]
      rfl
    · have hp : (skipT s i).1 < s.size := by omega
      rw [if_neg he, if_neg (by simp; omega), rtoken_eq hs hp]
      simp only [some_bind']
      unfold rtk
      by_cases h3 : (tokE s (skipT s i).1).2 = 0
      · rw [if_pos h3, if_pos h3]
      · rw [if_neg h3, if_neg h3]
        rfl
  · rw [if_neg h0, if_pos (by simpa using h0)]
    rfl
def sameTk (a b : api_LexerToken) : Bool := (a.Kind == b.Kind) && ((a.At == b.At) && ((seq a.Text b.Text) && ((a.Value == b.Value) && ((a.Width == b.Width) && true))))
theorem sameTk_iff {a b : api_LexerToken} : sameTk a b = true ↔ a = b := by
  obtain ⟨a1, a2, a3, a4, a5⟩ := a
  obtain ⟨b1, b2, b3, b4, b5⟩ := b
  simp [sameTk, seq_iff]
theorem SameTokens_from (l : List api_LexerToken) (hl : l.length < 60000) : ∀ (k i : Nat), i + k = l.length → run_ratchetref05_SameTokens (.p116 l l (i : Int)) = some ((true, ()), ())
 | 0, i, h => by
   rw [run_ratchetref05_SameTokens, if_neg (by simp; omega)]
 | k + 1, i, h => by
   have hi : i < l.length := by omega
   have e := sameTk_iff.2 (rfl : l[i] = l[i])
   unfold sameTk at e
   rw [run_ratchetref05_SameTokens, if_pos (by simp; omega), idx_nat, List.getElem?_eq_getElem hi]
   simp only [some_bind']
   rw [e, if_neg (by decide), wrap_i64 (x := (i : Int) + 1) (by omega) (by omega), show ((i : Int) + 1) = ((i + 1 : Nat) : Int) by omega]
   exact SameTokens_from l hl k (i + 1) (by omega)
theorem SameTokens_self (l : List api_LexerToken) (hl : l.length < 60000) : run_ratchetref05_SameTokens (.start l l) = some ((true, ()), ()) := by
  rw [run_ratchetref05_SameTokens, if_neg (by simp)]
  exact SameTokens_from l hl l.length 0 (by omega)

/-! ### token by token -/
/-- the tokens of a text from an offset on -/
inductive Toks (s : ByteArray) : Nat → List api_LexerToken → Prop
 | done (i : Nat) (h : skipT s i = (s.size, 0)) : Toks s i []
 | tok (i : Nat) (l : List api_LexerToken) (h0 : (skipT s i).2 = 0) (h1 : (skipT s i).1 < s.size) (h2 : (tokE s (skipT s i).1).2 = 0) (h : Toks s ((skipT s i).1 + (tokE s (skipT s i).1).1.Text.size) l) : Toks s i ((tokE s (skipT s i).1).1 :: l)
theorem skipT_le {s : ByteArray} {i : Nat} (h : i ≤ s.size) : (skipT s i).1 ≤ s.size ∧ ((skipT s i).2 = 0 → i ≤ (skipT s i).1) := skipE_le (s := s) (s.size - i + 1) i h
theorem toksE_toks {s : ByteArray} : ∀ (k i : Nat) (l : List api_LexerToken), i ≤ s.size → s.size < i + k → (toksE s k i l).2.2 = 0 → ∃ r, toksE s k i l = (l ++ r, 0, 0) ∧ Toks s i r := by
  intro k
  induction k with
  | zero => intro i l h1 h2; omega
  | succ k ih =>
    intro i l h1 h2 h
    have hsk := skipT_le h1
    rw [toksE_succ] at h ⊢
    by_cases h0 : (skipT s i).2 = 0
    · rw [if_pos h0] at h ⊢
      by_cases he : (skipT s i).1 = s.size
      · rw [if_pos he] at h ⊢
        exact ⟨[], by rw [List.append_nil], .done i (Prod.ext he h0)⟩
      · have hp : (skipT s i).1 < s.size := by omega
        have hge := hsk.2 h0
        rw [if_neg he] at h ⊢
        by_cases h3 : (tokE s (skipT s i).1).2 = 0
        · have h4 := tokE_pos hp h3
          obtain ⟨ht1, ht2⟩ := tokE_text hp
          rw [if_pos h3] at h ⊢
          obtain ⟨r, hr, ht⟩ := ih _ _ ht2 (by omega) h
          exact ⟨_ :: r, by rw [hr, List.append_assoc]; rfl, .tok i r h0 hp h3 ht⟩
        · rw [if_neg h3] at h
          exact absurd h h3
    · rw [if_neg h0] at h
      exact absurd h h0
theorem toksT_toks {s : ByteArray} (h : (toksT s).2.2 = 0) : ∃ r, toksT s = (r, 0, 0) ∧ Toks s 0 r := toksE_toks (s.size + 1) 0 [] (Nat.zero_le _) (by omega) h
theorem toks_toksE {s : ByteArray} {i : Nat} {r : List api_LexerToken} (h : Toks s i r) : ∀ (k : Nat) (l : List api_LexerToken), i ≤ s.size → s.size < i + k → toksE s k i l = (l ++ r, 0, 0) := by
  induction h with
  | done i h =>
    intro k l h1 h2
    obtain ⟨k, rfl⟩ : ∃ j, k = j + 1 := ⟨k - 1, by omega⟩
    rw [toksE_succ, h, if_pos rfl, if_pos rfl, List.append_nil]
  | tok i r h0 hp h3 ht ih =>
    intro k l h1 h2
    obtain ⟨k, rfl⟩ : ∃ j, k = j + 1 := ⟨k - 1, by omega⟩
    have hsk := skipT_le h1
    have hge := hsk.2 h0
    have h4 := tokE_pos hp h3
    obtain ⟨ht1, ht2⟩ := tokE_text hp
    rw [toksE_succ, if_pos h0, if_neg (by omega), if_pos h3, ih _ _ ht2 (by omega), List.append_assoc]
    rfl
theorem toks_toksT {s : ByteArray} {r : List api_LexerToken} (h : Toks s 0 r) : toksT s = (r, 0, 0) := toks_toksE h (s.size + 1) [] (Nat.zero_le _) (by omega)
theorem toks_len {s : ByteArray} {i : Nat} {r : List api_LexerToken} (h : Toks s i r) : i ≤ s.size → i + r.length ≤ s.size := by
  induction h with
  | done i h => intro h1; simpa using h1
  | tok i r h0 hp h3 ht ih =>
    intro h1
    have hsk := skipT_le h1
    have hge := hsk.2 h0
    have h4 := tokE_pos hp h3
    obtain ⟨ht1, ht2⟩ := tokE_text hp
    have := ih ht2
    simp
    omega
theorem toksE_len {s : ByteArray} : ∀ (k i : Nat) (l : List api_LexerToken), i ≤ s.size → l.length ≤ i → (toksE s k i l).1.length ≤ s.size := by
  intro k
  induction k with
  | zero => intro i l h1 h2; show l.length ≤ s.size; omega
  | succ k ih =>
    intro i l h1 h2
    have hsk := skipT_le h1
    rw [toksE_succ]
    by_cases h0 : (skipT s i).2 = 0
    · rw [if_pos h0]
      by_cases he : (skipT s i).1 = s.size
      · rw [if_pos he]; show l.length ≤ s.size; omega
      · have hp : (skipT s i).1 < s.size := by omega
        have hge := hsk.2 h0
        rw [if_neg he]
        by_cases h3 : (tokE s (skipT s i).1).2 = 0
        · have h4 := tokE_pos hp h3
          obtain ⟨ht1, ht2⟩ := tokE_text hp
          rw [if_pos h3]
          exact ih _ _ ht2 (by simp; omega)
        · rw [if_neg h3]; exact Nat.zero_le _
    · rw [if_neg h0]; exact Nat.zero_le _
theorem toksT_len (s : ByteArray) : (toksT s).1.length ≤ s.size := toksE_len (s.size + 1) 0 [] (Nat.zero_le _) (Nat.le_refl _)
/-- a token stands in the text -/
theorem opE_has (s : ByteArray) {i : Nat} (hi : i ≤ s.size) : hasW s i (opE s i) = true := by
  have : ∀ (l : List ByteArray) (b : ByteArray), hasW s i b = true → hasW s i (l.foldl (opS s i) b) = true := by
    intro l
    induction l with
    | nil => intro b h; exact h
    | cons o l ih =>
      intro b h
      rw [List.foldl_cons]
      refine ih _ ?_
      unfold opS
      split
      · rename_i ho
        split
        · exact ho
        · exact h
      · exact h
  exact this ops ⟨#[]⟩ (hasW_iff.2 ⟨hi, fun j hj => by cases hj⟩)
theorem runT_has {s : ByteArray} {f : Int → Bool} {i : Nat} (hi : i ≤ s.size) : hasW s i (runT s f i) = true := by
  have h1 := runE_le (s := s) (f := f) (s.size - i) i hi
  have h2 := runT_size (f := f) hi
  refine hasW_iff.2 ⟨by omega, fun j hj => ?_⟩
  unfold runT
  rw [bt_ext s (by omega) (by omega)]
theorem numE_text (i : Int) (w : ByteArray) : (numE i w).1.Text = w ∧ (numE i w).1.At = i := by
  unfold numE
  split
  · exact ⟨rfl, rfl⟩
  · split <;> exact ⟨rfl, rfl⟩
theorem tokE_has {s : ByteArray} {i : Nat} (hi : i < s.size) : hasW s i (tokE s i).1.Text = true := by
  unfold tokE
  split
  · exact runT_has (Nat.le_of_lt hi)
  · split
    · rw [(numE_text _ _).1]
      exact runT_has (Nat.le_of_lt hi)
    · exact opE_has s (Nat.le_of_lt hi)
theorem tokens_loop {s : ByteArray} (hs : s.size ≤ 400) {i : Nat} {r : List api_LexerToken} (h : Toks s i r) : ∀ (pre : List api_LexerToken), i ≤ s.size → pre.length + r.length ≤ 400 →
    run_ratchetlaw05_LexerTokens (.p65524 s (i : Int) (pre.length : Int) (pre ++ r)) = some ((true, ()), ()) := by
  induction h with
  | done i h =>
    intro pre h1 h2
    rw [run_ratchetlaw05_LexerTokens, if_neg (by simp), NextToken_eq (by omega) h1]
    simp only [some_bind']
    unfold nextE
    rw [h, if_pos rfl, if_pos rfl]
    rfl
  | tok i r h0 hp h3 ht ih =>
    intro pre h1 h2
    have hsk := skipT_le h1
    have hge := hsk.2 h0
    have h4 := tokE_pos hp h3
    obtain ⟨ht1, ht2⟩ := tokE_text hp
    have hn : nextE s i = ((tokE s (skipT s i).1).1, 0) := by unfold nextE; rw [if_pos h0, if_neg (by omega), if_pos h3]
    have hx := hasW_iff.1 (tokE_has hp)
    have hsm := sameTk_iff.2 (rfl : (tokE s (skipT s i).1).1 = (tokE s (skipT s i).1).1)
    unfold sameTk at hsm
    rw [run_ratchetlaw05_LexerTokens, if_pos (by simp; omega), NextToken_eq (by omega) h1, hn]
    simp only [some_bind', tkR]
    rw [if_neg (by decide), if_pos (by simp; omega), idx_nat, List.getElem?_append_right (Nat.le_refl _), Nat.sub_self, List.getElem?_cons_zero]
    simp only [some_bind']
    rw [hsm, if_neg (by decide), ht1, if_neg (by simp; omega), if_neg (by
      rw [seq_iff]
      intro h
      rw [h] at h4
      exact absurd h4 (by decide))]
    simp only [List.length_cons] at h2
    rw [wrap_i64 (x := ((skipT s i).1 : Int) + (((tokE s (skipT s i).1).1.Text.size : Nat) : Int)) (by omega) (by omega), show ((skipT s i).1 : Int) + (((tokE s (skipT s i).1).1.Text.size : Nat) : Int) = (((skipT s i).1 + (tokE s (skipT s i).1).1.Text.size : Nat) : Int) by omega, if_neg (by simp; omega), span_nat (by omega) ht2]
    simp only [some_bind']
    have he : s.extract (skipT s i).1 ((skipT s i).1 + (tokE s (skipT s i).1).1.Text.size) = (tokE s (skipT s i).1).1.Text := by
      have := tokE_has hp
      unfold hasW at this
      rw [Bool.and_eq_true, seq_iff] at this
      exact this.2
    rw [he, seq_self, if_neg (by decide), wrap_i64 (x := (pre.length : Int) + 1) (by omega) (by omega)]
    have := ih (pre ++ [(tokE s (skipT s i).1).1]) ht2 (by simp; omega)
    rw [List.append_assoc] at this
    simp only [List.length_append, List.length_cons, List.length_nil, List.singleton_append] at this
    rw [show ((pre.length : Int) + 1) = ((pre.length + (0 + 1) : Nat) : Int) by omega]
    exact this
theorem tokens_true (s : ByteArray) (at_ : Int) : run_ratchetlaw05_LexerTokens (.start s at_) = some ((true, ()), ()) := by
  rw [run_ratchetlaw05_LexerTokens]
  simp only [some_bind', Bool.not_true, Bool.false_eq_true, if_false]
  by_cases hs : s.size ≤ 400
  · rw [if_neg (by simp; omega), Tokens_eq (by omega), rTokens_eq (by omega)]
    simp only [some_bind']
    have hlen := toksT_len s
    rw [if_neg (by simp), if_neg (by simp), SameTokens_self _ (by omega)]
    simp only [some_bind', Bool.not_true, Bool.false_eq_true, if_false]
    rw [run_ratchetlaw05_LexerTokens]
    have hnext : ∃ a, run_lexer_NextToken (.start s at_) = some a ∧ run_ratchetref05_Next (.start s at_) = some a := by
      by_cases ha : 0 ≤ at_ ∧ at_ ≤ (s.size : Int)
      · obtain ⟨i, rfl⟩ := Int.eq_ofNat_of_zero_le ha.1
        exact ⟨_, NextToken_eq (by omega) (by omega), Next_eq (by omega) (by omega)⟩
      · refine ⟨((tkR noTk, (2, ())), ()), ?_, ?_⟩
        · rw [run_lexer_NextToken, textErr_eq (by omega)]
          simp only [some_bind', run_lexer_within]
          rw [if_neg (by decide)]
          by_cases h0 : 0 ≤ at_
          · rw [if_pos (by simpa using h0)]
            simp only [some_bind']
            rw [if_pos (by simp; omega)]
            rfl
          · rw [if_neg (by simpa using h0)]
            simp only [some_bind']
            rfl
        · rw [run_ratchetref05_Next, rTextErr_eq (by omega)]
          simp only [some_bind', Within_eq]
          rw [if_neg (by decide), if_pos (by simp; omega)]
          rfl
    obtain ⟨a, h1, h2⟩ := hnext
    rw [h1, h2]
    simp only [some_bind']
    rw [if_neg (by simp), if_neg (by simp [seq_self]), run_ratchetlaw05_LexerTokens]
    by_cases h0 : (toksT s).2.2 = 0
    · obtain ⟨r, hr, ht⟩ := toksT_toks h0
      rw [if_neg (by simpa using h0), hr]
      exact tokens_loop hs ht [] (Nat.zero_le _) (by have := toks_len ht (Nat.zero_le _); simp; omega)
    · rw [if_pos (by simpa using h0)]
  · rw [if_pos (by simp; omega)]
end Go.Proofs.YtfmkleeneddijaaGreatDoor.Ev.F
