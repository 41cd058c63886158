/- Operators, tokens, all tokens of a text. -/
import Derived.Test.YtfmkleeneddijaaGreatDoorPTok2
set_option linter.unusedVariables false
set_option linter.unusedSimpArgs false
set_option linter.unnecessarySimpa false
namespace Go.Proofs.YtfmkleeneddijaaGreatDoor.Ev.F
open Go.Proofs.YtfmkleeneddijaaGreatDoor.Ev

abbrev tkR (t : api_LexerToken) : Int × (Int × (ByteArray × (Int × (Int × Unit)))) := (t.Kind, (t.At, (t.Text, (t.Value, (t.Width, ())))))
noncomputable def numE (i : Int) (w : ByteArray) : api_LexerToken × Int :=
  if natOk w = true then (⟨3, i, w, natN w, 0⟩, 0) else if (litE w).2.2 = 0 then (⟨4, i, w, (litE w).1, (litE w).2.1⟩, 0) else (⟨0, i, w, 0, 0⟩, (litE w).2.2)
theorem number_eq {s w : ByteArray} (hw : w.size ≤ 60000) (i : Nat) : run_lexer_scanner_number (.start s (i : Int) 0 0 (i : Int) w 0 0) = some ((), ((s, ((i : Int), ((numE i w).2, ()))), (tkR (numE i w).1, ()))) := by
  rw [run_lexer_scanner_number, natural_eq hw]
  simp only [some_bind']
  unfold numE
  cases hk : natOk w with
  | true => rfl
  | false =>
    rw [if_neg (by decide), if_neg (by decide), ParseLiteral_eq hw]
    simp only [some_bind', litR]
    by_cases h : (litE w).2.2 = 0
    · rw [if_neg (by simpa using h), if_pos h]
    · rw [if_pos (by simpa using h), if_neg h, fail_ok]
      rfl

/-! ### operators -/
def ops : List ByteArray := [⟨#[33]⟩, ⟨#[33, 61]⟩, ⟨#[38]⟩, ⟨#[38, 38]⟩, ⟨#[40]⟩, ⟨#[41]⟩, ⟨#[42]⟩, ⟨#[43]⟩, ⟨#[43, 43]⟩, ⟨#[44]⟩, ⟨#[45]⟩, ⟨#[45, 62]⟩, ⟨#[46]⟩, ⟨#[46, 46]⟩, ⟨#[58]⟩, ⟨#[59]⟩, ⟨#[60]⟩, ⟨#[60, 60]⟩, ⟨#[60, 61]⟩, ⟨#[61]⟩, ⟨#[61, 61]⟩, ⟨#[62, 62]⟩, ⟨#[91]⟩, ⟨#[92]⟩, ⟨#[93]⟩, ⟨#[94]⟩, ⟨#[95]⟩, ⟨#[123]⟩, ⟨#[124]⟩, ⟨#[124, 124]⟩, ⟨#[125]⟩, ⟨#[126]⟩]
theorem Operators_eq : run_lexer_Operators .start = some ((ops, ()), ()) := by rw [run_lexer_Operators]; rfl
def opS (s : ByteArray) (i : Nat) (best o : ByteArray) : ByteArray := if hasW s i o = true then (if best.size < o.size then o else best) else best
def opE (s : ByteArray) (i : Nat) : ByteArray := ops.foldl (opS s i) ⟨#[]⟩
theorem op_end (s : ByteArray) {i : Nat} (hi : i < s.size) (best : ByteArray) (l : List ByteArray) (n : Int) : run_lexer_scanner_operator (.p116 best l n n s (i : Int) 0) =
    some ((best, ()), sc s (i : Int) (if best = ⟨#[]⟩ then (if perm (bt s i) = true then 7 else 15) else 0)) := by
  rw [run_lexer_scanner_operator, if_neg (by simp)]
  by_cases h : best = ⟨#[]⟩
  · rw [if_pos (seq_iff.2 h), if_pos h, sidx_nat hi]
    simp only [some_bind', isPermitted_eq]
    cases hp : perm (bt s i) with
    | true => rw [if_neg (by decide), fail_ok]; rfl
    | false => rw [if_pos (by decide), fail_ok]; rfl
  · rw [if_neg (by rw [seq_iff]; exact h), if_neg h]
theorem op_loop {s : ByteArray} {i : Nat} (hi : i < s.size) (l : List ByteArray) (hl : l.length < 60000) : ∀ (k j : Nat) (best : ByteArray), j + k = l.length →
    run_lexer_scanner_operator (.p116 best l (l.length : Int) (j : Int) s (i : Int) 0) = run_lexer_scanner_operator (.p116 ((l.drop j).foldl (opS s i) best) l (l.length : Int) (l.length : Int) s (i : Int) 0)
 | 0, j, best, h => by
   obtain rfl : j = l.length := by omega
   rw [List.drop_eq_nil_of_le (Nat.le_refl _)]
   rfl
 | k + 1, j, best, h => by
   have hj : j < l.length := by omega
   conv => lhs; rw [run_lexer_scanner_operator]
   rw [if_pos (by simp; omega), idx_nat, List.getElem?_eq_getElem hj]
   simp only [some_bind', has_eq (Nat.le_of_lt hi), sc]
   rw [List.drop_eq_getElem_cons hj, List.foldl_cons, wrap_i64 (by omega) (by omega), show ((j : Int) + 1) = ((j + 1 : Nat) : Int) by omega]
   rw [← op_loop hi l hl k (j + 1) _ (by omega)]
   unfold opS
   cases hh : hasW s i l[j] with
   | true =>
     rw [if_pos rfl, if_pos rfl]
     by_cases hb : best.size < l[j].size
     · rw [if_pos (by simp; omega), if_pos hb]
     · rw [if_neg (by simp; omega), if_neg hb]
   | false => rw [if_neg (by decide), if_neg (by decide)]
theorem operator_eq {s : ByteArray} {i : Nat} (hi : i < s.size) : run_lexer_scanner_operator (.start s (i : Int) 0) =
    some ((opE s i, ()), sc s (i : Int) (if opE s i = ⟨#[]⟩ then (if perm (bt s i) = true then 7 else 15) else 0)) := by
  rw [run_lexer_scanner_operator, Operators_eq]
  simp only [some_bind']
  have := op_loop hi ops (by decide) ops.length 0 ⟨#[]⟩ (by omega)
  have h0 : ((0 : Nat) : Int) = 0 := rfl
  rw [h0] at this
  rw [this, op_end s hi]
  rfl

/-! ### a token -/
noncomputable def tokE (s : ByteArray) (i : Nat) : api_LexerToken × Int :=
  if isLet (bt s i) = true then (⟨(wordE s i).1, (i : Int), runT s isWd i, 0, 0⟩, (wordE s i).2)
  else if isDig (bt s i) = true then numE i (runT s isNum i)
  else (⟨5, (i : Int), opE s i, 0, 0⟩, if opE s i = ⟨#[]⟩ then (if perm (bt s i) = true then 7 else 15) else 0)
theorem isLet_wd {c : Int} (h : isLet c = true) : isWd c = true := by unfold isWd; rw [h]; rfl
theorem isDig_num {c : Int} (h : isDig c = true) : isNum c = true := by unfold isNum isWd; rw [h]; cases isLet c <;> rfl
theorem token_last {s : ByteArray} {t : api_LexerToken} {e : Int} {i : Nat} (h : t.Text.size ≤ 60000) (hi : i ≤ 60000) : run_lexer_scanner_token (.p15 s (i : Int) e 0 0 ⟨#[]⟩ 0 0 t.Kind t.At t.Text t.Value t.Width) =
    some ((tkR t, ()), sc s (if e = 0 then ((i + t.Text.size : Nat) : Int) else (i : Int)) e) := by
  rw [run_lexer_scanner_token]
  by_cases h0 : e = 0
  · rw [if_pos (by simpa using h0), if_pos h0, wrap_i64 (by omega) (by omega)]
    rfl
  · rw [if_neg (by simpa using h0), if_neg h0]
theorem tokE_text {s : ByteArray} {i : Nat} (hi : i < s.size) : (tokE s i).1.At = (i : Int) ∧ i + (tokE s i).1.Text.size ≤ s.size := by
  unfold tokE
  have key : ∀ f, i + (runT s f i).size ≤ s.size := fun f => by
    have h1 := runE_le (s := s) (f := f) (s.size - i) i (Nat.le_of_lt hi)
    have h2 := runT_size (f := f) (Nat.le_of_lt hi)
    omega
  split
  · exact ⟨rfl, key _⟩
  · split
    · unfold numE
      split
      · exact ⟨rfl, key _⟩
      · split
        · exact ⟨rfl, key _⟩
        · exact ⟨rfl, key _⟩
    · refine ⟨rfl, ?_⟩
      have : ∀ (l : List ByteArray) (b : ByteArray), i + b.size ≤ s.size → i + (l.foldl (opS s i) b).size ≤ s.size := by
        intro l
        induction l with
        | nil => intro b h; exact h
        | cons o l ih =>
          intro b h
          rw [List.foldl_cons]
          refine ih _ ?_
          unfold opS
          split
          · rename_i ho
            have := (hasW_iff.1 ho).1
            split <;> omega
          · exact h
      exact this ops ⟨#[]⟩ (by show i + 0 ≤ s.size; omega)
theorem token_eq {s : ByteArray} {i : Nat} (hi : i < s.size) (hs : s.size ≤ 60000) : run_lexer_scanner_token (.start s (i : Int) 0) =
    some ((tkR (tokE s i).1, ()), sc s (if (tokE s i).2 = 0 then ((i + (tokE s i).1.Text.size : Nat) : Int) else (i : Int)) (tokE s i).2) := by
  have htx := (tokE_text hi).2
  rw [run_lexer_scanner_token, sidx_nat hi]
  simp only [some_bind', isLetter_eq]
  by_cases hl : isLet (bt s i) = true
  · have ht : tokE s i = (⟨(wordE s i).1, (i : Int), runT s isWd i, 0, 0⟩, (wordE s i).2) := by unfold tokE; rw [if_pos hl]
    rw [if_pos hl, word_eq hi (isLet_wd hl) hs]
    simp only [some_bind', sc]
    rw [ht] at htx ⊢
    exact token_last (t := ⟨(wordE s i).1, (i : Int), runT s isWd i, 0, 0⟩) (by simp only at htx ⊢; omega) (by omega)
  · rw [if_neg hl]
    simp only [isDigit_eq, some_bind']
    by_cases hd : isDig (bt s i) = true
    · have ht : tokE s i = numE i (runT s isNum i) := by unfold tokE; rw [if_neg hl, if_pos hd]
      have h2 := runT_size (f := isNum) (Nat.le_of_lt hi)
      have h1 := runE_le (s := s) (f := isNum) (s.size - i) i (Nat.le_of_lt hi)
      rw [if_pos hd, runn_eq (Nat.le_of_lt hi)]
      simp only [some_bind', sc]
      rw [number_eq (by omega)]
      simp only [some_bind', tkR]
      rw [ht] at htx ⊢
      exact token_last (by omega) (by omega)
    · have ht : tokE s i = (⟨5, (i : Int), opE s i, 0, 0⟩, if opE s i = ⟨#[]⟩ then (if perm (bt s i) = true then 7 else 15) else 0) := by unfold tokE; rw [if_neg hl, if_neg hd]
      rw [if_neg hd, operator_eq hi]
      simp only [some_bind', sc]
      rw [ht] at htx ⊢
      exact token_last (t := ⟨5, (i : Int), opE s i, 0, 0⟩) (by simp only at htx ⊢; omega) (by omega)

/-! ### space -/
def skipE (s : ByteArray) : Nat → Nat → Nat × Int
 | 0, i => (i, 0)
 | k + 1, i => if i < s.size then (if isSp (bt s i) = true then skipE s k (i + 1) else match comE s i with | none => (i, 0) | some (p, c) => if c = 0 then skipE s k p else (p, c)) else (i, 0)
theorem skipE_succ (s : ByteArray) (k i : Nat) : skipE s (k + 1) i = if i < s.size then (if isSp (bt s i) = true then skipE s k (i + 1) else match comE s i with | none => (i, 0) | some (p, c) => if c = 0 then skipE s k p else (p, c)) else (i, 0) := rfl
theorem skip_err {s : ByteArray} {a e : Int} (h : e ≠ 0) : run_lexer_scanner_skip (.start s a e) = some ((), sc s a e) := by
  rw [run_lexer_scanner_skip, run_lexer_scanner_skip, ended_err h]
  simp [some_bind', sc]
theorem skip_loop {s : ByteArray} (hs : s.size ≤ 60000) : ∀ (k i : Nat), i ≤ s.size → s.size < i + k → run_lexer_scanner_skip (.p4 s (i : Int) 0) = some ((), sc s ((skipE s k i).1 : Int) (skipE s k i).2) := by
  intro k
  induction k with
  | zero => intro i h1 h2; omega
  | succ k ih =>
    intro i h1 h2
    rw [run_lexer_scanner_skip, skipE_succ]
    by_cases hi : i < s.size
    · rw [ended_in hi, if_pos hi]
      simp only [some_bind', sc, sidx_nat hi, isSpace_eq, Bool.not_false, if_true]
      cases hsp : isSp (bt s i) with
      | true =>
        rw [if_pos rfl, if_pos rfl, wrap_i64 (by omega) (by omega), show ((i : Int) + 1) = ((i + 1 : Nat) : Int) by omega]
        exact ih (i + 1) (by omega) (by omega)
      | false =>
        rw [if_neg (by decide), if_neg (by decide), comment_eq hs h1]
        simp only [some_bind']
        cases hc : comE s i with
        | none => rfl
        | some pc =>
          obtain ⟨p, c⟩ := pc
          obtain ⟨h3, h4⟩ := comE_le hc
          simp only [Option.isSome_some, Bool.not_true, Bool.false_eq_true, if_false, sc]
          by_cases h0 : c = 0
          · subst h0
            rw [if_pos rfl]
            exact ih p h3 (by have := h4 rfl; omega)
          · rw [if_neg h0, run_lexer_scanner_skip, ended_err h0]
            simp [some_bind', sc]
    · obtain rfl : i = s.size := by omega
      rw [ended_out]
      simp [some_bind', sc]
def skipT (s : ByteArray) (i : Nat) : Nat × Int := skipE s (s.size - i + 1) i
theorem skip_eq {s : ByteArray} (hs : s.size ≤ 60000) {i : Nat} (hi : i ≤ s.size) : run_lexer_scanner_skip (.start s (i : Int) 0) = some ((), sc s ((skipT s i).1 : Int) (skipT s i).2) := by
  rw [run_lexer_scanner_skip]
  exact skip_loop hs _ i hi (by omega)
theorem skipE_le {s : ByteArray} : ∀ (k i : Nat), i ≤ s.size → (skipE s k i).1 ≤ s.size ∧ ((skipE s k i).2 = 0 → i ≤ (skipE s k i).1)
 | 0, i, h => ⟨h, fun _ => Nat.le_refl _⟩
 | k + 1, i, h => by
   rw [skipE_succ]
   by_cases hi : i < s.size
   · rw [if_pos hi]
     split
     · have := skipE_le (s := s) k (i + 1) (by omega)
       exact ⟨this.1, fun h => by have := this.2 h; omega⟩
     · cases hc : comE s i with
       | none => exact ⟨h, fun _ => Nat.le_refl _⟩
       | some pc =>
         obtain ⟨p, c⟩ := pc
         obtain ⟨h3, h4⟩ := comE_le hc
         simp only
         split
         · rename_i h0
           have := skipE_le (s := s) k p h3
           exact ⟨this.1, fun h => by have := this.2 h; have := h4 h0; omega⟩
         · rename_i h0
           exact ⟨h3, fun h => absurd h h0⟩
   · rw [if_neg hi]; exact ⟨h, fun _ => Nat.le_refl _⟩
theorem tokE_pos {s : ByteArray} {i : Nat} (hi : i < s.size) (h : (tokE s i).2 = 0) : 1 ≤ (tokE s i).1.Text.size := by
  unfold tokE at h ⊢
  split
  · rename_i hl
    exact (runT_pos hi (isLet_wd hl)).1
  · rename_i hl
    rw [if_neg hl] at h
    split
    · rename_i hd
      have := (runT_pos hi (isDig_num hd)).1
      unfold numE
      split
      · exact this
      · split <;> exact this
    · rename_i hd
      rw [if_neg hd] at h
      simp only at h ⊢
      split at h
      · split at h <;> simp at h
      · rename_i ho
        rcases Nat.eq_zero_or_pos (opE s i).size with h0 | h0
        · exact absurd (ext_bt (b := ⟨#[]⟩) h0 (fun i hi => by omega)) ho
        · exact h0

/-! ### all tokens -/
noncomputable def toksE (s : ByteArray) : Nat → Nat → List api_LexerToken → List api_LexerToken × Nat × Int
 | 0, i, l => (l, 0, 0)
 | k + 1, i, l =>
   if (skipT s i).2 = 0 then
     if (skipT s i).1 = s.size then (l, 0, 0)
     else if (tokE s (skipT s i).1).2 = 0 then toksE s k ((skipT s i).1 + (tokE s (skipT s i).1).1.Text.size) (l ++ [(tokE s (skipT s i).1).1])
     else ([], (skipT s i).1, (tokE s (skipT s i).1).2)
   else ([], (skipT s i).1, (skipT s i).2)
theorem toksE_succ (s : ByteArray) (k i : Nat) (l : List api_LexerToken) : toksE s (k + 1) i l =
   if (skipT s i).2 = 0 then
     if (skipT s i).1 = s.size then (l, 0, 0)
     else if (tokE s (skipT s i).1).2 = 0 then toksE s k ((skipT s i).1 + (tokE s (skipT s i).1).1.Text.size) (l ++ [(tokE s (skipT s i).1).1])
     else ([], (skipT s i).1, (tokE s (skipT s i).1).2)
   else ([], (skipT s i).1, (skipT s i).2) := rfl
abbrev tokR (r : List api_LexerToken × Nat × Int) : R_lexer_Tokens := (((), ((r.2.1 : Int), (r.2.2, ()))), (r.1, ()))
theorem toks_loop {s : ByteArray} (hs : s.size ≤ 4000) : ∀ (k i : Nat) (l : List api_LexerToken), i ≤ s.size → s.size < i + k → l.length ≤ i →
    run_lexer_Tokens (.p500 l s ((skipT s i).1 : Int) (skipT s i).2) = some (tokR (toksE s k i l)) := by
  intro k
  induction k with
  | zero => intro i l h1 h2; omega
  | succ k ih =>
    intro i l h1 h2 hl
    have hsk := skipE_le (s := s) (s.size - i + 1) i h1
    change (skipT s i).1 ≤ s.size ∧ ((skipT s i).2 = 0 → i ≤ (skipT s i).1) at hsk
    rw [run_lexer_Tokens, toksE_succ]
    by_cases h0 : (skipT s i).2 = 0
    · rw [if_pos h0, h0]
      by_cases he : (skipT s i).1 = s.size
      · rw [if_pos he, he, ended_out]
        simp only [some_bind', sc]
        rw [if_neg (by decide), if_neg (by decide), if_neg (by simp; omega)]
        rfl
      · have hp : (skipT s i).1 < s.size := by omega
        have hge := hsk.2 h0
        obtain ⟨ht1, ht2⟩ := tokE_text hp
        rw [ended_in hp, if_neg he]
        simp only [some_bind', sc, token_eq hp (show s.size ≤ 60000 by omega)]
        rw [if_pos (by decide), if_pos (fits_one 48 (by simp; omega))]
        by_cases h3 : (tokE s (skipT s i).1).2 = 0
        · have h4 := tokE_pos hp h3
          rw [if_pos h3, h3, if_pos rfl, skip_eq (by omega) ht2]
          simp only [some_bind', sc]
          exact ih _ _ ht2 (by omega) (by simp; omega)
        · rw [if_neg h3, if_neg h3, skip_err h3]
          simp only [some_bind', sc]
          rw [run_lexer_Tokens, ended_err h3]
          simp only [some_bind', sc]
          rw [if_neg (by decide), if_pos (by simpa using h3)]
    · rw [if_neg h0, ended_err h0]
      simp only [some_bind', sc]
      rw [if_neg (by decide), if_pos (by simpa using h0)]
noncomputable def toksT (s : ByteArray) : List api_LexerToken × Nat × Int := toksE s (s.size + 1) 0 []
theorem Tokens_eq {s : ByteArray} (hs : s.size ≤ 4000) : run_lexer_Tokens (.start s) = some (tokR (toksT s)) := by
  rw [run_lexer_Tokens]
  simp only [run_lexer_textErr]
  rw [if_neg (by simp; omega)]
  simp only [some_bind']
  have e : run_lexer_scanner_skip (.start s 0 0) = _ := skip_eq (i := 0) (by omega) (Nat.zero_le _)
  rw [if_neg (by decide), e]
  simp only [some_bind', sc]
  exact toks_loop hs (s.size + 1) 0 [] (Nat.zero_le _) (by omega) (Nat.le_refl _)
end Go.Proofs.YtfmkleeneddijaaGreatDoor.Ev.F
