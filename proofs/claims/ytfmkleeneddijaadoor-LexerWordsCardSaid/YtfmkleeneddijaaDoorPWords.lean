/- Keywords, operators. -/
import Derived.Test.YtfmkleeneddijaaDoorPTok3
set_option linter.unusedVariables false
set_option linter.unusedSimpArgs false
set_option linter.unnecessarySimpa false
namespace Go.Proofs.YtfmkleeneddijaaDoor.Ev.F
open Go.Proofs.YtfmkleeneddijaaDoor.Ev

theorem Texts_from (l : List ByteArray) : ∀ (k i : Nat), l.length ≤ i + k → l.length < 60002 → run_ratchetbase_Texts (.p116 l l (i : Int)) = some ((true, ()), ())
 | 0, i, h, _ => by
   rw [run_ratchetbase_Texts, if_neg (by simp; omega)]
 | k + 1, i, h, hl => by
   rw [run_ratchetbase_Texts]
   by_cases hi : i < l.length
   · rw [if_pos (by simp; omega), idx_nat, List.getElem?_eq_getElem hi]
     simp only [some_bind']
     rw [if_neg (by simp [seq_self]), wrap_i64 (by omega) (by omega)]
     exact Texts_from l k (i + 1) (by omega) hl
   · rw [if_neg (by simp; omega)]
theorem Texts_self (l : List ByteArray) (h : l.length < 60002) : run_ratchetbase_Texts (.start l l) = some ((true, ()), ()) := by
  rw [run_ratchetbase_Texts, if_neg (by simp)]
  exact Texts_from l l.length 0 (by omega) h
theorem seq_comm (a b : ByteArray) : seq a b = seq b a := by
  rw [Bool.eq_iff_iff, seq_iff, seq_iff]; exact eq_comm
theorem HasText_from (w : ByteArray) (l : List ByteArray) (hl : l.length < 60000) : ∀ (k i : Nat), i + k = l.length → run_ratchetbase_HasText (.p52 l w (i : Int)) = some (((l.drop i).any fun k => seq w k, ()), ())
 | 0, i, h => by
   rw [run_ratchetbase_HasText, if_neg (by simp; omega), List.drop_eq_nil_of_le (by omega)]
   rfl
 | k + 1, i, h => by
   have hi : i < l.length := by omega
   rw [run_ratchetbase_HasText, if_pos (by simp; omega), idx_nat, List.getElem?_eq_getElem hi, List.drop_eq_getElem_cons hi]
   simp only [some_bind', List.any_cons]
   rw [seq_comm]
   by_cases hs : seq w l[i] = true
   · rw [if_pos hs, hs]; rfl
   · rw [if_neg hs, wrap_i64 (by omega) (by omega), show ((i : Int) + 1) = ((i + 1 : Nat) : Int) by omega, HasText_from w l hl k (i + 1) (by omega)]
     simp at hs
     simp [hs]
theorem HasText_eq (w : ByteArray) (l : List ByteArray) (hl : l.length < 60000) : run_ratchetbase_HasText (.start l w) = some ((l.any fun k => seq w k, ()), ()) := by
  rw [run_ratchetbase_HasText]
  exact HasText_from w l hl l.length 0 (by omega)
theorem rKeywords_eq : run_ratchetref05_Keywords .start = some ((kws, ()), ()) := by rw [run_ratchetref05_Keywords]; rfl
theorem rOperators_eq : run_ratchetref05_Operators .start = some ((ops, ()), ()) := by rw [run_ratchetref05_Operators]; rfl

/-- a text that is one token of a kind -/
noncomputable def oneTok (kind : Int) (w : ByteArray) : Bool :=
  match toksT w with
  | ([t], n, e) => decide (e = 0) && (decide (w.size ≤ 4000) && ((t.Kind == kind) && ((t.At == (0 : Int)) && ((seq t.Text w) && ((t.Value == (0 : Int)) && ((t.Width == (0 : Int)) && true))))))
  | _ => false
theorem kws_tok : (kws.all fun w => oneTok 2 w) = true := by kernel_rfl
theorem ops_tok : (ops.all fun w => oneTok 5 w) = true := by kernel_rfl
theorem oneTok_spec {kind : Int} {w : ByteArray} (h : oneTok kind w = true) : ∃ t n, run_lexer_Tokens (.start w) = some (tokR ([t], n, 0)) ∧ ((t.Kind == kind) && ((t.At == (0 : Int)) && ((seq t.Text w) && ((t.Value == (0 : Int)) && ((t.Width == (0 : Int)) && true))))) = true := by
  unfold oneTok at h
  split at h
  · rename_i t n e ht
    rw [Bool.and_eq_true, Bool.and_eq_true, decide_eq_true_eq, decide_eq_true_eq] at h
    obtain ⟨rfl, h1, h2⟩ := h
    exact ⟨t, n, by rw [Tokens_eq h1, ht], h2⟩
  · cases h
theorem words_k (l o : List ByteArray) (hl : l.length < 60000) (hok : (l.all fun w => oneTok 2 w) = true) : ∀ (k i : Nat), i + k = l.length → run_ratchetlaw05_LexerWords (.p1012 l o (i : Int)) = run_ratchetlaw05_LexerWords (.p2036 o 0)
 | 0, i, h => by
   conv => lhs; rw [run_ratchetlaw05_LexerWords]
   rw [if_neg (by simp; omega)]
 | k + 1, i, h => by
   have hi : i < l.length := by omega
   obtain ⟨t, n, h1, h2⟩ := oneTok_spec (List.all_eq_true.1 hok _ (List.getElem_mem hi))
   conv => lhs; rw [run_ratchetlaw05_LexerWords]
   rw [if_pos (by simp; omega), idx_nat, List.getElem?_eq_getElem hi]
   simp only [some_bind', h1]
   rw [if_neg (by decide), if_neg (by simp), if_pos (by simp), show (0 : Int) = ((0 : Nat) : Int) from rfl, idx_nat]
   simp only [List.getElem?_cons_zero, some_bind']
   have h0 : ((0 : Nat) : Int) = 0 := rfl
   rw [h0, h2, if_neg (by decide), wrap_i64 (by omega) (by omega), show ((i : Int) + 1) = ((i + 1 : Nat) : Int) by omega]
   exact words_k l o hl hok k (i + 1) (by omega)
theorem words_o (l : List ByteArray) (hl : l.length < 60000) (hok : (l.all fun w => oneTok 5 w) = true) : ∀ (k i : Nat), i + k = l.length → run_ratchetlaw05_LexerWords (.p2036 l (i : Int)) = some ((true, ()), ())
 | 0, i, h => by
   rw [run_ratchetlaw05_LexerWords, if_neg (by simp; omega)]
 | k + 1, i, h => by
   have hi : i < l.length := by omega
   obtain ⟨t, n, h1, h2⟩ := oneTok_spec (List.all_eq_true.1 hok _ (List.getElem_mem hi))
   rw [run_ratchetlaw05_LexerWords, if_pos (by simp; omega), idx_nat, List.getElem?_eq_getElem hi]
   simp only [some_bind', h1]
   rw [if_neg (by decide), if_neg (by simp), if_pos (by simp), show (0 : Int) = ((0 : Nat) : Int) from rfl, idx_nat]
   simp only [List.getElem?_cons_zero, some_bind']
   have h0 : ((0 : Nat) : Int) = 0 := rfl
   rw [h0, h2, if_neg (by decide), wrap_i64 (by omega) (by omega), show ((i : Int) + 1) = ((i + 1 : Nat) : Int) by omega]
   exact words_o l hl hok k (i + 1) (by omega)
theorem words_true (s : ByteArray) : run_ratchetlaw05_LexerWords (.start s) = some ((true, ()), ()) := by
  rw [run_ratchetlaw05_LexerWords]
  simp only [some_bind', Bool.not_true, Bool.false_eq_true, if_false]
  split
  · rfl
  · simp only [Keywords_eq, Operators_eq, rKeywords_eq, rOperators_eq, IsKeyword_eq, HasText_eq s kws (by decide), Texts_self kws (by decide), Texts_self ops (by decide), some_bind', Bool.not_true, Bool.false_eq_true, if_false]
    have : (isKw s == kws.any fun k => seq s k) = true := by unfold isKw; simp
    rw [this, if_neg (by decide), run_ratchetlaw05_LexerWords]
    have h1 := words_k kws ops (by decide) kws_tok kws.length 0 (by omega)
    have h2 := words_o ops (by decide) ops_tok ops.length 0 (by omega)
    exact h1.trans h2
end Go.Proofs.YtfmkleeneddijaaDoor.Ev.F
