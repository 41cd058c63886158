/- The tokens of a text one after the other. -/
import Derived.Test.YtfmkleeneddijaaDoorPTok3
set_option linter.unusedVariables false
set_option linter.unusedSimpArgs false
set_option linter.unnecessarySimpa false
namespace Go.Proofs.YtfmkleeneddijaaDoor.Ev.F
open Go.Proofs.YtfmkleeneddijaaDoor.Ev

def sameTk (a b : api_LexerToken) : Bool := (a.Kind == b.Kind) && ((a.At == b.At) && ((seq a.Text b.Text) && ((a.Value == b.Value) && ((a.Width == b.Width) && true))))
theorem sameTk_iff {a b : api_LexerToken} : sameTk a b = true ↔ a = b := by
  obtain ⟨a1, a2, a3, a4, a5⟩ := a
  obtain ⟨b1, b2, b3, b4, b5⟩ := b
  simp [sameTk, seq_iff]
theorem SameTokens_from (l : List api_LexerToken) (hl : l.length < 60000) : ∀ (k i : Nat), i + k = l.length → run_ratchetref05_SameTokens (.p116 l l (i : Int)) = some ((true, ()), ())
 | 0, i, h => by
   rw [run_ratchetref05_SameTokens, if_neg (by simp; omega)]
 | k + 1, i, h => by
   have hi : i < l.length := by omega
   have e := sameTk_iff.2 (rfl : l[i] = l[i])
   unfold sameTk at e
   rw [run_ratchetref05_SameTokens, if_pos (by simp; omega), idx_nat, List.getElem?_eq_getElem hi]
   simp only [some_bind']
   rw [e, if_neg (by decide), wrap_i64 (x := (i : Int) + 1) (by omega) (by omega), show ((i : Int) + 1) = ((i + 1 : Nat) : Int) by omega]
   exact SameTokens_from l hl k (i + 1) (by omega)
theorem SameTokens_self (l : List api_LexerToken) (hl : l.length < 60000) : run_ratchetref05_SameTokens (.start l l) = some ((true, ()), ()) := by
  rw [run_ratchetref05_SameTokens, if_neg (by simp)]
  exact SameTokens_from l hl l.length 0 (by omega)

/-! ### token by token -/
/-- the tokens of a text from an offset on -/
inductive Toks (s : ByteArray) : Nat → List api_LexerToken → Prop
 | done (i : Nat) (h : skipT s i = (s.size, 0)) : Toks s i []
 | tok (i : Nat) (l : List api_LexerToken) (h0 : (skipT s i).2 = 0) (h1 : (skipT s i).1 < s.size) (h2 : (tokE s (skipT s i).1).2 = 0) (h : Toks s ((skipT s i).1 + (tokE s (skipT s i).1).1.Text.size) l) : Toks s i ((tokE s (skipT s i).1).1 :: l)
theorem skipT_le {s : ByteArray} {i : Nat} (h : i ≤ s.size) : (skipT s i).1 ≤ s.size ∧ ((skipT s i).2 = 0 → i ≤ (skipT s i).1) := skipE_le (s := s) (s.size - i + 1) i h
theorem toksE_toks {s : ByteArray} : ∀ (k i : Nat) (l : List api_LexerToken), i ≤ s.size → s.size < i + k → (toksE s k i l).2.2 = 0 → ∃ r, toksE s k i l = (l ++ r, 0, 0) ∧ Toks s i r := by
  intro k
  induction k with
  | zero => intro i l h1 h2; omega
  | succ k ih =>
    intro i l h1 h2 h
    have hsk := skipT_le h1
    rw [toksE_succ] at h ⊢
    by_cases h0 : (skipT s i).2 = 0
    · rw [if_pos h0] at h ⊢
      by_cases he : (skipT s i).1 = s.size
      · rw [if_pos he] at h ⊢
        exact ⟨[], by rw [List.append_nil], .done i (Prod.ext he h0)⟩
      · have hp : (skipT s i).1 < s.size := by omega
        have hge := hsk.2 h0
        rw [if_neg he] at h ⊢
        by_cases h3 : (tokE s (skipT s i).1).2 = 0
        · have h4 := tokE_pos hp h3
          obtain ⟨ht1, ht2⟩ := tokE_text hp
          rw [if_pos h3] at h ⊢
          obtain ⟨r, hr, ht⟩ := ih _ _ ht2 (by omega) h
          exact ⟨_ :: r, by rw [hr, List.append_assoc]; rfl, .tok i r h0 hp h3 ht⟩
        · rw [if_neg h3] at h
          exact absurd h h3
    · rw [if_neg h0] at h
      exact absurd h h0
theorem toksT_toks {s : ByteArray} (h : (toksT s).2.2 = 0) : ∃ r, toksT s = (r, 0, 0) ∧ Toks s 0 r := toksE_toks (s.size + 1) 0 [] (Nat.zero_le _) (by omega) h
theorem toks_toksE {s : ByteArray} {i : Nat} {r : List api_LexerToken} (h : Toks s i r) : ∀ (k : Nat) (l : List api_LexerToken), i ≤ s.size → s.size < i + k → toksE s k i l = (l ++ r, 0, 0) := by
  induction h with
  | done i h =>
    intro k l h1 h2
    obtain ⟨k, rfl⟩ : ∃ j, k = j + 1 := ⟨k - 1, by omega⟩
    rw [toksE_succ, h, if_pos rfl, if_pos rfl, List.append_nil]
  | tok i r h0 hp h3 ht ih =>
    intro k l h1 h2
    obtain ⟨k, rfl⟩ : ∃ j, k = j + 1 := ⟨k - 1, by omega⟩
    have hsk := skipT_le h1
    have hge := hsk.2 h0
    have h4 := tokE_pos hp h3
    obtain ⟨ht1, ht2⟩ := tokE_text hp
    rw [toksE_succ, if_pos h0, if_neg (by omega), if_pos h3, ih _ _ ht2 (by omega), List.append_assoc]
    rfl
theorem toks_toksT {s : ByteArray} {r : List api_LexerToken} (h : Toks s 0 r) : toksT s = (r, 0, 0) := toks_toksE h (s.size + 1) [] (Nat.zero_le _) (by omega)
theorem toks_len {s : ByteArray} {i : Nat} {r : List api_LexerToken} (h : Toks s i r) : i ≤ s.size → i + r.length ≤ s.size := by
  induction h with
  | done i h => intro h1; simpa using h1
  | tok i r h0 hp h3 ht ih =>
    intro h1
    have hsk := skipT_le h1
    have hge := hsk.2 h0
    have h4 := tokE_pos hp h3
    obtain ⟨ht1, ht2⟩ := tokE_text hp
    have := ih ht2
    simp
    omega
theorem toksE_len {s : ByteArray} : ∀ (k i : Nat) (l : List api_LexerToken), i ≤ s.size → l.length ≤ i → (toksE s k i l).1.length ≤ s.size := by
  intro k
  induction k with
  | zero => intro i l h1 h2; show l.length ≤ s.size; omega
  | succ k ih =>
    intro i l h1 h2
    have hsk := skipT_le h1
    rw [toksE_succ]
    by_cases h0 : (skipT s i).2 = 0
    · rw [if_pos h0]
      by_cases he : (skipT s i).1 = s.size
      · rw [if_pos he]; show l.length ≤ s.size; omega
      · have hp : (skipT s i).1 < s.size := by omega
        have hge := hsk.2 h0
        rw [if_neg he]
        by_cases h3 : (tokE s (skipT s i).1).2 = 0
        · have h4 := tokE_pos hp h3
          obtain ⟨ht1, ht2⟩ := tokE_text hp
          rw [if_pos h3]
          exact ih _ _ ht2 (by simp; omega)
        · rw [if_neg h3]; exact Nat.zero_le _
    · rw [if_neg h0]; exact Nat.zero_le _
theorem toksT_len (s : ByteArray) : (toksT s).1.length ≤ s.size := toksE_len (s.size + 1) 0 [] (Nat.zero_le _) (Nat.le_refl _)
/-- a token stands in the text -/
theorem opE_has (s : ByteArray) {i : Nat} (hi : i ≤ s.size) : hasW s i (opE s i) = true := by
  have : ∀ (l : List ByteArray) (b : ByteArray), hasW s i b = true → hasW s i (l.foldl (opS s i) b) = true := by
    intro l
    induction l with
    | nil => intro b h; exact h
    | cons o l ih =>
      intro b h
      rw [List.foldl_cons]
      refine ih _ ?_
      unfold opS
      split
      · rename_i ho
        split
        · exact ho
        · exact h
      · exact h
  exact this ops ⟨#[]⟩ (hasW_iff.2 ⟨hi, fun j hj => by cases hj⟩)
theorem runT_has {s : ByteArray} {f : Int → Bool} {i : Nat} (hi : i ≤ s.size) : hasW s i (runT s f i) = true := by
  have h1 := runE_le (s := s) (f := f) (s.size - i) i hi
  have h2 := runT_size (f := f) hi
  refine hasW_iff.2 ⟨by omega, fun j hj => ?_⟩
  unfold runT
  rw [bt_ext s (by omega) (by omega)]
theorem numE_text (i : Int) (w : ByteArray) : (numE i w).1.Text = w ∧ (numE i w).1.At = i := by
  unfold numE
  split
  · exact ⟨rfl, rfl⟩
  · split <;> exact ⟨rfl, rfl⟩
theorem tokE_has {s : ByteArray} {i : Nat} (hi : i < s.size) : hasW s i (tokE s i).1.Text = true := by
  unfold tokE
  split
  · exact runT_has (Nat.le_of_lt hi)
  · split
    · rw [(numE_text _ _).1]
      exact runT_has (Nat.le_of_lt hi)
    · exact opE_has s (Nat.le_of_lt hi)
theorem skip_end (s : ByteArray) : skipT s s.size = (s.size, 0) := by
  unfold skipT
  rw [skipE_succ, if_neg (Nat.lt_irrefl _)]
theorem toks_congr {s : ByteArray} {i j : Nat} {r : List api_LexerToken} (h : skipT s i = skipT s j) (ht : Toks s j r) : Toks s i r := by
  cases ht with
  | done _ h1 => exact .done i (h.trans h1)
  | tok _ l h0 h1 h2 h3 =>
    rw [← h] at h0 h1 h2 h3 ⊢
    exact .tok i l h0 h1 h2 h3
end Go.Proofs.YtfmkleeneddijaaDoor.Ev.F
