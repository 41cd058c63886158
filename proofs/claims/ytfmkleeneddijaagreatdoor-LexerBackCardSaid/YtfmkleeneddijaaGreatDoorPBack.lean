/- Tokens spaced are the same tokens. -/
import Derived.Test.YtfmkleeneddijaaGreatDoorPLocal
import Derived.Test.YtfmkleeneddijaaGreatDoorPCheck
set_option linter.unusedVariables false
set_option linter.unusedSimpArgs false
set_option linter.unnecessarySimpa false
namespace Go.Proofs.YtfmkleeneddijaaGreatDoor.Ev.F
open Go.Proofs.YtfmkleeneddijaaGreatDoor.Ev

theorem joinL_cons (a : List UInt8) (c : List (List UInt8)) : Lib.join (a :: c) [32] = a ++ (if c = [] then [] else 32 :: Lib.join c [32]) := by
  cases c with
  | nil => simp [Lib.join, List.intercalate]
  | cons d c => simp [Lib.join, List.intercalate, List.intersperse]
theorem joinB_cons (x : ByteArray) (l : List ByteArray) : (joinB (x :: l)).data.toList = x.data.toList ++ (if l = [] then [] else 32 :: (joinB l).data.toList) := by
  rw [joinB_data, List.map_cons, joinL_cons]
  by_cases hl : l = []
  · subst hl; rfl
  · rw [if_neg (by simpa using hl), if_neg hl, joinB_data]
theorem toks_congr {s : ByteArray} {i j : Nat} {r : List api_LexerToken} (h : skipT s i = skipT s j) (ht : Toks s j r) : Toks s i r := by
  cases ht with
  | done _ h1 => exact .done i (h.trans h1)
  | tok _ l h0 h1 h2 h3 =>
    rw [← h] at h0 h1 h2 h3 ⊢
    exact .tok i l h0 h1 h2 h3
/-- the tokens where they stand when they are spaced -/
def reloc : Nat → List api_LexerToken → List api_LexerToken
 | _, [] => []
 | q, t :: r => atTk t q :: reloc (q + t.Text.size + 1) r
theorem reloc_len : ∀ (r : List api_LexerToken) (q : Nat), (reloc q r).length = r.length
 | [], _ => rfl
 | t :: r, q => by show (reloc _ r).length + 1 = r.length + 1; rw [reloc_len r]
theorem drop_size {m : ByteArray} {q : Nat} {l : List UInt8} (h : m.data.toList.drop q = l) (hq : q ≤ m.size) : q + l.length = m.size := by
  rw [← h, List.length_drop, sizeL]; omega
theorem drop_has {m w : ByteArray} {q : Nat} {l : List UInt8} (h : m.data.toList.drop q = w.data.toList ++ l) (hq : q ≤ m.size) : hasW m q w = true := by
  have hs := drop_size h hq
  rw [List.length_append, sizeL] at hs
  refine hasW_iff.2 ⟨by omega, fun j hj => ?_⟩
  have e : m.data.toList[q + j]? = w.data.toList[j]? := by
    rw [← List.getElem?_drop, h, List.getElem?_append_left (by rw [sizeL]; exact hj)]
  unfold bt
  rw [List.getD, List.getD, e]
theorem drop_nx {m w : ByteArray} {q : Nat} {c : UInt8} {l : List UInt8} (h : m.data.toList.drop q = w.data.toList ++ c :: l) (hq : q ≤ m.size) : q + w.size < m.size ∧ bt m (q + w.size) = (c.toNat : Int) := by
  have hs := drop_size h hq
  rw [List.length_append, sizeL, List.length_cons] at hs
  refine ⟨by omega, bt_get ?_⟩
  rw [← List.getElem?_drop, h, List.getElem?_append_right (by rw [sizeL]; exact Nat.le_refl _), sizeL, Nat.sub_self, List.getElem?_cons_zero]
theorem back_toks {s m : ByteArray} {i : Nat} {r : List api_LexerToken} (h : Toks s i r) : ∀ q, q ≤ m.size → m.data.toList.drop q = (joinB (r.map (·.Text))).data.toList → Toks m q (reloc q r) := by
  induction h with
  | done i h =>
    intro q hq hd
    have := drop_size hd hq
    have e : (joinB []).data.toList.length = 0 := rfl
    rw [List.map_nil, e] at this
    obtain rfl : q = m.size := by omega
    exact .done _ (skip_end m)
  | tok i r h0 hp h3 ht ih =>
    intro q hq hd
    rw [List.map_cons, joinB_cons] at hd
    have hw := drop_has hd hq
    have hn : stop (nx m (q + (tokE s (skipT s i).1).1.Text.size)) := by
      by_cases hr : List.map (·.Text) r = []
      · rw [if_pos hr] at hd
        have := drop_size hd hq
        rw [List.append_nil, sizeL] at this
        unfold nx
        rw [if_neg (by omega)]
        exact .inl rfl
      · rw [if_neg hr] at hd
        obtain ⟨g1, g2⟩ := drop_nx hd hq
        rw [nx_lt g1, g2]
        exact .inr (.inl rfl)
    obtain ⟨hlt, htk⟩ := tok_local hp h3 hw (.inr hn)
    have h0' : (tokE m q).2 = 0 := by rw [htk]
    obtain ⟨f1, f2⟩ := tok_first hlt h0'
    have hsk := skip_none hlt f1 f2
    have hx := (hasW_iff.1 hw).1
    show Toks m q (atTk (tokE s (skipT s i).1).1 q :: reloc (q + (tokE s (skipT s i).1).1.Text.size + 1) r)
    have key : Toks m (q + (tokE s (skipT s i).1).1.Text.size) (reloc (q + (tokE s (skipT s i).1).1.Text.size + 1) r) := by
      by_cases hr : List.map (·.Text) r = []
      · have hr' : r = [] := by simpa using hr
        rw [if_pos hr] at hd
        have := drop_size hd hq
        rw [List.append_nil, sizeL] at this
        rw [this, hr']
        exact .done _ (skip_end m)
      · rw [if_neg hr] at hd
        obtain ⟨g1, g2⟩ := drop_nx hd hq
        refine toks_congr (skip_space g1 (by rw [g2]; rfl)) (ih _ (by omega) ?_)
        have e : m.data.toList.drop (q + (tokE s (skipT s i).1).1.Text.size + 1) = ((m.data.toList.drop q).drop (tokE s (skipT s i).1).1.Text.size).drop 1 := by rw [List.drop_drop, List.drop_drop, Nat.add_assoc]
        rw [e, hd, List.drop_left' (sizeL _)]
        rfl
    have := Toks.tok (s := m) q (reloc (q + (tokE s (skipT s i).1).1.Text.size + 1) r) (by rw [hsk]) (by rw [hsk]; exact hlt) (by rw [hsk]; exact h0') (by rw [hsk, htk]; exact key)
    rw [hsk, htk] at this
    exact this
theorem tok_kind {s : ByteArray} {p : Nat} (h0 : (tokE s p).2 = 0) : 0 ≤ (tokE s p).1.Kind ∧ (tokE s p).1.Kind ≤ 5 := by
  unfold tokE
  split
  · unfold wordE
    split
    · exact ⟨show (0 : Int) ≤ 0 by decide, show (0 : Int) ≤ 5 by decide⟩
    · split
      · exact ⟨show (0 : Int) ≤ 2 by decide, show (2 : Int) ≤ 5 by decide⟩
      · split
        · exact ⟨show (0 : Int) ≤ 1 by decide, show (1 : Int) ≤ 5 by decide⟩
        · exact ⟨show (0 : Int) ≤ 0 by decide, show (0 : Int) ≤ 5 by decide⟩
  · split
    · unfold numE
      split
      · exact ⟨show (0 : Int) ≤ 3 by decide, show (3 : Int) ≤ 5 by decide⟩
      · split
        · exact ⟨show (0 : Int) ≤ 4 by decide, show (4 : Int) ≤ 5 by decide⟩
        · exact ⟨show (0 : Int) ≤ 0 by decide, show (0 : Int) ≤ 5 by decide⟩
    · exact ⟨show (0 : Int) ≤ 5 by decide, show (5 : Int) ≤ 5 by decide⟩
theorem hasW_self (w : ByteArray) : hasW w 0 w = true := hasW_iff.2 ⟨by omega, fun j hj => by rw [Nat.zero_add]⟩
theorem tok_chk {s : ByteArray} {p : Nat} (hp : p < s.size) (h0 : (tokE s p).2 = 0) : chkE (tokE s p).1 = 0 := by
  have hs : stop (nx (tokE s p).1.Text (0 + (tokE s p).1.Text.size)) := by
    unfold nx
    rw [if_neg (by omega)]
    exact .inl rfl
  obtain ⟨h1, h2⟩ := tok_local (s' := (tokE s p).1.Text) (q := 0) hp h0 (hasW_self _) (.inr hs)
  have h3 : (tokE (tokE s p).1.Text 0).2 = 0 := by rw [h2]
  obtain ⟨f1, f2⟩ := tok_first h1 h3
  have hsk := skip_none h1 f1 f2
  have hn : nextE (tokE s p).1.Text 0 = (atTk (tokE s p).1 0, 0) := by
    unfold nextE
    rw [hsk, if_pos rfl, if_neg (by omega), if_pos h3, h2]
    rfl
  have ht := tokE_text hp
  unfold chkE
  rw [if_pos (tok_kind h0), if_neg (by rw [ht.1]; omega), if_pos]
  unfold chk
  rw [hn]
  exact sameTk_iff.2 rfl
theorem back_err {s : ByteArray} {i : Nat} {r : List api_LexerToken} (h : Toks s i r) : errE r = 0 := by
  induction h with
  | done i h => rfl
  | tok i r h0 hp h3 ht ih =>
    unfold errE
    rw [if_pos (tok_chk hp h3), ih]
theorem back_size {s : ByteArray} {i : Nat} {r : List api_LexerToken} (h : Toks s i r) : i ≤ s.size → (joinB (r.map (·.Text))).size ≤ 2 * (s.size - i) ∧ ∀ t ∈ r, t.Text.size ≤ s.size := by
  induction h with
  | done i h => intro h1; exact ⟨Nat.zero_le _, fun t ht => by cases ht⟩
  | tok i r h0 hp h3 ht ih =>
    intro h1
    have hsk := skipT_le h1
    have hge := hsk.2 h0
    have h4 := tokE_pos hp h3
    obtain ⟨ht1, ht2⟩ := tokE_text hp
    obtain ⟨i1, i2⟩ := ih ht2
    constructor
    · rw [List.map_cons, ← sizeL, joinB_cons, List.length_append, sizeL]
      split
      · simp; omega
      · rw [List.length_cons, sizeL]
        omega
    · intro t hm
      rcases List.mem_cons.1 hm with rfl | hm
      · omega
      · exact i2 t hm
theorem back_loop (l : List api_LexerToken) (hl : l.length ≤ 400) (hx : ∀ t ∈ l, t.Text.size ≤ 400) : ∀ (r pre pre' : List api_LexerToken) (q : Nat), pre ++ r = l → pre'.length = pre.length → q ≤ 401 * pre.length →
    run_ratchetlaw05_LexerBack (.p16372 (q : Int) (pre.length : Int) l (pre' ++ reloc q r)) = some ((true, ()), ()) := by
  intro r
  induction r with
  | nil =>
    intro pre pre' q h h2 hq
    obtain rfl : pre = l := by rw [← h, List.append_nil]
    rw [run_ratchetlaw05_LexerBack, if_neg (by simp)]
  | cons t r ih =>
    intro pre pre' q h h2 hq
    have hlt : pre.length < l.length := by rw [← h]; simp
    have hg : l[pre.length]? = some t := by rw [← h, List.getElem?_append_right (Nat.le_refl _), Nat.sub_self, List.getElem?_cons_zero]
    have hm := hx t (List.mem_of_getElem? hg)
    have hg2 : (pre' ++ reloc q (t :: r))[pre.length]? = some (atTk t q) := by
      rw [List.getElem?_append_right (by omega), show pre.length - pre'.length = 0 by omega]
      rfl
    have hlen : pre.length < (pre' ++ reloc q (t :: r)).length := (List.getElem?_eq_some_iff.1 hg2).1
    have hq2 : 401 * pre.length ≤ 401 * 400 := Nat.mul_le_mul_left _ (by omega)
    rw [run_ratchetlaw05_LexerBack, if_pos (by simp; omega), if_pos (by simp; omega), idx_nat, hg]
    simp only [some_bind']
    rw [if_pos (by simp only [Bool.and_eq_true, decide_eq_true_eq]; omega), idx_nat, hg2]
    simp only [some_bind', atTk]
    have hsm := sameTk_iff.2 (rfl : atTk t q = atTk t q)
    unfold sameTk atTk at hsm
    simp only at hsm
    rw [hsm, if_neg (by decide), wrap_i64 (x := (q : Int) + (t.Text.size : Int)) (by omega) (by omega), wrap_i64 (x := (q : Int) + (t.Text.size : Int) + 1) (by omega) (by omega), wrap_i64 (x := (pre.length : Int) + 1) (by omega) (by omega)]
    have := ih (pre ++ [t]) (pre' ++ [atTk t q]) (q + t.Text.size + 1) (by rw [List.append_assoc]; exact h) (by simp [h2]) (by simp; omega)
    rw [List.append_assoc] at this
    simp only [List.length_append, List.length_cons, List.length_nil] at this
    rw [show ((q : Int) + (t.Text.size : Int) + 1) = ((q + t.Text.size + 1 : Nat) : Int) by omega, show ((pre.length : Int) + 1) = ((pre.length + (0 + 1) : Nat) : Int) by omega]
    exact this
theorem back_true (s : ByteArray) : run_ratchetlaw05_LexerBack (.start s) = some ((true, ()), ()) := by
  rw [run_ratchetlaw05_LexerBack]
  simp only [some_bind', Bool.not_true, Bool.false_eq_true, if_false]
  by_cases hs : s.size ≤ 400
  · rw [if_neg (by simp; omega), Tokens_eq (by omega)]
    simp only [some_bind']
    by_cases h0 : (toksT s).2.2 = 0
    · obtain ⟨r, hr, ht⟩ := toksT_toks h0
      have hlen := toks_len ht (Nat.zero_le _)
      obtain ⟨b1, b2⟩ := back_size ht (Nat.zero_le _)
      have hx : ∀ t ∈ r, t.Text.size ≤ 400 := fun t h => by have := b2 t h; omega
      rw [if_neg (by simpa using h0), hr]
      simp only
      rw [if_pos (fits_one 48 (by simp; omega)), List.nil_append, Spaced_eq (by omega) hx (by omega)]
      simp only [some_bind', spR]
      rw [if_pos (back_err ht), Tokens_eq (s := joinB (r.map (·.Text))) (by omega)]
      simp only [some_bind']
      have hm : Toks (joinB (r.map (·.Text))) 0 (reloc 0 r) := back_toks ht 0 (Nat.zero_le _) rfl
      rw [toks_toksT hm, if_neg (show ¬ ((0 : Int) != 0) = true by decide), if_neg (show ¬ ((0 : Int) != 0) = true by decide), if_neg (by simp [reloc_len]), run_ratchetlaw05_LexerBack]
      exact back_loop r (by omega) hx r [] [] 0 rfl rfl (by simp)
    · rw [if_pos (by simpa using h0)]
  · rw [if_pos (by simp; omega)]
end Go.Proofs.YtfmkleeneddijaaGreatDoor.Ev.F
