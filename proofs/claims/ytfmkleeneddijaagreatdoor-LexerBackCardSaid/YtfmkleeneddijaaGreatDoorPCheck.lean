/- Tokens checked and spaced. -/
import Derived.Test.YtfmkleeneddijaaGreatDoorPToks
import Derived.Lib.Join
set_option linter.unusedVariables false
set_option linter.unusedSimpArgs false
set_option linter.unnecessarySimpa false
namespace Go.Proofs.YtfmkleeneddijaaGreatDoor.Ev.F
open Go.Proofs.YtfmkleeneddijaaGreatDoor.Ev

/-- is the text of a token this one token -/
noncomputable def chk (t : api_LexerToken) : Bool := (nextE t.Text 0).2 == 0 && sameTk (nextE t.Text 0).1 ⟨t.Kind, 0, t.Text, t.Value, t.Width⟩
noncomputable def chkE (t : api_LexerToken) : Int := if 0 ≤ t.Kind ∧ t.Kind ≤ 5 then (if t.At < 0 then 2 else if chk t = true then 0 else 3) else 15
theorem CheckToken_eq {t : api_LexerToken} (hs : t.Text.size ≤ 60000) : run_lexer_CheckToken (.start t.Kind t.At t.Text t.Value t.Width) = some ((chkE t, ()), ()) := by
  rw [run_lexer_CheckToken]
  simp only [run_lexer_within]
  unfold chkE
  by_cases h0 : 0 ≤ t.Kind
  · rw [if_pos (by simpa using h0)]
    simp only [some_bind']
    by_cases h5 : t.Kind ≤ 5
    · rw [if_neg (by simp; omega), if_pos (show 0 ≤ t.Kind ∧ t.Kind ≤ 5 from ⟨h0, h5⟩)]
      by_cases ha : t.At < 0
      · rw [if_pos (by simpa using ha), if_pos ha]
      · rw [if_neg (by simpa using ha), if_neg ha, show (0 : Int) = ((0 : Nat) : Int) from rfl, NextToken_eq hs (Nat.zero_le _)]
        simp only [some_bind', tkR]
        unfold chk sameTk
        by_cases hn : (nextE t.Text 0).2 = 0
        · rw [if_neg (by simpa using hn)]
          have e1 : ((nextE t.Text 0).2 == 0) = true := by simpa using hn
          rw [e1, Bool.true_and]
          have z0 : ((0 : Nat) : Int) = 0 := rfl
          rw [z0]
          generalize ((nextE t.Text 0).1.Kind == t.Kind && ((nextE t.Text 0).1.At == 0 && (seq (nextE t.Text 0).1.Text t.Text && ((nextE t.Text 0).1.Value == t.Value && ((nextE t.Text 0).1.Width == t.Width && true))))) = b
          cases b <;> rfl
        · rw [if_pos (by simpa using hn)]
          have e1 : ((nextE t.Text 0).2 == 0) = false := by simpa using hn
          rw [e1, Bool.false_and]
          rfl
    · rw [if_pos (by simp; omega), if_neg (by omega)]
  · rw [if_neg (by simpa using h0)]
    simp only [some_bind']
    rw [if_pos (by decide), if_neg (by omega)]
/-- the end of TokenErr -/
theorem skip_end (s : ByteArray) : skipT s s.size = (s.size, 0) := by
  unfold skipT
  rw [skipE_succ, if_neg (Nat.lt_irrefl _)]
theorem toksE_pre {s : ByteArray} : ∀ (k i : Nat) (l : List api_LexerToken), (toksE s k i l).2.2 = 0 → ∃ r, (toksE s k i l).1 = l ++ r := by
  intro k
  induction k with
  | zero => intro i l h; exact ⟨[], (List.append_nil _).symm⟩
  | succ k ih =>
    intro i l h
    rw [toksE_succ] at h ⊢
    by_cases h0 : (skipT s i).2 = 0
    · rw [if_pos h0] at h ⊢
      by_cases he : (skipT s i).1 = s.size
      · rw [if_pos he]
        exact ⟨[], (List.append_nil _).symm⟩
      · rw [if_neg he] at h ⊢
        by_cases h3 : (tokE s (skipT s i).1).2 = 0
        · rw [if_pos h3] at h ⊢
          obtain ⟨r, hr⟩ := ih _ _ h
          exact ⟨_ :: r, by rw [hr, List.append_assoc]; rfl⟩
        · rw [if_neg h3] at h
          exact absurd h h3
    · rw [if_neg h0] at h
      exact absurd h h0
theorem TokenErr_eq {t : api_LexerToken} (hs : t.Text.size ≤ 3999) : run_ratchetref05_TokenErr (.start t.Kind t.At t.Text t.Value t.Width) = some ((chkE t, ()), ()) := by
  rw [run_ratchetref05_TokenErr]
  simp only [Within_eq, some_bind']
  unfold chkE
  by_cases h5 : 0 ≤ t.Kind ∧ t.Kind ≤ 5
  · rw [if_neg (by simp [h5.1, h5.2]), if_pos h5]
    by_cases ha : t.At < 0
    · rw [if_pos (by simpa using ha), if_pos ha]
    · rw [if_neg (by simpa using ha), if_neg ha, rTokens_eq hs]
      simp only [some_bind']
      have hsk := skipT_le (s := t.Text) (Nat.zero_le _)
      have key : chk t = true ↔ (toksT t.Text).2.2 = 0 ∧ ∃ u, (toksT t.Text).1 = [u] ∧ sameTk u ⟨t.Kind, 0, t.Text, t.Value, t.Width⟩ = true := by
        unfold chk nextE toksT
        rw [toksE_succ]
        by_cases h0 : (skipT t.Text 0).2 = 0
        · rw [if_pos h0, if_pos h0]
          by_cases he : (skipT t.Text 0).1 = t.Text.size
          · rw [if_pos he, if_pos he]
            simp
          · have hp : (skipT t.Text 0).1 < t.Text.size := by omega
            rw [if_neg he, if_neg he]
            by_cases h3 : (tokE t.Text (skipT t.Text 0).1).2 = 0
            · have h4 := tokE_pos hp h3
              obtain ⟨ht1, ht2⟩ := tokE_text hp
              rw [if_pos h3, if_pos h3]
              simp only [BEq.rfl, Bool.true_and, List.nil_append]
              constructor
              · intro hm
                have e := sameTk_iff.1 hm
                have e1 : (skipT t.Text 0).1 = 0 := by
                  have := congrArg api_LexerToken.At e
                  simp only at this
                  omega
                have e2 := congrArg api_LexerToken.Text e
                simp only at e2
                rw [e2, e1, Nat.zero_add]
                have hsz : t.Text.size ≠ 0 := by omega
                obtain ⟨k, hk⟩ : ∃ k, t.Text.size = k + 1 := ⟨t.Text.size - 1, by omega⟩
                have := toksE_succ t.Text k t.Text.size [(tokE t.Text 0).1]
                rw [← hk, skip_end, if_pos rfl, if_pos rfl] at this
                rw [this]
                exact ⟨rfl, _, rfl, by rw [e1] at hm; exact hm⟩
              · rintro ⟨h6, u, h7, h8⟩
                obtain ⟨r, hr⟩ := toksE_pre _ _ _ h6
                rw [hr] at h7
                have : (tokE t.Text (skipT t.Text 0).1).1 = u := by injection h7
                rw [this]
                exact h8
            · rw [if_neg h3, if_neg h3]
              have : ((tokE t.Text (skipT t.Text 0).1).2 == 0) = false := by simpa using h3
              simp [this, h3]
        · rw [if_neg h0, if_neg h0]
          have : ((skipT t.Text 0).2 == 0) = false := by simpa using h0
          simp [this, h0]
      by_cases h0 : (toksT t.Text).2.2 = 0
      · rw [if_neg (by simpa using h0)]
        rcases hl : (toksT t.Text).1 with _ | ⟨u, _ | ⟨u2, l2⟩⟩
        · rw [if_pos (by simp)]
          have : ¬ chk t = true := fun h => by obtain ⟨_, u, h1, _⟩ := key.1 h; rw [hl] at h1; cases h1
          rw [if_neg this]
        · have hc : chk t = sameTk u ⟨t.Kind, 0, t.Text, t.Value, t.Width⟩ := by
            rw [Bool.eq_iff_iff, key, hl]
            constructor
            · rintro ⟨_, u', h1, h2⟩
              have : u = u' := by injection h1
              rw [this]; exact h2
            · exact fun h => ⟨h0, u, rfl, h⟩
          rw [hc]
          simp only [List.length_cons, List.length_nil]
          rw [if_neg (by decide)]
          have hi : idx [u] (0 : Int) = some u := rfl
          simp only [hi, some_bind']
          have hb : (decide ((0 : Int) ≤ 0) && decide ((0 : Int) < ((0 + 1 : Nat) : Int))) = true := rfl
          simp only [hb, if_true]
          unfold sameTk
          simp only
          by_cases c1 : u.At = 0
          · rw [if_neg (by simpa using c1)]
            have d1 : (u.At == 0) = true := by simpa using c1
            rw [d1]
            cases c2 : seq u.Text t.Text with
            | false => simp
            | true =>
              by_cases c3 : u.Kind = t.Kind
              · by_cases c4 : u.Value = t.Value
                · by_cases c5 : u.Width = t.Width
                  · simp [c3, c4, c5]
                  · simp [c3, c4, c5]
                · simp [c3, c4]
              · simp [c3]
          · rw [if_pos (by simpa using c1)]
            have d1 : (u.At == 0) = false := by simpa using c1
            rw [d1]
            simp
        · rw [if_pos (by simp; omega)]
          have : ¬ chk t = true := fun h => by obtain ⟨_, u, h1, _⟩ := key.1 h; rw [hl] at h1; simp at h1
          rw [if_neg this]
      · rw [if_pos (by simpa using h0)]
        have : ¬ chk t = true := fun h => h0 (key.1 h).1
        rw [if_neg this]
  · rw [if_pos (by simp; omega), if_neg h5]

/-! ### tokens spaced -/
abbrev bl : ByteArray := ⟨#[32]⟩
/-- texts with blanks between them -/
def joinB (l : List ByteArray) : ByteArray := ⟨(Lib.join (l.map (·.data.toList)) [32]).toArray⟩
theorem joinB_data (l : List ByteArray) : (joinB l).data.toList = Lib.join (l.map (·.data.toList)) [32] := rfl
theorem joinL_app (x : List UInt8) : ∀ (l : List (List UInt8)), l ≠ [] → Lib.join (l ++ [x]) [32] = Lib.join l [32] ++ ([32] ++ x)
 | [], h => absurd rfl h
 | [a], _ => by simp [Lib.join, List.intercalate]
 | a :: b :: l, _ => by
   have h := joinL_app x (b :: l) (List.cons_ne_nil _ _)
   have e : ∀ (c : List (List UInt8)), c ≠ [] → Lib.join (a :: c) [32] = a ++ ([32] ++ Lib.join c [32]) := by
     intro c hc
     cases c with
     | nil => exact absurd rfl hc
     | cons d c => simp [Lib.join, List.intercalate, List.intersperse]
   rw [List.cons_append, e _ (by simp), h, e _ (List.cons_ne_nil _ _)]
   simp
theorem data_app (a b : ByteArray) : (a ++ b).data.toList = a.data.toList ++ b.data.toList := by simp
theorem joinB_one (x : ByteArray) : joinB [x] = x := byte_ext (by rw [joinB_data]; simp [Lib.join, List.intercalate])
theorem joinB_app (l : List ByteArray) (x : ByteArray) (h : l ≠ []) : joinB (l ++ [x]) = (joinB l ++ bl) ++ x := byte_ext (by
  rw [joinB_data, data_app, data_app, joinB_data, List.map_append, List.map_singleton, joinL_app _ _ (by simpa using h)]
  simp)
/-- the first error of tokens -/
noncomputable def errE : List api_LexerToken → Int
 | [] => 0
 | t :: l => if chkE t = 0 then errE l else chkE t
theorem size_app (a b : ByteArray) : (a ++ b).size = a.size + b.size := by simp
theorem joinB_size : ∀ (n : Nat) (l : List ByteArray), l.length = n → (∀ x ∈ l, x.size ≤ 400) → (joinB l).size ≤ 401 * l.length := by
  intro n
  induction n with
  | zero => intro l h hx; rw [List.length_eq_zero_iff.1 h]; exact Nat.le_refl _
  | succ n ih =>
    intro l h hx
    rcases List.eq_nil_or_concat l with rfl | ⟨l', x, rfl⟩
    · exact absurd h (by simp)
    · simp only [List.concat_eq_append] at *
      have hxx := hx x (by simp)
      by_cases hl : l' = []
      · subst hl
        rw [List.nil_append, joinB_one]
        simp
        omega
      · rw [joinB_app _ _ hl, size_app, size_app]
        have := ih l' (by simpa using h) (fun y hy => hx y (by simp [hy]))
        have hb : bl.size = 1 := rfl
        simp
        omega
noncomputable abbrev spR (l : List api_LexerToken) : R_lexer_Spaced := (if errE l = 0 then (joinB (l.map (·.Text)), (0, ())) else (⟨#[]⟩, (errE l, ())), ())
theorem Spaced_loop {l : List api_LexerToken} (hl : l.length ≤ 4000) (hx : ∀ t ∈ l, t.Text.size ≤ 400) (hj : (joinB (l.map (·.Text))).size ≤ 60000) : ∀ (r pre : List api_LexerToken), pre ++ r = l →
    run_lexer_Spaced (.p244 l (l.length : Int) (pre.length : Int) (pre.map (·.Text))) = some (if errE r = 0 then (joinB (l.map (·.Text)), (0, ())) else (⟨#[]⟩, (errE r, ())), ()) := by
  intro r
  induction r with
  | nil =>
    intro pre h
    obtain rfl : pre = l := by rw [← h, List.append_nil]
    rw [run_lexer_Spaced, if_neg (by simp)]
    have hr : joinRun (pre.map (·.Text), (⟨#[32]⟩ : ByteArray), ()) () = some ((joinB (pre.map (·.Text)), ()), ()) := by
      have h1 : Nat.ble (pre.map (·.Text)).length 140737488355328 = true := Nat.ble_eq_true_of_le (by rw [List.length_map]; omega)
      have hq : (Lib.join ((pre.map (·.Text)).map (·.data.toList)) [32]).length = (joinB (pre.map (·.Text))).size := by
        rw [← joinB_data, sizeL]
      have h2 : Nat.ble (Lib.join ((pre.map (·.Text)).map (·.data.toList)) (⟨#[32]⟩ : ByteArray).data.toList).length 140737488355328 = true := Nat.ble_eq_true_of_le (by
        change (Lib.join ((pre.map (·.Text)).map (·.data.toList)) [32]).length ≤ _
        omega)
      unfold joinRun
      simp only [h1, h2, Bool.and_self, cond_true]
      rfl
    rw [hr]
    simp only [some_bind', textErr_eq hj]
    rw [if_neg (by decide)]
    rfl
  | cons t r ih =>
    intro pre h
    have hlt : pre.length < l.length := by rw [← h]; simp
    have hg : l[pre.length]? = some t := by rw [← h, List.getElem?_append_right (Nat.le_refl _), Nat.sub_self, List.getElem?_cons_zero]
    have hm : t ∈ l := List.mem_of_getElem? hg
    rw [run_lexer_Spaced, if_pos (by simp; omega), idx_nat, hg]
    simp only [some_bind', CheckToken_eq (show t.Text.size ≤ 60000 by have := hx t hm; omega)]
    unfold errE
    by_cases hc : chkE t = 0
    · rw [if_neg (by simpa using hc), if_pos hc, if_pos (fits_one 16 (by simp; omega)), wrap_i64 (x := (pre.length : Int) + 1) (by omega) (by omega)]
      have := ih (pre ++ [t]) (by rw [List.append_assoc]; exact h)
      simp only [List.length_append, List.length_cons, List.length_nil, List.map_append, List.map_cons, List.map_nil] at this
      rw [show ((pre.length : Int) + 1) = ((pre.length + (0 + 1) : Nat) : Int) by omega]
      exact this
    · rw [if_pos (by simpa using hc), if_neg hc, if_neg hc]
theorem Spaced_eq {l : List api_LexerToken} (hl : l.length ≤ 4000) (hx : ∀ t ∈ l, t.Text.size ≤ 400) (hj : (joinB (l.map (·.Text))).size ≤ 60000) : run_lexer_Spaced (.start l) = some (spR l) := by
  rw [run_lexer_Spaced, if_neg (by simp; omega)]
  exact Spaced_loop hl hx hj l [] rfl
theorem rSpaced_loop {l : List api_LexerToken} (hl : l.length ≤ 40) (hx : ∀ t ∈ l, t.Text.size ≤ 400) : ∀ (r pre : List api_LexerToken), pre ++ r = l →
    run_ratchetref05_Spaced (.p244 l (joinB (pre.map (·.Text))) (pre.length : Int)) = some (if errE r = 0 then (joinB (l.map (·.Text)), (0, ())) else (⟨#[]⟩, (errE r, ())), ()) := by
  have hsz : ∀ pre : List api_LexerToken, (∃ r, pre ++ r = l) → (joinB (pre.map (·.Text))).size ≤ 401 * 40 := by
    rintro pre ⟨r, h⟩
    have h1 : pre.length ≤ l.length := by rw [← h]; simp
    have := joinB_size _ (pre.map (·.Text)) rfl (fun x hxx => by
      obtain ⟨t, ht, rfl⟩ := List.mem_map.1 hxx
      exact hx t (by rw [← h]; simp [ht]))
    rw [List.length_map] at this
    have : 401 * pre.length ≤ 401 * 40 := Nat.mul_le_mul_left _ (by omega)
    omega
  intro r
  induction r with
  | nil =>
    intro pre h
    obtain rfl : pre = l := by rw [← h, List.append_nil]
    have := hsz pre ⟨[], h⟩
    rw [run_ratchetref05_Spaced, if_neg (by simp), if_neg (by simp; omega)]
    rfl
  | cons t r ih =>
    intro pre h
    have hlt : pre.length < l.length := by rw [← h]; simp
    have hg : l[pre.length]? = some t := by rw [← h, List.getElem?_append_right (Nat.le_refl _), Nat.sub_self, List.getElem?_cons_zero]
    have hm : t ∈ l := List.mem_of_getElem? hg
    have ht := hx t hm
    have hp := hsz pre ⟨_, h⟩
    rw [run_ratchetref05_Spaced, if_pos (by simp; omega), idx_nat, hg]
    simp only [some_bind', TokenErr_eq (show t.Text.size ≤ 3999 by omega)]
    unfold errE
    by_cases hc : chkE t = 0
    · rw [if_neg (by simpa using hc), if_pos hc]
      have hih := ih (pre ++ [t]) (by rw [List.append_assoc]; exact h)
      have hw : IntKind.wrap .i64 ((pre.length : Int) + 1) = ((pre ++ [t]).length : Int) := by
        rw [wrap_i64 (by omega) (by omega)]; simp
      have last : ∀ z : ByteArray, z.size ≤ 20000 → z ++ t.Text = joinB ((pre ++ [t]).map (·.Text)) → run_ratchetref05_Spaced (.p7827 l z (pre.length : Int)) = some (if errE r = 0 then (joinB (l.map (·.Text)), (0, ())) else (⟨#[]⟩, (errE r, ())), ()) := by
        intro z hz he
        rw [run_ratchetref05_Spaced, idx_nat, hg]
        simp only [some_bind']
        rw [if_pos (Nat.ble_eq_true_of_le (by omega)), hw, he]
        exact hih
      have hb : (⟨#[32]⟩ : ByteArray).size = 1 := rfl
      by_cases hpn : pre = []
      · subst hpn
        rw [if_neg (by decide)]
        refine last _ (by omega) ?_
        rw [List.nil_append, List.map_singleton, joinB_one]
        exact byte_ext (by rw [data_app]; rfl)
      · have hpl : 0 < pre.length := List.length_pos_iff.2 hpn
        rw [if_pos (by simp; omega), if_pos (Nat.ble_eq_true_of_le (by omega))]
        refine last _ (by rw [size_app]; omega) ?_
        rw [List.map_append, List.map_singleton, joinB_app _ _ (by simpa using hpn)]
    · rw [if_pos (by simpa using hc), if_neg hc, if_neg hc]
theorem spaced_fin {l : List api_LexerToken} (hl : l.length ≤ 40) (hx : ∀ t ∈ l, t.Text.size ≤ 40) : run_ratchetlaw05_LexerSpaced (.p244 l (l.length : Int)) = some ((true, ()), ()) := by
  have hx' : ∀ t ∈ l, t.Text.size ≤ 400 := fun t ht => by have := hx t ht; omega
  have hj : (joinB (l.map (·.Text))).size ≤ 60000 := by
    have := joinB_size _ (l.map (·.Text)) rfl (fun x hxx => by
      obtain ⟨t, ht, rfl⟩ := List.mem_map.1 hxx
      exact hx' t ht)
    rw [List.length_map] at this
    have : 401 * l.length ≤ 401 * 40 := Nat.mul_le_mul_left _ hl
    omega
  rw [run_ratchetlaw05_LexerSpaced, if_neg (by simp), if_pos (fits_one 48 (by simp; omega)), List.nil_append, Spaced_eq (by omega) hx' hj]
  have := rSpaced_loop hl hx' l [] rfl
  simp only [some_bind']
  rw [run_ratchetref05_Spaced, if_neg (by simp; omega)]
  have e : run_ratchetref05_Spaced (.p244 l ⟨#[]⟩ 0) = _ := this
  rw [e]
  simp only [some_bind', spR]
  rw [if_pos (by simp), seq_self]
theorem spaced_loop {l : List api_LexerToken} (hl : l.length ≤ 40) : ∀ (k i : Nat), i + k = l.length → (∀ t ∈ l.take i, t.Text.size ≤ 40) → run_ratchetlaw05_LexerSpaced (.p244 l (i : Int)) = some ((true, ()), ()) := by
  intro k
  induction k with
  | zero =>
    intro i h hx
    obtain rfl : i = l.length := by omega
    rw [List.take_length] at hx
    exact spaced_fin hl hx
  | succ k ih =>
    intro i h hx
    have hi : i < l.length := by omega
    rw [run_ratchetlaw05_LexerSpaced, if_pos (by simp; omega), idx_nat, List.getElem?_eq_getElem hi]
    simp only [some_bind']
    by_cases ht : 40 < l[i].Text.size
    · rw [if_pos (by simp; omega)]
    · rw [if_neg (by simp; omega), CheckToken_eq (by omega)]
      simp only [some_bind']
      rw [TokenErr_eq (by omega)]
      simp only [some_bind']
      rw [if_neg (by simp), wrap_i64 (x := (i : Int) + 1) (by omega) (by omega), show ((i : Int) + 1) = ((i + 1 : Nat) : Int) by omega]
      refine ih (i + 1) (by omega) fun t htt => ?_
      rw [List.take_add_one, List.getElem?_eq_getElem hi] at htt
      simp only [Option.toList_some, List.mem_append, List.mem_singleton] at htt
      rcases htt with h1 | rfl
      · exact hx t h1
      · omega
theorem spaced_true (l : List api_LexerToken) : run_ratchetlaw05_LexerSpaced (.start l) = some ((true, ()), ()) := by
  rw [run_ratchetlaw05_LexerSpaced]
  simp only [some_bind', Bool.not_true, Bool.false_eq_true, if_false]
  by_cases hl : l.length ≤ 40
  · rw [if_neg (by simp; omega)]
    exact spaced_loop hl l.length 0 (by omega) (by simp)
  · rw [if_pos (by simp; omega)]
end Go.Proofs.YtfmkleeneddijaaGreatDoor.Ev.F
