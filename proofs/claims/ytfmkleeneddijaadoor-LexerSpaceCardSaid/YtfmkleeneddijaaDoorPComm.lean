/- The comments of a text, and a text stripped. -/
import Derived.Test.YtfmkleeneddijaaDoorPLex
set_option linter.unusedVariables false
set_option linter.unusedSimpArgs false
set_option linter.unnecessarySimpa false
namespace Go.Proofs.YtfmkleeneddijaaDoor.Ev.F
open Go.Proofs.YtfmkleeneddijaaDoor.Ev


/-- all comments from i on; or an error -/
def comsE (s : ByteArray) : Nat → Nat → List api_Range → List api_Range × Nat × Int
 | 0, _, l => (l, 0, 0)
 | k + 1, i, l =>
   if i < s.size then
     match comE s i with
     | none => if perm (bt s i) = true then comsE s k (i + 1) l else ([], i, 15)
     | some (p, c) => if c = 0 then comsE s k p (l ++ [⟨(i : Int), (p : Int) - 1⟩]) else ([], p, c)
   else (l, 0, 0)
theorem comsE_succ (s : ByteArray) (k i : Nat) (l : List api_Range) : comsE s (k + 1) i l = if i < s.size then
     match comE s i with
     | none => if perm (bt s i) = true then comsE s k (i + 1) l else ([], i, 15)
     | some (p, c) => if c = 0 then comsE s k p (l ++ [⟨(i : Int), (p : Int) - 1⟩]) else ([], p, c)
   else (l, 0, 0) := rfl

abbrev comR (r : List api_Range × Nat × Int) : R_lexer_CommentsIn := (((), ((r.2.1 : Int), (r.2.2, ()))), (r.1, ()))
theorem coms_eq {s : ByteArray} (hs : s.size ≤ 60000) : ∀ (k i : Nat) (l : List api_Range), i ≤ s.size → s.size < i + k → l.length ≤ i →
    run_lexer_CommentsIn (.p248 l s (i : Int) 0) = some (comR (comsE s k i l)) := by
  intro k
  induction k with
  | zero => intro i l h1 h2; omega
  | succ k ih =>
    intro i l h1 h2 hl
    rw [run_lexer_CommentsIn, comsE_succ]
    by_cases hi : i < s.size
    · rw [ended_in hi, if_pos hi]
      simp only [some_bind', sc, comment_eq hs h1]
      cases hc : comE s i with
      | none =>
        simp only [Option.isSome_none, step_eq hi hs, some_bind']
        by_cases hp : perm (bt s i) = true
        · simp only [hp, if_true]
          have := ih (i + 1) l (by omega) (by omega) (by omega)
          simpa [sc] using this
        · rw [if_neg hp]
          have h3 : run_lexer_CommentsIn (.p248 l s (i : Int) 15) = some (comR ([], i, 15)) := by
            rw [run_lexer_CommentsIn, ended_err (by decide)]
            simp [some_bind', sc, comR]
          simpa [hp, sc] using h3
      | some pc =>
        obtain ⟨p, c⟩ := pc
        obtain ⟨h3, h4⟩ := comE_le hc
        simp only [Option.isSome_some, Bool.not_true, Bool.false_eq_true, if_false, Bool.not_false, if_true]
        rw [if_pos (fits_one 16 (by simp; omega)), wrap_i64 (by omega) (by omega)]
        by_cases h0 : c = 0
        · subst h0
          rw [if_pos rfl]
          have := ih p (l ++ [⟨(i : Int), (p : Int) - 1⟩]) h3 (by have := h4 rfl; omega) (by have := h4 rfl; simp; omega)
          simpa [sc] using this
        · rw [if_neg h0, run_lexer_CommentsIn, ended_err h0]
          simp [some_bind', sc, comR, h0]
    · obtain rfl : i = s.size := by omega
      rw [ended_out]
      simp [some_bind', sc, comR]
/-- how a text's comments are told -/
def comT (s : ByteArray) : List api_Range × Nat × Int := if 60000 < s.size then ([], 0, 8) else comsE s (s.size + 1) 0 []
theorem CommentsIn_eq (s : ByteArray) : run_lexer_CommentsIn (.start s) = some (comR (comT s)) := by
  rw [run_lexer_CommentsIn]
  simp only [run_lexer_textErr, comT]
  by_cases h : 60000 < s.size
  · rw [if_pos (by simp; omega), if_pos h]
    simp [some_bind', comR]
  · rw [if_neg (by simp; omega), if_neg h]
    simp only [some_bind']
    rw [if_neg (by decide)]
    exact coms_eq (by omega) (s.size + 1) 0 [] (Nat.zero_le _) (by omega) (Nat.le_refl _)

theorem rcm_none (i : Nat) : rcm i none = (((i : Int), ((0, (0, ())), ())), ()) := rfl
theorem rcm_ok (i p : Nat) : rcm i (some (p, 0)) = (((p : Int), ((0, (0, ())), ())), ()) := rfl
theorem rcm_err {i p : Nat} {c : Int} (h : c ≠ 0) : rcm i (some (p, c)) = (((i : Int), (((p : Int), (c, ())), ())), ()) := if_neg h
abbrev rcomR (r : List api_Range × Nat × Int) : R_ratchetref05_Comments := (((), (((r.2.1 : Int), (r.2.2, ())), ())), (r.1, ()))
theorem rcoms_eq {s : ByteArray} (hs : s.size ≤ 60000) : ∀ (k i : Nat) (l : List api_Range), i ≤ s.size → s.size < i + k → l.length ≤ i →
    run_ratchetref05_Comments (.p244 s (i : Int) 0 0 l) = some (rcomR (comsE s k i l)) := by
  intro k
  induction k with
  | zero => intro i l h1 h2; omega
  | succ k ih =>
    intro i l h1 h2 hl
    rw [run_ratchetref05_Comments, comsE_succ]
    by_cases hi : i < s.size
    · rw [if_pos (by simp; omega), if_pos hi, rcomment_eq hs h1]
      cases hc : comE s i with
      | none =>
        rw [rcm_none]
        simp only [some_bind']
        rw [if_neg (by decide), if_neg (by simp), sidx_nat hi]
        simp only [some_bind', IsPermitted_eq]
        by_cases hp : perm (bt s i) = true
        · rw [if_neg (by simp [hp]), if_pos hp, wrap_i64 (by omega) (by omega)]
          exact ih (i + 1) l (by omega) (by omega) (by omega)
        · rw [if_pos (by simpa using hp), if_neg hp]
      | some pc =>
        obtain ⟨p, c⟩ := pc
        obtain ⟨h3, h4⟩ := comE_le hc
        by_cases h0 : c = 0
        · subst h0
          rw [rcm_ok]
          simp only [some_bind', if_pos]
          rw [if_neg (by decide), if_pos (by have := h4 rfl; simp; omega), if_pos (fits_one 16 (by simp; omega)), wrap_i64 (by omega) (by omega)]
          exact ih p (l ++ [⟨(i : Int), (p : Int) - 1⟩]) h3 (by have := h4 rfl; omega) (by have := h4 rfl; simp; omega)
        · rw [rcm_err h0]
          simp only [some_bind', if_neg h0]
          rw [if_pos (by simpa using h0)]
    · rw [if_neg (by simp; omega), if_neg hi]; rfl
theorem Comments_eq (s : ByteArray) : run_ratchetref05_Comments (.start s) = some (rcomR (comT s)) := by
  rw [run_ratchetref05_Comments]
  simp only [run_ratchetref05_TextErr, comT]
  by_cases h : 60000 < s.size
  · rw [if_pos (by simp; omega), if_pos h]
    simp [some_bind', rcomR]
  · rw [if_neg (by simp; omega), if_neg h]
    simp only [some_bind']
    rw [if_neg (by decide)]
    exact rcoms_eq (by omega) (s.size + 1) 0 [] (Nat.zero_le _) (by omega) (Nat.le_refl _)

/-! ### ranges that are equal -/
theorem Ranges_from (l : List api_Range) : ∀ (k i : Nat), l.length ≤ i + k → l.length < 60002 → run_ratchetbase_Ranges (.p116 l l (i : Int)) = some ((true, ()), ())
 | 0, i, h, _ => by
   rw [run_ratchetbase_Ranges, if_neg (by simp; omega)]
 | k + 1, i, h, hl => by
   rw [run_ratchetbase_Ranges]
   by_cases hi : i < l.length
   · rw [if_pos (by simp; omega), idx_nat, List.getElem?_eq_getElem hi]
     simp only [some_bind']
     rw [if_neg (by simp), wrap_i64 (by omega) (by omega)]
     exact Ranges_from l k (i + 1) (by omega) hl
   · rw [if_neg (by simp; omega)]
theorem Ranges_self (l : List api_Range) (h : l.length < 60002) : run_ratchetbase_Ranges (.start l l) = some ((true, ()), ()) := by
  rw [run_ratchetbase_Ranges, if_neg (by simp)]
  exact Ranges_from l l.length 0 (by omega) h

/-! ### a text stripped -/
/-- a blank, but for line feeds -/
def blank (l : List Int) (i : Nat) : List Int := if l[i]? = some 10 then l else l.set i 32
def blanks (l : List Int) : Nat → Nat → List Int
 | 0, _ => l
 | k + 1, i => blanks (blank l i) k (i + 1)
theorem blank_length (l : List Int) (i : Nat) : (blank l i).length = l.length := by unfold blank; split <;> simp
theorem blanks_length : ∀ (k : Nat) (l : List Int) (i : Nat), (blanks l k i).length = l.length
 | 0, l, i => rfl
 | k + 1, l, i => by unfold blanks; rw [blanks_length k, blank_length]
/-- the ranges of comments: each lies within n bytes -/
def okR (n : Nat) (r : api_Range) : Prop := ∃ a b : Nat, r = ⟨(a : Int), (b : Int) - 1⟩ ∧ a < b ∧ b ≤ n
def strip (l : List Int) : List api_Range → List Int
 | [] => l
 | r :: rs => strip (blanks l (r.Hi + 1 - r.Lo).toNat r.Lo.toNat) rs
theorem strip_cons (l : List Int) (r : api_Range) (rs : List api_Range) : strip l (r :: rs) = strip (blanks l (r.Hi + 1 - r.Lo).toNat r.Lo.toNat) rs := rfl
theorem strip_length : ∀ (rs : List api_Range) (l : List Int), (strip l rs).length = l.length
 | [], l => rfl
 | r :: rs, l => by unfold strip; rw [strip_length rs, blanks_length]

theorem comsE_ok {s : ByteArray} : ∀ (k i : Nat) (l : List api_Range), i ≤ s.size → (∀ r ∈ l, okR s.size r) → ∀ r ∈ (comsE s k i l).1, okR s.size r
 | 0, i, l, h1, hl => hl
 | k + 1, i, l, h1, hl => by
   rw [comsE_succ]
   by_cases hi : i < s.size
   · rw [if_pos hi]
     cases hc : comE s i with
     | none =>
       simp only
       split
       · exact comsE_ok k (i + 1) l (by omega) hl
       · intro r hr; cases hr
     | some pc =>
       obtain ⟨p, c⟩ := pc
       obtain ⟨h3, h4⟩ := comE_le hc
       simp only
       split
       · rename_i h0
         refine comsE_ok k p _ h3 fun r hr => ?_
         rcases List.mem_append.1 hr with h | h
         · exact hl r h
         · obtain rfl := List.mem_singleton.1 h
           exact ⟨i, p, rfl, by have := h4 h0; omega, h3⟩
       · intro r hr; cases hr
   · rw [if_neg hi]; exact hl
theorem comsE_len {s : ByteArray} : ∀ (k i : Nat) (l : List api_Range), l.length ≤ i → i ≤ s.size → (comsE s k i l).1.length ≤ s.size
 | 0, i, l, hl, h1 => by show l.length ≤ s.size; omega
 | k + 1, i, l, hl, h1 => by
   rw [comsE_succ]
   by_cases hi : i < s.size
   · rw [if_pos hi]
     cases hc : comE s i with
     | none =>
       simp only
       split
       · exact comsE_len k (i + 1) l (by omega) (by omega)
       · exact Nat.zero_le _
     | some pc =>
       obtain ⟨p, c⟩ := pc
       obtain ⟨h3, h4⟩ := comE_le hc
       simp only
       split
       · rename_i h0
         exact comsE_len k p _ (by have := h4 h0; simp; omega) h3
       · exact Nat.zero_le _
   · rw [if_neg hi]; simp only; omega

/-- the program's inner loop -/
theorem pblank_eq (rs : List api_Range) (n a b : Nat) (s27 s28 : Int) (hab : a ≤ b) (hn : b ≤ n) (hn2 : n ≤ 60000) : ∀ (k i : Nat) (l : List Int), l.length = n → a + i + k = b →
    run_lexer_Stripped (.p256412 (a, b) s27 s28 (a, b) ((b - a : Nat) : Int) (i : Int) l rs) = run_lexer_Stripped (.p500 s27 (IntKind.wrap .i64 (s28 + 1)) (blanks l k (a + i)) rs)
 | 0, i, l, hl, h => by
   conv => lhs; rw [run_lexer_Stripped]
   rw [if_neg (by simp; omega)]
   rfl
 | k + 1, i, l, hl, h => by
   conv => lhs; rw [run_lexer_Stripped]
   rw [if_pos (by simp; omega), if_pos (by simp; omega), show ((a : Int) + (i : Int)) = ((a + i : Nat) : Int) by omega, idx_nat]
   have hai : a + i < l.length := by omega
   rw [List.getElem?_eq_getElem hai]
   simp only [some_bind']
   rw [wrap_i64 (x := (i : Int) + 1) (by omega) (by omega)]
   have ih := fun l' (hl' : l'.length = n) => pblank_eq rs n a b s27 s28 hab hn hn2 k (i + 1) l' hl' (by omega)
   have e1 : ((i : Int) + 1) = ((i + 1 : Nat) : Int) := by omega
   unfold blanks blank
   rw [List.getElem?_eq_getElem hai]
   by_cases h10 : l[a + i] = 10
   · rw [if_neg (by simp [h10]), if_pos (by rw [h10]), e1, ih l hl]
     rfl
   · rw [if_pos (by simpa using h10), if_pos (by simp; omega), if_neg (by simpa using h10), e1, Int.toNat_natCast, ih _ (by simp; exact hl)]
     rfl
theorem pstrip_eq {n : Nat} (hn : n ≤ 60000) : ∀ (rs0 : List api_Range) (k i : Nat) (l : List Int), l.length = n → (∀ r ∈ rs0, okR n r) → i + k = rs0.length → rs0.length ≤ 60000 →
    run_lexer_Stripped (.p500 (rs0.length : Int) (i : Int) l rs0) = some (((bytesStr (strip l (rs0.drop i)), ((0 : Int), ((0 : Int), ())))), ()) := by
  intro rs0 k
  induction k with
  | zero =>
    intro i l hl hok hik hlen
    rw [run_lexer_Stripped, if_neg (by simp; omega), List.drop_eq_nil_of_le (by omega)]
    rfl
  | succ k ih =>
    intro i l hl hok hik hlen
    have hi : i < rs0.length := by omega
    rw [run_lexer_Stripped, if_pos (by simp; omega), if_pos (by simp; omega), idx_nat, List.getElem?_eq_getElem hi]
    simp only [some_bind']
    obtain ⟨a, b, hr, hab, hb⟩ := hok _ (List.getElem_mem hi)
    rw [hr]
    simp only
    rw [wrap_i64 (by omega) (by omega), show ((b : Int) - 1 + 1) = (b : Int) by omega, span_nat (by omega) (by omega)]
    simp only [some_bind']
    have := pblank_eq rs0 n a b (rs0.length : Int) (i : Int) (by omega) (by omega) hn (b - a) 0 l hl (by omega)
    rw [show ((0 : Nat) : Int) = 0 from rfl] at this
    rw [this, wrap_i64 (by omega) (by omega), show ((i : Int) + 1) = ((i + 1 : Nat) : Int) by omega, ih (i + 1) _ (by rw [blanks_length]; exact hl) hok (by omega) hlen, List.drop_eq_getElem_cons hi, hr]
    rw [strip_cons]
    simp only
    rw [show ((b : Int) - 1 + 1 - (a : Int)).toNat = b - a by omega, Int.toNat_natCast, Nat.add_zero]
def stripT (s : ByteArray) : ByteArray := bytesStr (strip (strBytes s) (comT s).1)
theorem strBytes_len (s : ByteArray) : (strBytes s).length = s.size := by unfold strBytes; rw [List.length_map]; exact sizeL s
theorem comT_ok (s : ByteArray) : ∀ r ∈ (comT s).1, okR s.size r := by
  unfold comT
  split
  · intro r hr; cases hr
  · exact comsE_ok _ _ _ (Nat.zero_le _) (fun r hr => by cases hr)
theorem comT_len (s : ByteArray) : (comT s).1.length ≤ 60000 := by
  unfold comT
  split
  · exact Nat.zero_le _
  · have := comsE_len (s := s) (s.size + 1) 0 [] (Nat.le_refl _) (Nat.zero_le _); omega
theorem comT_size {s : ByteArray} (h : (comT s).2.2 = 0) : s.size ≤ 60000 := by
  unfold comT at h
  split at h
  · simp at h
  · omega
theorem Stripped_eq (s : ByteArray) : run_lexer_Stripped (.start s) = some (if (comT s).2.2 = 0 then ((stripT s, (0, (0, ()))), ()) else ((⟨#[]⟩, (((comT s).2.1 : Int), ((comT s).2.2, ()))), ())) := by
  rw [run_lexer_Stripped, CommentsIn_eq]
  simp only [some_bind']
  by_cases h : (comT s).2.2 = 0
  · rw [if_neg (by simpa using h), if_pos h]
    have := pstrip_eq (comT_size h) (comT s).1 (comT s).1.length 0 (strBytes s) (strBytes_len s) (comT_ok s) (by omega) (comT_len s)
    simpa [stripT] using this
  · rw [if_pos (by simpa using h), if_neg h]

/-- the reference's inner loop -/
theorem rblank_eq (rs : List api_Range) (i : Nat) (r : api_Range) (hr : rs[i]? = some r) (n b : Nat) (hrb : r.Hi = (b : Int) - 1) (hn : b ≤ n) (hn2 : n ≤ 60000) : ∀ (k a : Nat) (l : List Int), l.length = n → a + k = b →
    run_ratchetref05_Stripped (.p7460 rs (i : Int) (a : Int) l) = run_ratchetref05_Stripped (.p116 rs (IntKind.wrap .i64 ((i : Int) + 1)) (blanks l k a))
 | 0, a, l, hl, h => by
   conv => lhs; rw [run_ratchetref05_Stripped]
   rw [idx_nat, hr]
   simp only [some_bind', hrb]
   rw [if_neg (by simp; omega)]
   rfl
 | k + 1, a, l, hl, h => by
   conv => lhs; rw [run_ratchetref05_Stripped]
   rw [idx_nat, hr]
   simp only [some_bind', hrb]
   have ha : a < l.length := by omega
   rw [if_pos (by simp; omega), if_pos (by simp; omega), idx_nat, List.getElem?_eq_getElem ha]
   simp only [some_bind']
   rw [wrap_i64 (x := (a : Int) + 1) (by omega) (by omega)]
   have ih := fun l' (hl' : l'.length = n) => rblank_eq rs i r hr n b hrb hn hn2 k (a + 1) l' hl' (by omega)
   have e1 : ((a : Int) + 1) = ((a + 1 : Nat) : Int) := by omega
   unfold blanks blank
   rw [List.getElem?_eq_getElem ha]
   by_cases h10 : l[a] = 10
   · rw [if_neg (by simp [h10]), if_pos (by rw [h10]), e1, ih l hl]
   · rw [if_pos (by simpa using h10), if_pos (by simp; omega), if_neg (by simpa using h10), e1, Int.toNat_natCast, ih _ (by simp; exact hl)]
theorem rstrip_eq {n : Nat} (hn : n ≤ 60000) : ∀ (rs0 : List api_Range) (k i : Nat) (l : List Int), l.length = n → (∀ r ∈ rs0, okR n r) → i + k = rs0.length → rs0.length ≤ 60000 →
    run_ratchetref05_Stripped (.p116 rs0 (i : Int) l) = some ((bytesStr (strip l (rs0.drop i)), ()), ()) := by
  intro rs0 k
  induction k with
  | zero =>
    intro i l hl hok hik hlen
    rw [run_ratchetref05_Stripped, if_neg (by simp; omega), List.drop_eq_nil_of_le (by omega)]
    rfl
  | succ k ih =>
    intro i l hl hok hik hlen
    have hi : i < rs0.length := by omega
    rw [run_ratchetref05_Stripped, if_pos (by simp; omega), idx_nat, List.getElem?_eq_getElem hi]
    simp only [some_bind']
    obtain ⟨a, b, hr, hab, hb⟩ := hok _ (List.getElem_mem hi)
    have e0 : (rs0[i]).Lo = (a : Int) := by rw [hr]
    rw [e0, rblank_eq rs0 i rs0[i] (List.getElem?_eq_getElem hi) n b (by rw [hr]) hb hn (b - a) a l hl (by omega), wrap_i64 (by omega) (by omega), show ((i : Int) + 1) = ((i + 1 : Nat) : Int) by omega,
      ih (i + 1) _ (by rw [blanks_length]; exact hl) hok (by omega) hlen, List.drop_eq_getElem_cons hi, hr]
    rw [strip_cons]
    simp only
    rw [show ((b : Int) - 1 + 1 - (a : Int)).toNat = b - a by omega, Int.toNat_natCast]
theorem rStripped_eq (s : ByteArray) (h : (comT s).2.2 = 0) : run_ratchetref05_Stripped (.start s (comT s).1) = some ((stripT s, ()), ()) := by
  rw [run_ratchetref05_Stripped]
  have := rstrip_eq (comT_size h) (comT s).1 (comT s).1.length 0 (strBytes s) (strBytes_len s) (comT_ok s) (by omega) (comT_len s)
  simpa [stripT] using this

theorem comT_err {s : ByteArray} (h : (comT s).2.2 ≠ 0) : (comT s).1 = [] := by
  have key : ∀ (k i : Nat) (l : List api_Range), (comsE s k i l).2.2 ≠ 0 → (comsE s k i l).1 = [] := by
    intro k
    induction k with
    | zero => intro i l h; exact absurd rfl h
    | succ k ih =>
      intro i l h
      rw [comsE_succ] at h ⊢
      by_cases hi : i < s.size
      · rw [if_pos hi] at h ⊢
        cases hc : comE s i with
        | none =>
          simp only [hc] at h ⊢
          split at h
          · rename_i hp; rw [if_pos hp]; exact ih _ _ h
          · rename_i hp; rw [if_neg hp]
        | some pc =>
          obtain ⟨p, c⟩ := pc
          simp only [hc] at h ⊢
          split at h
          · rename_i hp; rw [if_pos hp]; exact ih _ _ h
          · rename_i hp; rw [if_neg hp]
      · rw [if_neg hi] at h; exact absurd rfl h
  unfold comT at h ⊢
  split
  · rfl
  · rename_i hs
    rw [if_neg hs] at h
    exact key _ _ _ h

theorem comT_at {s : ByteArray} (h : (comT s).2.2 = 0) : (comT s).2.1 = 0 := by
  have key : ∀ (k i : Nat) (l : List api_Range), (comsE s k i l).2.2 = 0 → (comsE s k i l).2.1 = 0 := by
    intro k
    induction k with
    | zero => intro i l h; rfl
    | succ k ih =>
      intro i l h
      rw [comsE_succ] at h ⊢
      by_cases hi : i < s.size
      · rw [if_pos hi] at h ⊢
        cases hc : comE s i with
        | none =>
          simp only [hc] at h ⊢
          split at h
          · rename_i hp; rw [if_pos hp]; exact ih _ _ h
          · cases h
        | some pc =>
          obtain ⟨p, c⟩ := pc
          simp only [hc] at h ⊢
          split at h
          · rename_i hp; rw [if_pos hp]; exact ih _ _ h
          · rename_i hp; exact absurd h hp
      · rw [if_neg hi]
  unfold comT at h ⊢
  split
  · rfl
  · rename_i hs
    rw [if_neg hs] at h
    exact key _ _ _ h
theorem comments_true (s : ByteArray) : run_ratchetlaw05_LexerComments (.start s) = some ((true, ()), ()) := by
  rw [run_ratchetlaw05_LexerComments]
  simp only [some_bind', Bool.not_true, Bool.false_eq_true, if_false]
  split
  · rfl
  · have e := Stripped_eq s
    by_cases h : (comT s).2.2 = 0
    · rw [if_pos h] at e
      simp only [CommentsIn_eq, e, Comments_eq, some_bind', comR, rcomR, h, comT_at h, bne_self_eq_false, Bool.false_eq_true, if_false]
      rw [if_neg (by decide), run_ratchetlaw05_LexerComments, if_neg (by decide), Ranges_self _ (by have := comT_len s; omega)]
      simp only [some_bind', rStripped_eq s h, if_true, seq_self]
    · rw [if_neg h] at e
      simp only [CommentsIn_eq, e, Comments_eq, some_bind', bne_self_eq_false, Bool.false_eq_true, if_false]
      rw [run_ratchetlaw05_LexerComments, if_pos (by simpa using h), if_pos (by rw [comT_err h]; rfl), seq_self]
end Go.Proofs.YtfmkleeneddijaaDoor.Ev.F
