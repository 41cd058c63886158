/- The reference's tokens. -/
import Derived.Test.YtfmkleeneddijaaGreatDoorPLit
set_option linter.unusedVariables false
set_option linter.unusedSimpArgs false
set_option linter.unnecessarySimpa false
namespace Go.Proofs.YtfmkleeneddijaaGreatDoor.Ev.F
open Go.Proofs.YtfmkleeneddijaaGreatDoor.Ev

theorem HasText_from (w : ByteArray) (l : List ByteArray) (hl : l.length < 60000) : ∀ (k i : Nat), i + k = l.length → run_ratchetbase_HasText (.p52 l w (i : Int)) = some (((l.drop i).any fun k => seq w k, ()), ())
 | 0, i, h => by
   rw [run_ratchetbase_HasText, if_neg (by simp; omega), List.drop_eq_nil_of_le (by omega)]
   rfl
 | k + 1, i, h => by
   have hi : i < l.length := by omega
   have hc : seq l[i] w = seq w l[i] := by rw [Bool.eq_iff_iff, seq_iff, seq_iff]; exact eq_comm
   rw [run_ratchetbase_HasText, if_pos (by simp; omega), idx_nat, List.getElem?_eq_getElem hi, List.drop_eq_getElem_cons hi]
   simp only [some_bind', List.any_cons]
   rw [hc]
   by_cases hs : seq w l[i] = true
   · rw [if_pos hs, hs]; rfl
   · rw [if_neg hs, wrap_i64 (by omega) (by omega), show ((i : Int) + 1) = ((i + 1 : Nat) : Int) by omega, HasText_from w l hl k (i + 1) (by omega)]
     simp at hs
     simp [hs]
theorem HasText_eq (w : ByteArray) (l : List ByteArray) (hl : l.length < 60000) : run_ratchetbase_HasText (.start l w) = some ((l.any fun k => seq w k, ()), ()) := by
  rw [run_ratchetbase_HasText]
  exact HasText_from w l hl l.length 0 (by omega)
theorem rKeywords_eq : run_ratchetref05_Keywords .start = some ((kws, ()), ()) := by rw [run_ratchetref05_Keywords]; rfl
theorem rOperators_eq : run_ratchetref05_Operators .start = some ((ops, ()), ()) := by rw [run_ratchetref05_Operators]; rfl

/-- what the reference says of a token -/
abbrev rtk (i : Nat) (r : api_LexerToken × Int) : R_ratchetref05_token :=
  if r.2 = 0 then ((tkR r.1, ((0, (0, ())), ())), ()) else (((0, (0, (⟨#[]⟩, (0, (0, ()))))), (((i : Int), (r.2, ())), ())), ())
theorem rword_loop {s : ByteArray} (hs : s.size ≤ 60000) (i : Nat) (c : Int) (a0 a1 a3 a4 b0 b1 c0 c1 c3 c4 : Int) (a2 c2 : ByteArray) : ∀ (k j : Nat), j + k = s.size →
    run_ratchetref05_token (.p976 s (i : Int) c (j : Int) a0 a1 a2 a3 a4 b0 b1 c0 c1 c2 c3 c4) = run_ratchetref05_token (.p245 s (i : Int) c ((runE s isWd k j : Nat) : Int) a0 a1 a2 a3 a4 b0 b1 c0 c1 c2 c3 c4) := by
  intro k
  induction k with
  | zero =>
    intro j h
    conv => lhs; rw [run_ratchetref05_token]
    rw [if_neg (by simp; omega)]
    rfl
  | succ k ih =>
    intro j h
    have hj : j < s.size := by omega
    have hr : runE s isWd (k + 1) j = if isWd (bt s j) = true then runE s isWd k (j + 1) else j := by
      show (if j < s.size then (if isWd (bt s j) = true then runE s isWd k (j + 1) else j) else j) = _
      rw [if_pos hj]
    rw [hr]
    conv => lhs; rw [run_ratchetref05_token]
    rw [if_pos (by simp; omega), sidx_nat hj]
    simp only [some_bind', rIsLetter_eq, rIsDigit_eq]
    rw [wrap_i64 (x := (j : Int) + 1) (by omega) (by omega), show ((j : Int) + 1) = ((j + 1 : Nat) : Int) by omega, ih (j + 1) (by omega)]
    unfold isWd
    cases isLet (bt s j) with
    | true => rfl
    | false =>
      cases isDig (bt s j) with
      | true => rfl
      | false =>
        rw [if_neg (by decide), if_neg (by decide)]
        cases bt s j == 95 <;> rfl
theorem rnum_loop {s : ByteArray} (hs : s.size ≤ 60000) (i : Nat) (a0 a1 a3 a4 b0 b1 c0 c1 c3 c4 : Int) (a2 c2 : ByteArray) : ∀ (k j : Nat), j + k = s.size →
    run_ratchetref05_token (.p2000 s (i : Int) (j : Int) a0 a1 a2 a3 a4 b0 b1 c0 c1 c2 c3 c4) = run_ratchetref05_token (.p501 s (i : Int) ((runE s isNum k j : Nat) : Int) a0 a1 a2 a3 a4 b0 b1 c0 c1 c2 c3 c4) := by
  intro k
  induction k with
  | zero =>
    intro j h
    conv => lhs; rw [run_ratchetref05_token]
    rw [if_neg (by simp; omega)]
    rfl
  | succ k ih =>
    intro j h
    have hj : j < s.size := by omega
    have hr : runE s isNum (k + 1) j = if isNum (bt s j) = true then runE s isNum k (j + 1) else j := by
      show (if j < s.size then (if isNum (bt s j) = true then runE s isNum k (j + 1) else j) else j) = _
      rw [if_pos hj]
    rw [hr]
    conv => lhs; rw [run_ratchetref05_token]
    rw [if_pos (by simp; omega), sidx_nat hj]
    simp only [some_bind', rIsLetter_eq, rIsDigit_eq]
    rw [wrap_i64 (x := (j : Int) + 1) (by omega) (by omega), show ((j : Int) + 1) = ((j + 1 : Nat) : Int) by omega, ih (j + 1) (by omega)]
    unfold isNum isWd
    cases isLet (bt s j) with
    | true => rfl
    | false =>
      cases isDig (bt s j) with
      | true => rfl
      | false =>
        rw [if_neg (by decide), if_neg (by decide)]
        cases bt s j == 95 with
        | true => rfl
        | false =>
          rw [if_neg (by decide)]
          cases bt s j == 39 <;> rfl
theorem rop_loop {s : ByteArray} (hs : s.size ≤ 60000) {i : Nat} (hi : i < s.size) (c : Int) (a0 a1 a3 a4 b0 b1 c0 c1 c3 c4 : Int) (a2 : ByteArray) (l : List ByteArray) (hl : l.length < 60000) (hw : ∀ w ∈ l, w.size ≤ 100) : ∀ (k j : Nat) (best : ByteArray), j + k = l.length →
    run_ratchetref05_token (.p2036 s (i : Int) c l (j : Int) a0 a1 a2 a3 a4 b0 b1 c0 c1 best c3 c4) = run_ratchetref05_token (.p2036 s (i : Int) c l (l.length : Int) a0 a1 a2 a3 a4 b0 b1 c0 c1 ((l.drop j).foldl (opS s i) best) c3 c4) := by
  intro k
  induction k with
  | zero =>
    intro j best h
    obtain rfl : j = l.length := by omega
    rw [List.drop_eq_nil_of_le (Nat.le_refl _)]
    rfl
  | succ k ih =>
    intro j best h
    have hj : j < l.length := by omega
    conv => lhs; rw [run_ratchetref05_token]
    rw [if_pos (by simp; omega), idx_nat, List.getElem?_eq_getElem hj]
    simp only [some_bind', rhas_eq (Nat.le_of_lt hi) hs (hw _ (List.getElem_mem hj))]
    rw [List.drop_eq_getElem_cons hj, List.foldl_cons]
    have hj1 : IntKind.wrap .i64 ((j : Int) + 1) = ((j + 1 : Nat) : Int) := by rw [wrap_i64 (by omega) (by omega)]; omega
    have e1 : ∀ b : Bool, run_ratchetref05_token (.p32585 s (i : Int) c l (j : Int) b a0 a1 a2 a3 a4 b0 b1 c0 c1 best c3 c4) = run_ratchetref05_token (.p2036 s (i : Int) c l (l.length : Int) a0 a1 a2 a3 a4 b0 b1 c0 c1 ((l.drop (j + 1)).foldl (opS s i) (if b = true then l[j] else best)) c3 c4) := by
      intro b
      rw [← ih (j + 1) _ (by omega)]
      conv => lhs; rw [run_ratchetref05_token]
      cases b with
      | true =>
        rw [if_pos rfl, idx_nat, List.getElem?_eq_getElem hj]
        simp only [some_bind', hj1, if_true]
      | false =>
        rw [if_neg (by decide), hj1]
        simp
    rw [e1, e1]
    unfold opS
    cases hh : hasW s i l[j] with
    | true =>
      rw [if_pos rfl, if_pos rfl]
      by_cases hb : best.size < l[j].size
      · rw [if_pos (by simp; omega), if_pos hb]
      · rw [if_neg (by simp; omega), if_neg hb]
    | false => rw [if_neg (by decide), if_neg (by decide), if_neg (by decide)]
theorem ops_small : ∀ w ∈ ops, w.size ≤ 100 := by decide
theorem rtoken_eq {s : ByteArray} (hs : s.size ≤ 60000) {i : Nat} (hi : i < s.size) : run_ratchetref05_token (.start s (i : Int)) = some (rtk i (tokE s i)) := by
  rw [run_ratchetref05_token, sidx_nat hi]
  simp only [some_bind', rIsLetter_eq, rIsDigit_eq]
  have hbnd : ∀ f, i ≤ runE s f (s.size - i) i ∧ runE s f (s.size - i) i ≤ s.size := fun f => runE_le (s.size - i) i (Nat.le_of_lt hi)
  by_cases hl : isLet (bt s i) = true
  · have ht : tokE s i = (⟨(wordE s i).1, (i : Int), runT s isWd i, 0, 0⟩, (wordE s i).2) := by unfold tokE; rw [if_pos hl]
    rw [if_pos hl, rword_loop hs i _ _ _ _ _ _ _ _ _ _ _ _ _ (s.size - i) i (by omega), run_ratchetref05_token, span_nat (hbnd isWd).1 (hbnd isWd).2, ht]
    simp only [some_bind', rKeywords_eq, HasText_eq _ kws (by decide), rIsCapital_eq]
    have hb := hbnd isWd
    have hsz := runT_size (f := isWd) (Nat.le_of_lt hi)
    rw [wrap_i64 (x := ((runE s isWd (s.size - i) i : Nat) : Int) - (i : Int)) (by omega) (by omega)]
    unfold wordE
    by_cases h16 : 16 < (runT s isWd i).size
    · rw [if_pos (by simp; omega), if_pos h16]
      rfl
    · rw [if_neg (by simp; omega), if_neg h16]
      change (if isKw (runT s isWd i) = true then _ else _) = _
      by_cases hk : isKw (runT s isWd i) = true
      · rw [if_pos hk, if_pos hk]; rfl
      · rw [if_neg hk, if_neg hk]
        by_cases hc : isCap (bt s i) = true
        · rw [if_pos hc, if_pos hc]; rfl
        · rw [if_neg hc, if_neg hc]; rfl
  · rw [if_neg hl]
    by_cases hd : isDig (bt s i) = true
    · have ht : tokE s i = numE i (runT s isNum i) := by unfold tokE; rw [if_neg hl, if_pos hd]
      have hb := hbnd isNum
      have hsz := runT_size (f := isNum) (Nat.le_of_lt hi)
      rw [if_pos hd, rnum_loop hs i _ _ _ _ _ _ _ _ _ _ _ _ (s.size - i) i (by omega), run_ratchetref05_token, span_nat hb.1 hb.2, ht]
      simp only [some_bind']
      change (run_ratchetref05_number (.start (runT s isNum i)) >>= _) = _
      obtain ⟨x, h1, h2⟩ := rNumber_eq (runT s isNum i) (by omega)
      rw [h1]
      simp only [some_bind']
      unfold numE
      by_cases hk : natOk (runT s isNum i) = true
      · rw [if_pos hk, if_pos hk, h2 hk]; rfl
      · rw [if_neg hk, if_neg hk]
        change (run_ratchetref05_Literal (.start (runT s isNum i)) >>= _) = _
        rw [rLiteral_eq (by omega)]
        simp only [some_bind', litR]
        by_cases h0 : (litE (runT s isNum i)).2.2 = 0
        · rw [if_neg (by simpa using h0), if_pos h0]; rfl
        · rw [if_pos (by simpa using h0), if_neg h0]
          unfold rtk
          rw [if_neg h0]
    · have ht : tokE s i = (⟨5, (i : Int), opE s i, 0, 0⟩, if opE s i = ⟨#[]⟩ then (if perm (bt s i) = true then 7 else 15) else 0) := by unfold tokE; rw [if_neg hl, if_neg hd]
      rw [if_neg hd, rOperators_eq]
      simp only [some_bind']
      have := rop_loop hs hi (bt s i) 0 0 0 0 0 0 0 (i : Int) 0 0 ⟨#[]⟩ ops (by decide) ops_small ops.length 0 ⟨#[]⟩ (by omega)
      have z0 : ((0 : Nat) : Int) = 0 := rfl
      rw [z0] at this
      rw [this, ht, run_ratchetref05_token, if_neg (by simp)]
      have ho : (List.drop 0 ops).foldl (opS s i) ⟨#[]⟩ = opE s i := rfl
      rw [ho]
      by_cases h : opE s i = ⟨#[]⟩
      · rw [if_pos (seq_iff.2 h), if_pos h]
        simp only [IsPermitted_eq, some_bind']
        cases hp : perm (bt s i) with
        | true => rw [if_neg (by decide)]; rfl
        | false => rw [if_pos (by decide)]; rfl
      · rw [if_neg (by rw [seq_iff]; exact h), if_neg h]; rfl
/-- the reference's space and comments -/
theorem rskip_loop {s : ByteArray} (hs : s.size ≤ 60000) : ∀ (k i : Nat), i ≤ s.size → s.size < i + k → ∃ (x y : Int),
    run_ratchetref05_Skipped (.p24 s (i : Int) 0 0) = some ((x, ((y, ((skipE s k i).2, ())), ())), ()) ∧ ((skipE s k i).2 = 0 → x = ((skipE s k i).1 : Int) ∧ y = 0) ∧ ((skipE s k i).2 ≠ 0 → y = ((skipE s k i).1 : Int)) := by
  intro k
  induction k with
  | zero => intro i h1 h2; omega
  | succ k ih =>
    intro i h1 h2
    rw [run_ratchetref05_Skipped, skipE_succ]
    by_cases hi : i < s.size
    · rw [if_pos (by simp; omega), if_pos hi, sidx_nat hi]
      simp only [some_bind', rIsSpace_eq]
      cases hsp : isSp (bt s i) with
      | true =>
        rw [if_pos rfl, if_pos rfl, wrap_i64 (x := (i : Int) + 1) (by omega) (by omega), show ((i : Int) + 1) = ((i + 1 : Nat) : Int) by omega]
        exact ih (i + 1) (by omega) (by omega)
      | false =>
        rw [if_neg (by decide), if_neg (by decide), rcomment_eq hs h1]
        cases hc : comE s i with
        | none =>
          rw [show rcm i none = (((i : Int), ((0, (0, ())), ())), ()) from rfl]
          simp only [some_bind']
          rw [if_neg (by decide), if_pos (by simp)]
          exact ⟨(i : Int), 0, rfl, fun _ => ⟨rfl, rfl⟩, fun h => absurd rfl h⟩
        | some pc =>
          obtain ⟨p, c⟩ := pc
          obtain ⟨h3, h4⟩ := comE_le hc
          by_cases h0 : c = 0
          · subst h0
            have h5 := h4 rfl
            rw [show rcm i (some (p, 0)) = (((p : Int), ((0, (0, ())), ())), ()) from rfl]
            simp only [some_bind', if_true]
            rw [if_neg (by decide), if_neg (by simp; omega)]
            exact ih p h3 (by omega)
          · rw [show rcm i (some (p, c)) = (((i : Int), (((p : Int), (c, ())), ())), ()) from if_neg h0]
            simp only [some_bind', if_neg h0]
            rw [if_pos (by simpa using h0)]
            exact ⟨(i : Int), (p : Int), rfl, fun h => absurd h h0, fun _ => rfl⟩
    · obtain rfl : i = s.size := by omega
      rw [if_neg (by simp), if_neg hi]
      exact ⟨(s.size : Int), 0, rfl, fun _ => ⟨rfl, rfl⟩, fun h => absurd rfl h⟩
theorem rskip_eq {s : ByteArray} (hs : s.size ≤ 60000) {i : Nat} (hi : i ≤ s.size) : ∃ (x y : Int),
    run_ratchetref05_Skipped (.start s (i : Int)) = some ((x, ((y, ((skipT s i).2, ())), ())), ()) ∧ ((skipT s i).2 = 0 → x = ((skipT s i).1 : Int) ∧ y = 0) ∧ ((skipT s i).2 ≠ 0 → y = ((skipT s i).1 : Int)) := by
  rw [run_ratchetref05_Skipped]
  exact rskip_loop hs (s.size - i + 1) i hi (by omega)
end Go.Proofs.YtfmkleeneddijaaGreatDoor.Ev.F
