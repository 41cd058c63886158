/- A token is what its bytes and the next one say, wherever it stands. -/
import Derived.Test.YtfmkleeneddijaaDoorPSeq
set_option linter.unusedVariables false
set_option linter.unusedSimpArgs false
set_option linter.unnecessarySimpa false
namespace Go.Proofs.YtfmkleeneddijaaDoor.Ev.F
open Go.Proofs.YtfmkleeneddijaaDoor.Ev

/-- the byte there, or -1 behind the end -/
def nx (s : ByteArray) (i : Nat) : Int := if i < s.size then bt s i else -1
/-- the run that begins here: its end is the first place where f fails -/
theorem runE_end {s : ByteArray} {f : Int → Bool} : ∀ (k i j : Nat), s.size ≤ i + k → i ≤ j → j ≤ s.size → (∀ n, i ≤ n → n < j → f (bt s n) = true) → (j < s.size → f (bt s j) = false) → runE s f k i = j
 | 0, i, j, h0, h1, h2, h3, h4 => by
   show i = j
   omega
 | k + 1, i, j, h0, h1, h2, h3, h4 => by
   show (if i < s.size then (if f (bt s i) = true then runE s f k (i + 1) else i) else i) = j
   by_cases hi : i < s.size
   · rw [if_pos hi]
     by_cases hij : i = j
     · subst hij
       rw [if_neg (by rw [h4 hi]; exact Bool.false_ne_true)]
     · rw [if_pos (h3 i (Nat.le_refl _) (by omega))]
       exact runE_end k (i + 1) j (by omega) (by omega) h2 (fun n g1 g2 => h3 n (by omega) g2) h4
   · rw [if_neg hi]; omega
theorem runE_spec {s : ByteArray} {f : Int → Bool} : ∀ (k i : Nat), s.size ≤ i + k → i ≤ s.size → (∀ n, i ≤ n → n < runE s f k i → f (bt s n) = true) ∧ (runE s f k i < s.size → f (bt s (runE s f k i)) = false)
 | 0, i, h0, h1 => by
   constructor
   · intro n g1 g2
     have : n < i := g2
     omega
   · intro g
     have : i < s.size := g
     omega
 | k + 1, i, h0, h1 => by
   have e : runE s f (k + 1) i = if i < s.size then (if f (bt s i) = true then runE s f k (i + 1) else i) else i := rfl
   rw [e]
   by_cases hi : i < s.size
   · rw [if_pos hi]
     by_cases hf : f (bt s i) = true
     · rw [if_pos hf]
       obtain ⟨h2, h3⟩ := runE_spec (s := s) (f := f) k (i + 1) (by omega) (by omega)
       refine ⟨fun n g1 g2 => ?_, h3⟩
       by_cases hn : n = i
       · rw [hn]; exact hf
       · exact h2 n (by omega) g2
     · rw [if_neg hf]
       exact ⟨fun n g1 g2 => by omega, fun _ => by simpa using hf⟩
   · rw [if_neg hi]
     exact ⟨fun n g1 g2 => by omega, fun g => by omega⟩
/-- what ends a token for sure: the end of the text, a blank, a line feed -/
def stop (c : Int) : Prop := c = -1 ∨ c = 32 ∨ c = 10
theorem stop_wd {c : Int} (h : stop c) : isWd c = false ∧ isNum c = false := by
  rcases h with rfl | rfl | rfl <;> decide
theorem nx_lt {s : ByteArray} {i : Nat} (h : i < s.size) : nx s i = bt s i := if_pos h
theorem run_local {s s' : ByteArray} {f : Int → Bool} (hf : ∀ c, stop c → f c = false) {p q : Nat} (hp : p ≤ s.size) (hw : hasW s' q (runT s f p) = true) (hn : nx s' (q + (runT s f p).size) = nx s (p + (runT s f p).size) ∨ stop (nx s' (q + (runT s f p).size))) : runT s' f q = runT s f p := by
  have h1 := runE_le (s := s) (f := f) (s.size - p) p hp
  have h2 := runT_size (f := f) hp
  obtain ⟨h3, h4⟩ := runE_spec (s := s) (f := f) (s.size - p) p (by omega) hp
  obtain ⟨h5, h6⟩ := hasW_iff.1 hw
  have hb : ∀ j, j < (runT s f p).size → bt (runT s f p) j = bt s (p + j) := fun j hj => by
    unfold runT
    rw [bt_ext s (by omega) (by omega)]
  have hE : runE s' f (s'.size - q) q = q + (runT s f p).size := by
    refine runE_end _ _ _ (by omega) (by omega) h5 (fun n g1 g2 => ?_) fun g => ?_
    · obtain ⟨j, rfl⟩ : ∃ j, n = q + j := ⟨n - q, by omega⟩
      rw [h6 j (by omega), hb j (by omega)]
      exact h3 _ (by omega) (by omega)
    · rw [← nx_lt g]
      rcases hn with hn | hn
      · rw [hn]
        have e : p + (runT s f p).size = runE s f (s.size - p) p := by omega
        rw [e]
        by_cases hlt : runE s f (s.size - p) p < s.size
        · rw [nx_lt hlt]; exact h4 hlt
        · unfold nx
          rw [if_neg hlt]
          exact hf _ (.inl rfl)
      · exact hf _ hn
  refine ext_bt ?_ fun j hj => ?_
  · rw [runT_size (by omega), hE]; omega
  · have hj' : j < (runT s f p).size := by
      rw [runT_size (by omega), hE] at hj; omega
    rw [hb j hj']
    have : bt (runT s' f q) j = bt s' (q + j) := by
      unfold runT
      rw [bt_ext s' (by omega) (by omega)]
    rw [this, h6 j hj', hb j hj']
/-- operators have one byte or two, none of them a space, and none begins like a comment, a word or a number -/
theorem ops_shape : ∀ w ∈ ops, 1 ≤ w.size ∧ w.size ≤ 2 ∧ isSp (bt w 0) = false ∧ bt w 0 ≠ 47 ∧ isLet (bt w 0) = false ∧ isDig (bt w 0) = false ∧ (w.size = 2 → ¬ (bt w 1 = 32 ∨ bt w 1 = 10)) := by decide +kernel
theorem fold_ge {s : ByteArray} {i : Nat} : ∀ (l : List ByteArray) (b : ByteArray), b.size ≤ (l.foldl (opS s i) b).size ∧ ∀ w ∈ l, hasW s i w = true → w.size ≤ (l.foldl (opS s i) b).size
 | [], b => ⟨Nat.le_refl _, fun w hw => by cases hw⟩
 | o :: l, b => by
   rw [List.foldl_cons]
   obtain ⟨h1, h2⟩ := fold_ge (s := s) (i := i) l (opS s i b o)
   have h3 : b.size ≤ (opS s i b o).size := by
     unfold opS
     split
     · split <;> omega
     · omega
   refine ⟨by omega, fun w hw hh => ?_⟩
   rcases List.mem_cons.1 hw with rfl | hw
   · have : w.size ≤ (opS s i b w).size := by
       unfold opS
       rw [if_pos hh]
       split <;> omega
     omega
   · exact h2 w hw hh
theorem fold_mem {s : ByteArray} {i : Nat} : ∀ (l : List ByteArray) (b : ByteArray), l.foldl (opS s i) b = b ∨ l.foldl (opS s i) b ∈ l
 | [], b => .inl rfl
 | o :: l, b => by
   rw [List.foldl_cons]
   rcases fold_mem (s := s) (i := i) l (opS s i b o) with h | h
   · rw [h]
     unfold opS
     split
     · split
       · exact .inr List.mem_cons_self
       · exact .inl rfl
     · exact .inl rfl
   · exact .inr (List.mem_cons_of_mem _ h)
theorem fold_congr {s s' : ByteArray} {i j : Nat} : ∀ (l : List ByteArray) (b : ByteArray), (∀ w ∈ l, hasW s i w = hasW s' j w) → l.foldl (opS s i) b = l.foldl (opS s' j) b
 | [], b, h => rfl
 | o :: l, b, h => by
   rw [List.foldl_cons, List.foldl_cons]
   have : opS s i b o = opS s' j b o := by unfold opS; rw [h o List.mem_cons_self]
   rw [this]
   exact fold_congr l _ fun w hw => h w (List.mem_cons_of_mem _ hw)
theorem op_local {s s' : ByteArray} {p q : Nat} (hp : p ≤ s.size) (h0 : opE s p ≠ ⟨#[]⟩) (hw : hasW s' q (opE s p) = true) (hn : nx s' (q + (opE s p).size) = nx s (p + (opE s p).size) ∨ stop (nx s' (q + (opE s p).size))) : opE s' q = opE s p := by
  have hm : opE s p ∈ ops := by
    rcases fold_mem (s := s) (i := p) ops ⟨#[]⟩ with h | h
    · exact absurd h h0
    · exact h
  obtain ⟨m1, m2, _⟩ := ops_shape _ hm
  have hx := hasW_iff.1 hw
  have hy := hasW_iff.1 (opE_has s hp)
  refine (fold_congr ops ⟨#[]⟩ fun w hwm => ?_).symm
  obtain ⟨w1, w2, _, _, _, _, w7⟩ := ops_shape w hwm
  rw [Bool.eq_iff_iff, hasW_iff, hasW_iff]
  by_cases hsz : w.size ≤ (opE s p).size
  · constructor
    · rintro ⟨g1, g2⟩
      refine ⟨by omega, fun j hj => ?_⟩
      rw [hx.2 j (by omega), ← hy.2 j (by omega)]
      exact g2 j hj
    · rintro ⟨g1, g2⟩
      refine ⟨by omega, fun j hj => ?_⟩
      rw [hy.2 j (by omega), ← hx.2 j (by omega)]
      exact g2 j hj
  · have e1 : (opE s p).size = 1 := by omega
    have e2 : w.size = 2 := by omega
    rw [e1] at hn
    constructor
    · intro g
      exact absurd ((fold_ge (s := s) (i := p) ops ⟨#[]⟩).2 w hwm (hasW_iff.2 g)) hsz
    · rintro ⟨g1, g2⟩
      have b1 : nx s' (q + 1) = bt w 1 := by rw [nx_lt (by omega), g2 1 (by omega)]
      rcases hn with hn | hn
      · rw [b1] at hn
        have hlt : p + 1 < s.size := by
          rcases Nat.lt_or_ge (p + 1) s.size with h | h
          · exact h
          · unfold nx at hn
            rw [if_neg (by omega)] at hn
            have := bt_0 w 1
            omega
        rw [nx_lt hlt] at hn
        refine ⟨by omega, fun j hj => ?_⟩
        match j, hj with
        | 0, _ => rw [hy.2 0 (by omega), ← hx.2 0 (by omega)]; exact g2 0 (by omega)
        | 1, _ => exact hn.symm
        | j + 2, hj => omega
      · rw [b1] at hn
        rcases hn with hn | hn
        · have := bt_0 w 1
          omega
        · exact absurd hn (w7 e2)
/-- the token at another place -/
def atTk (t : api_LexerToken) (i : Int) : api_LexerToken := { t with At := i }
theorem numE_at (i j : Int) (w : ByteArray) : numE j w = (atTk (numE i w).1 j, (numE i w).2) := by
  unfold numE
  split
  · rfl
  · split <;> rfl
theorem tok_local {s s' : ByteArray} {p q : Nat} (hp : p < s.size) (h0 : (tokE s p).2 = 0) (hw : hasW s' q (tokE s p).1.Text = true)
    (hn : nx s' (q + (tokE s p).1.Text.size) = nx s (p + (tokE s p).1.Text.size) ∨ stop (nx s' (q + (tokE s p).1.Text.size))) : q < s'.size ∧ tokE s' q = (atTk (tokE s p).1 q, 0) := by
  have hpos := tokE_pos hp h0
  have hx := hasW_iff.1 hw
  have hy := hasW_iff.1 (tokE_has hp)
  have hb : bt s' q = bt s p := by
    have h1 := hx.2 0 (by omega)
    have h2 := hy.2 0 (by omega)
    rw [Nat.add_zero] at h1 h2
    rw [h1, h2]
  refine ⟨by omega, ?_⟩
  by_cases hl : isLet (bt s p) = true
  · have ht : tokE s p = (⟨(wordE s p).1, (p : Int), runT s isWd p, 0, 0⟩, (wordE s p).2) := by unfold tokE; rw [if_pos hl]
    have hl' : isLet (bt s' q) = true := by rw [hb]; exact hl
    have ht' : tokE s' q = (⟨(wordE s' q).1, (q : Int), runT s' isWd q, 0, 0⟩, (wordE s' q).2) := by unfold tokE; rw [if_pos hl']
    rw [ht] at hw hn h0
    have hr := run_local (fun c h => (stop_wd h).1) (Nat.le_of_lt hp) hw hn
    have hwd : wordE s' q = wordE s p := by unfold wordE; rw [hr, hb]
    rw [ht, ht', hwd, hr]
    exact congrArg (fun x => (_, x)) h0
  · by_cases hd : isDig (bt s p) = true
    · have ht : tokE s p = numE p (runT s isNum p) := by unfold tokE; rw [if_neg hl, if_pos hd]
      have ht' : tokE s' q = numE q (runT s' isNum q) := by unfold tokE; rw [hb, if_neg hl, if_pos hd]
      rw [ht, (numE_text _ _).1] at hw hn
      rw [ht] at h0
      have hr := run_local (fun c h => (stop_wd h).2) (Nat.le_of_lt hp) hw hn
      rw [ht, ht', hr, numE_at (p : Int) (q : Int)]
      exact congrArg (fun x => (_, x)) h0
    · have ht : tokE s p = (⟨5, (p : Int), opE s p, 0, 0⟩, if opE s p = ⟨#[]⟩ then (if perm (bt s p) = true then 7 else 15) else 0) := by unfold tokE; rw [if_neg hl, if_neg hd]
      have ht' : tokE s' q = (⟨5, (q : Int), opE s' q, 0, 0⟩, if opE s' q = ⟨#[]⟩ then (if perm (bt s' q) = true then 7 else 15) else 0) := by unfold tokE; rw [hb, if_neg hl, if_neg hd]
      rw [ht] at hw hn h0
      have hne : opE s p ≠ ⟨#[]⟩ := by
        intro h
        simp only at h0
        rw [if_pos h] at h0
        split at h0 <;> simp at h0
      have ho := op_local (Nat.le_of_lt hp) hne hw hn
      rw [ht, ht', ho, if_neg hne]
      rfl
/-- where a token begins there is no space and no comment -/
theorem tok_first {s : ByteArray} {p : Nat} (hp : p < s.size) (h0 : (tokE s p).2 = 0) : isSp (bt s p) = false ∧ bt s p ≠ 47 := by
  by_cases hl : isLet (bt s p) = true
  · have : 65 ≤ bt s p := by
      unfold isLet isCap at hl
      simp at hl
      omega
    refine ⟨?_, by omega⟩
    unfold isSp
    simp
    omega
  · by_cases hd : isDig (bt s p) = true
    · have : 48 ≤ bt s p := by
        unfold isDig at hd
        simp at hd
        omega
      refine ⟨?_, by omega⟩
      unfold isSp
      simp
      omega
    · have ht : tokE s p = (⟨5, (p : Int), opE s p, 0, 0⟩, if opE s p = ⟨#[]⟩ then (if perm (bt s p) = true then 7 else 15) else 0) := by unfold tokE; rw [if_neg hl, if_neg hd]
      rw [ht] at h0
      have hne : opE s p ≠ ⟨#[]⟩ := by
        intro h
        simp only at h0
        rw [if_pos h] at h0
        split at h0 <;> simp at h0
      have hm : opE s p ∈ ops := by
        rcases fold_mem (s := s) (i := p) ops ⟨#[]⟩ with h | h
        · exact absurd h hne
        · exact h
      obtain ⟨m1, m2, m3, m4, _⟩ := ops_shape _ hm
      have hy := (hasW_iff.1 (opE_has s (Nat.le_of_lt hp))).2 0 (by omega)
      rw [Nat.add_zero] at hy
      rw [hy]
      exact ⟨m3, m4⟩
theorem skip_none {s : ByteArray} {q : Nat} (h1 : q < s.size) (h2 : isSp (bt s q) = false) (h3 : bt s q ≠ 47) : skipT s q = (q, 0) := by
  unfold skipT
  rw [skipE_succ, if_pos h1, if_neg (by rw [h2]; exact Bool.false_ne_true)]
  have hc : comE s q = none := by
    unfold comE
    rw [if_neg (fun h => h3 (hasW_two.1 h).2.1), if_neg (fun h => h3 (hasW_two.1 h).2.1)]
  rw [hc]
theorem skip_space {s : ByteArray} {q : Nat} (h1 : q < s.size) (h2 : isSp (bt s q) = true) : skipT s q = skipT s (q + 1) := by
  unfold skipT
  rw [skipE_succ, if_pos h1, if_pos h2]
  obtain ⟨k, hk⟩ : ∃ k, s.size - q = k + 1 := ⟨s.size - q - 1, by omega⟩
  rw [show s.size - (q + 1) + 1 = s.size - q by omega]
end Go.Proofs.YtfmkleeneddijaaDoor.Ev.F
