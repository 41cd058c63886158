/- Two texts with a line feed between; the law. -/
import Derived.Test.YtfmkleeneddijaaDoorPSpace
set_option linter.unusedVariables false
set_option linter.unusedSimpArgs false
set_option linter.unnecessarySimpa false
namespace Go.Proofs.YtfmkleeneddijaaDoor.Ev.F
open Go.Proofs.YtfmkleeneddijaaDoor.Ev

/-- s stands in s' at d, and behind it is the end or a line feed -/
structure Emb (s s' : ByteArray) (d : Nat) : Prop where
  le : d + s.size ≤ s'.size
  bt : ∀ i, i < s.size → bt s' (d + i) = bt s i
  nx : nx s' (d + s.size) = -1 ∨ nx s' (d + s.size) = 10
theorem Emb.nx_eq {s s' : ByteArray} {d : Nat} (h : Emb s s' d) {i : Nat} (hi : i < s.size) : Ev.F.nx s' (d + i) = Ev.F.nx s i := by
  rw [nx_lt hi, nx_lt (by have := h.le; omega), h.bt i hi]
theorem nx_out {s : ByteArray} {i : Nat} (h : s.size ≤ i) : nx s i = -1 := if_neg (by omega)
theorem Emb.has {s s' : ByteArray} {d : Nat} (h : Emb s s' d) {i : Nat} (hi : i ≤ s.size) {a b : UInt8} (ha : a ≠ 10) (hb : b ≠ 10) : hasW s' (d + i) ⟨#[a, b]⟩ = hasW s i ⟨#[a, b]⟩ := by
  have ha' : a.toNat ≠ 10 := fun g => ha (UInt8.toNat_inj.1 g)
  have hb' : b.toNat ≠ 10 := fun g => hb (UInt8.toNat_inj.1 g)
  rw [Bool.eq_iff_iff, hasW_nx, hasW_nx]
  by_cases h1 : i < s.size
  · rw [h.nx_eq h1]
    by_cases h2 : i + 1 < s.size
    · rw [Nat.add_assoc, h.nx_eq h2]
    · have e : i + 1 = s.size := by omega
      rw [Nat.add_assoc, e, nx_out (Nat.le_refl _)]
      constructor
      · rintro ⟨g1, g2⟩
        rcases h.nx with g | g <;> omega
      · rintro ⟨g1, g2⟩; omega
  · obtain rfl : i = s.size := by omega
    rw [nx_out (i := s.size) (Nat.le_refl _)]
    constructor
    · rintro ⟨g1, g2⟩
      rcases h.nx with g | g <;> omega
    · rintro ⟨g1, g2⟩; omega
theorem Emb.line {s s' : ByteArray} {d : Nat} (h : Emb s s' d) : ∀ (k k' i : Nat), i ≤ s.size → s.size ≤ i + k → s'.size ≤ d + i + k' → lineE s' k' (d + i) = (d + (lineE s k i).1, (lineE s k i).2) := by
  have last : ∀ k', s'.size ≤ d + s.size + k' → lineE s' k' (d + s.size) = (d + s.size, 0) := by
    intro k' hk
    match k' with
    | 0 => rfl
    | k' + 1 =>
      rw [lineE_succ]
      by_cases h1 : d + s.size < s'.size
      · rw [if_pos h1]
        rcases h.nx with g | g
        · rw [nx_lt h1] at g
          have := bt_0 s' (d + s.size)
          omega
        · rw [nx_lt h1] at g
          rw [if_pos g]
      · rw [if_neg h1]
  intro k
  induction k with
  | zero =>
    intro k' i h1 h2 h3
    obtain rfl : i = s.size := by omega
    exact last k' h3
  | succ k ih =>
    intro k' i h1 h2 h3
    rw [lineE_succ]
    by_cases hi : i < s.size
    · have hle := h.le
      obtain ⟨k', rfl⟩ : ∃ j, k' = j + 1 := ⟨k' - 1, by omega⟩
      rw [lineE_succ, if_pos hi, if_pos (by omega), h.bt i hi]
      by_cases h10 : Ev.F.bt s i = 10
      · rw [if_pos h10, if_pos h10]
      · rw [if_neg h10, if_neg h10]
        by_cases hp : perm (Ev.F.bt s i) = true
        · rw [if_pos hp, if_pos hp]
          exact ih k' (i + 1) (by omega) (by omega) (by omega)
        · rw [if_neg hp, if_neg hp]
    · obtain rfl : i = s.size := by omega
      rw [if_neg (by omega)]
      exact last k' h3
theorem nestE_succ (s : ByteArray) (f k i d : Nat) : nestE s f (k + 1) i d =
   if i < s.size then
     if hasW s i open2 = true then nestE s f k (i + 2) (d + 1)
     else if hasW s i end2 = true then (if d = 1 then (i + 2, 0) else nestE s f k (i + 2) (d - 1))
     else if perm (bt s i) = true then nestE s f k (i + 1) d else (i, 15)
   else (f, 21) := rfl
theorem Emb.nest {s s' : ByteArray} {d : Nat} (h : Emb s s' d) (f f' : Nat) : ∀ (k k' i n : Nat), i ≤ s.size → s'.size + 1 ≤ d + i + k' → (nestE s f k i n).2 = 0 → nestE s' f' k' (d + i) n = (d + (nestE s f k i n).1, 0) := by
  intro k
  induction k with
  | zero => intro k' i n h1 h2 h3; exact absurd h3 (by show ¬ (21 : Int) = 0; decide)
  | succ k ih =>
    intro k' i n h1 h2 h3
    rw [nestE_succ] at h3 ⊢
    have hle := h.le
    by_cases hi : i < s.size
    · obtain ⟨k', rfl⟩ : ∃ j, k' = j + 1 := ⟨k' - 1, by omega⟩
      rw [if_pos hi] at h3 ⊢
      rw [nestE_succ, if_pos (by omega), h.has h1 (by decide) (by decide), h.has h1 (by decide) (by decide), h.bt i hi]
      by_cases ho : hasW s i open2 = true
      · have := (hasW_two.1 ho).1
        rw [if_pos ho] at h3 ⊢
        rw [if_pos ho]
        exact ih k' (i + 2) (n + 1) (by omega) (by omega) h3
      · rw [if_neg ho] at h3 ⊢
        rw [if_neg ho]
        by_cases he : hasW s i end2 = true
        · have := (hasW_two.1 he).1
          rw [if_pos he] at h3 ⊢
          rw [if_pos he]
          by_cases hn : n = 1
          · rw [if_pos hn, if_pos hn]
            rfl
          · rw [if_neg hn] at h3 ⊢
            rw [if_neg hn]
            exact ih k' (i + 2) (n - 1) (by omega) (by omega) h3
        · rw [if_neg he] at h3 ⊢
          rw [if_neg he]
          by_cases hp : perm (Ev.F.bt s i) = true
          · rw [if_pos hp] at h3 ⊢
            rw [if_pos hp]
            exact ih k' (i + 1) n (by omega) (by omega) h3
          · rw [if_neg hp] at h3
            exact absurd h3 (by show ¬ (15 : Int) = 0; decide)
    · rw [if_neg hi] at h3
      exact absurd h3 (by show ¬ (21 : Int) = 0; decide)
theorem Emb.com_none {s s' : ByteArray} {d : Nat} (h : Emb s s' d) {i : Nat} (hi : i ≤ s.size) (hc : comE s i = none) : comE s' (d + i) = none := by
  unfold comE at hc ⊢
  rw [h.has hi (by decide) (by decide), h.has hi (by decide) (by decide)]
  split at hc
  · cases hc
  · rename_i h1
    rw [if_neg h1]
    split at hc
    · cases hc
    · rename_i h2
      rw [if_neg h2]
theorem Emb.com_ok {s s' : ByteArray} {d : Nat} (h : Emb s s' d) {i p : Nat} (hi : i ≤ s.size) (hc : comE s i = some (p, 0)) : comE s' (d + i) = some (d + p, 0) := by
  have hle := h.le
  unfold comE at hc ⊢
  rw [h.has hi (by decide) (by decide), h.has hi (by decide) (by decide)]
  by_cases h1 : hasW s i line2 = true
  · rw [if_pos h1] at hc ⊢
    have e := Option.some.inj hc
    rw [h.line (s.size - i) (s'.size - (d + i)) i hi (by omega) (by omega), e]
  · rw [if_neg h1] at hc ⊢
    by_cases h2 : hasW s i open2 = true
    · have h3 := (hasW_two.1 h2).1
      rw [if_pos h2] at hc ⊢
      have e := Option.some.inj hc
      have := h.nest i (d + i) (s.size - i) (s'.size - (d + i)) (i + 2) 1 (by omega) (by omega) (by rw [e])
      rw [Nat.add_assoc d i 2, this, e]
    · rw [if_neg h2] at hc
      cases hc
theorem Emb.skip {s s' : ByteArray} {d : Nat} (h : Emb s s' d) : ∀ (k i p : Nat), i ≤ s.size → s.size < i + k → skipE s k i = (p, 0) → skipT s' (d + i) = skipT s' (d + p) := by
  have hle := h.le
  intro k
  induction k with
  | zero => intro i p h1 h2; omega
  | succ k ih =>
    intro i p h1 h2 h3
    rw [skipE_succ] at h3
    by_cases hi : i < s.size
    · rw [if_pos hi] at h3
      by_cases hs : isSp (Ev.F.bt s i) = true
      · rw [if_pos hs] at h3
        rw [skip_space (s := s') (q := d + i) (by omega) (by rw [h.bt i hi]; exact hs), Nat.add_assoc]
        exact ih (i + 1) p (by omega) (by omega) h3
      · rw [if_neg hs] at h3
        cases hc : comE s i with
        | none =>
          rw [hc] at h3
          have : i = p := congrArg Prod.fst h3
          rw [this]
        | some pc =>
          obtain ⟨q, c⟩ := pc
          obtain ⟨h4, h5⟩ := comE_le hc
          rw [hc] at h3
          simp only at h3
          by_cases h0 : c = 0
          · subst h0
            rw [if_pos rfl] at h3
            have := h5 rfl
            rw [skip_com (s := s') (q := d + i) (by omega) (h.com_ok h1 hc)]
            exact ih q p h4 (by omega) h3
          · rw [if_neg h0] at h3
            exact absurd (congrArg Prod.snd h3) h0
    · rw [if_neg hi] at h3
      have : i = p := congrArg Prod.fst h3
      rw [this]
/-- tokens moved -/
def shiftT (d : Nat) (l : List api_LexerToken) : List api_LexerToken := l.map fun t => atTk t (t.At + (d : Int))
theorem Emb.toks {s s' : ByteArray} {d : Nat} (h : Emb s s' d) {i : Nat} {r : List api_LexerToken} (ht : Toks s i r) : i ≤ s.size → ∀ r', Toks s' (d + s.size) r' → Toks s' (d + i) (shiftT d r ++ r') := by
  have hle := h.le
  induction ht with
  | done i hd =>
    intro hi r' hr
    exact toks_congr (h.skip _ i _ hi (by omega) hd) hr
  | tok i r h0 hp h3 ht ih =>
    intro hi r' hr
    have hsk : skipT s i = ((skipT s i).1, 0) := Prod.ext rfl h0
    have h4 := tokE_pos hp h3
    obtain ⟨ht1, ht2⟩ := tokE_text hp
    have hx := hasW_iff.1 (tokE_has hp)
    have hw : hasW s' (d + (skipT s i).1) (tokE s (skipT s i).1).1.Text = true := hasW_iff.2 ⟨by omega, fun j hj => by
      rw [Nat.add_assoc, h.bt _ (by omega)]
      exact hx.2 j hj⟩
    have hn : Ev.F.nx s' (d + (skipT s i).1 + (tokE s (skipT s i).1).1.Text.size) = Ev.F.nx s ((skipT s i).1 + (tokE s (skipT s i).1).1.Text.size) ∨ stop (Ev.F.nx s' (d + (skipT s i).1 + (tokE s (skipT s i).1).1.Text.size)) := by
      rw [Nat.add_assoc]
      by_cases e : (skipT s i).1 + (tokE s (skipT s i).1).1.Text.size < s.size
      · exact .inl (h.nx_eq e)
      · rw [show (skipT s i).1 + (tokE s (skipT s i).1).1.Text.size = s.size by omega]
        rcases h.nx with g | g
        · exact .inr (.inl g)
        · exact .inr (.inr (.inr g))
    obtain ⟨g1, g2⟩ := tok_local hp h3 hw hn
    have g3 : (tokE s' (d + (skipT s i).1)).2 = 0 := by rw [g2]
    obtain ⟨f1, f2⟩ := tok_first g1 g3
    have hsk' := skip_none g1 f1 f2
    have e1 : skipT s' (d + i) = (d + (skipT s i).1, 0) := (h.skip _ i _ hi (by omega) hsk).trans hsk'
    have hT := ih ht2 r' hr
    have := Toks.tok (s := s') (d + i) (shiftT d r ++ r') (by rw [e1]) (by rw [e1]; exact g1) (by rw [e1]; exact g3) (by rw [e1, g2]; rw [← Nat.add_assoc] at hT; exact hT)
    rw [e1, g2] at this
    have ea : atTk (tokE s (skipT s i).1).1 ((d + (skipT s i).1 : Nat) : Int) = atTk (tokE s (skipT s i).1).1 ((tokE s (skipT s i).1).1.At + (d : Int)) := by
      rw [ht1]
      congr 1
      omega
    rw [ea] at this
    exact this

/-! ### the law -/
theorem app_bt_l {a b : ByteArray} {i : Nat} (h : i < a.size) : bt (a ++ b) i = bt a i := by
  unfold bt
  rw [List.getD, List.getD]
  have : (a ++ b).data.toList = a.data.toList ++ b.data.toList := by simp
  rw [this, List.getElem?_append_left (by rw [sizeL]; exact h)]
theorem app_bt_r {a b : ByteArray} {i : Nat} : bt (a ++ b) (a.size + i) = bt b i := by
  unfold bt
  rw [List.getD, List.getD]
  have : (a ++ b).data.toList = a.data.toList ++ b.data.toList := by simp
  rw [this, List.getElem?_append_right (by rw [sizeL]; omega), sizeL, Nat.add_sub_cancel_left]
theorem app_size (a b : ByteArray) : (a ++ b).size = a.size + b.size := by simp
abbrev lf : ByteArray := ⟨#[10]⟩
theorem both_toks {s o : ByteArray} {r r' : List api_LexerToken} (h : Toks s 0 r) (h' : Toks o 0 r') : Toks ((s ++ lf) ++ o) 0 (r ++ shiftT (s.size + 1) r') := by
  have hlf : lf.size = 1 := rfl
  have hsz : ((s ++ lf) ++ o).size = s.size + 1 + o.size := by rw [app_size, app_size, hlf]
  have h10 : nx ((s ++ lf) ++ o) (0 + s.size) = 10 := by
    rw [Nat.zero_add, nx_lt (by omega), app_bt_l (by rw [app_size, hlf]; omega)]
    have := app_bt_r (a := s) (b := lf) (i := 0)
    rw [Nat.add_zero] at this
    rw [this]
    rfl
  have e1 : Emb s ((s ++ lf) ++ o) 0 := ⟨by omega, fun i hi => by rw [Nat.zero_add, app_bt_l (by rw [app_size]; omega), app_bt_l hi], .inr h10⟩
  have e2 : Emb o ((s ++ lf) ++ o) (s.size + 1) := ⟨by omega, fun i hi => by
    have := app_bt_r (a := s ++ lf) (b := o) (i := i)
    rw [app_size, hlf] at this
    exact this, .inl (nx_out (by omega))⟩
  have t0 : Toks ((s ++ lf) ++ o) (s.size + 1 + o.size) [] := .done _ (by rw [← hsz]; exact skip_end _)
  have t1 := e2.toks h' (Nat.zero_le _) [] t0
  rw [List.append_nil, Nat.add_zero] at t1
  have hl : 0 + s.size < ((s ++ lf) ++ o).size := by omega
  rw [nx_lt hl] at h10
  have t2 : Toks ((s ++ lf) ++ o) (0 + s.size) (shiftT (s.size + 1) r') := toks_congr (skip_space hl (by rw [h10]; rfl)) (by rw [Nat.zero_add]; exact t1)
  have t3 := e1.toks h (Nat.zero_le _) _ t2
  have es : shiftT 0 r = r := by
    unfold shiftT
    have : ∀ t : api_LexerToken, atTk t (t.At + ((0 : Nat) : Int)) = t := fun t => by
      show ({ t with At := t.At + 0 } : api_LexerToken) = t
      rw [Int.add_zero]
    rw [List.map_congr_left (fun t _ => this t), List.map_id']
  rw [es] at t3
  exact t3
theorem toks_at {s : ByteArray} {i : Nat} {r : List api_LexerToken} (h : Toks s i r) : i ≤ s.size → ∀ t ∈ r, 0 ≤ t.At ∧ t.At ≤ (s.size : Int) := by
  induction h with
  | done i h => intro _ t ht; cases ht
  | tok i r h0 hp h3 ht ih =>
    intro hi t hm
    obtain ⟨ht1, ht2⟩ := tokE_text hp
    rcases List.mem_cons.1 hm with rfl | hm
    · rw [ht1]; omega
    · exact ih ht2 t hm
theorem space_loop (s : ByteArray) (hs : s.size ≤ 200) (r r' : List api_LexerToken) (hl : r.length ≤ 200) (hl' : r'.length ≤ 200) (hat : ∀ t ∈ r', 0 ≤ t.At ∧ t.At ≤ 200) : ∀ (k i : Nat), i + k = r'.length →
    run_ratchetlaw05_LexerSpace (.p32756 s (i : Int) r r' (r ++ shiftT (s.size + 1) r')) = some ((true, ()), ()) := by
  intro k
  induction k with
  | zero =>
    intro i h
    rw [run_ratchetlaw05_LexerSpace, if_neg (by simp; omega)]
  | succ k ih =>
    intro i h
    have hi : i < r'.length := by omega
    obtain ⟨a0, a1⟩ := hat _ (List.getElem_mem hi)
    have hg : (r ++ shiftT (s.size + 1) r')[r.length + i]? = some (atTk r'[i] (r'[i].At + ((s.size + 1 : Nat) : Int))) := by
      rw [List.getElem?_append_right (by omega), Nat.add_sub_cancel_left]
      unfold shiftT
      rw [List.getElem?_map, List.getElem?_eq_getElem hi]
      rfl
    have hlen : (r ++ shiftT (s.size + 1) r').length = r.length + r'.length := by unfold shiftT; simp
    rw [run_ratchetlaw05_LexerSpace, if_pos (by simp; omega), if_pos (by simp; omega), idx_nat, List.getElem?_eq_getElem hi]
    simp only [some_bind']
    rw [wrap_i64 (x := (r.length : Int) + (i : Int)) (by omega) (by omega), if_pos (by simp only [Bool.and_eq_true, decide_eq_true_eq]; omega), show ((r.length : Int) + (i : Int)) = ((r.length + i : Nat) : Int) by omega, idx_nat, hg]
    simp only [some_bind', atTk]
    rw [wrap_i64 (x := r'[i].At + (s.size : Int)) (by omega) (by omega), wrap_i64 (x := r'[i].At + (s.size : Int) + 1) (by omega) (by omega)]
    have e : (r'[i].At + ((s.size + 1 : Nat) : Int) == r'[i].At + (s.size : Int) + 1) = true := by
      rw [beq_iff_eq]; omega
    rw [e]
    simp only [BEq.rfl, seq_self, Bool.and_self, Bool.not_true, Bool.false_eq_true, if_false]
    rw [wrap_i64 (x := (i : Int) + 1) (by omega) (by omega), show ((i : Int) + 1) = ((i + 1 : Nat) : Int) by omega]
    exact ih (i + 1) (by omega)
theorem space_tail {s o : ByteArray} (hs : s.size ≤ 200) (ho : o.size ≤ 200) : run_ratchetlaw05_LexerSpace (.p127 s o (toksT s).2.2 (toksT s).1) = some ((true, ()), ()) := by
  rw [run_ratchetlaw05_LexerSpace, Tokens_eq (by omega)]
  simp only [some_bind']
  by_cases h0 : (toksT s).2.2 = 0
  · rw [if_neg (by simpa using h0)]
    by_cases h1 : (toksT o).2.2 = 0
    · rw [if_neg (by simpa using h1)]
      obtain ⟨r, hr, ht⟩ := toksT_toks h0
      obtain ⟨r', hr', ht'⟩ := toksT_toks h1
      have hlf : lf.size = 1 := rfl
      have hsz : ((s ++ lf) ++ o).size = s.size + 1 + o.size := by rw [app_size, app_size, hlf]
      have l1 := toks_len ht (Nat.zero_le _)
      have l2 := toks_len ht' (Nat.zero_le _)
      have hb := toks_toksT (both_toks ht ht')
      have hlen : (r ++ shiftT (s.size + 1) r').length = r.length + r'.length := by unfold shiftT; simp
      have hat : ∀ t ∈ r', 0 ≤ t.At ∧ t.At ≤ 200 := fun t h => by have := toks_at ht' (Nat.zero_le _) t h; omega
      rw [hr, hr', run_ratchetlaw05_LexerSpace, if_pos (Nat.ble_eq_true_of_le (by rw [hlf]; omega)), if_pos (Nat.ble_eq_true_of_le (by rw [app_size, hlf]; omega)), Tokens_eq (s := (s ++ lf) ++ o) (by omega), hb]
      simp only [some_bind']
      rw [if_neg (show ¬ ((0 : Int) != 0) = true by decide), wrap_i64 (x := (r.length : Int) + (r'.length : Int)) (by omega) (by omega), if_neg (by rw [hlen]; simp), show (0 : Int) = ((0 : Nat) : Int) from rfl, span_nat (Nat.zero_le _) (by omega)]
      simp only [some_bind']
      have hc : cut (r ++ shiftT (s.size + 1) r') (0, r.length) = r := by unfold cut; simp
      rw [hc, SameTokens_self r (by omega)]
      simp only [some_bind', Bool.not_true, Bool.false_eq_true, if_false]
      rw [run_ratchetlaw05_LexerSpace]
      exact space_loop s hs r r' (by omega) (by omega) hat r'.length 0 (by omega)
    · rw [if_pos (by simpa using h1)]
  · rw [if_pos (by simpa using h0)]
theorem space_true (s o : ByteArray) : run_ratchetlaw05_LexerSpace (.start s o) = some ((true, ()), ()) := by
  rw [run_ratchetlaw05_LexerSpace]
  simp only [some_bind', Bool.not_true, Bool.false_eq_true, if_false]
  by_cases hs : s.size ≤ 200
  · rw [if_neg (by simp; omega)]
    by_cases ho : o.size ≤ 200
    · rw [if_neg (by simp; omega), run_ratchetlaw05_LexerSpace, Stripped_eq, Tokens_eq (by omega)]
      have hlen := toksT_len s
      by_cases hc : (comT s).2.2 = 0
      · rw [if_pos hc]
        obtain ⟨g1, g2⟩ := strip_toks hc
        have hz := stripT_size s
        simp only [some_bind']
        rw [if_pos (by decide), Tokens_eq (s := stripT s) (by omega), CommentsIn_eq, g1, g2]
        simp only [some_bind']
        rw [if_neg (by rw [hz]; simp), if_neg (by simp), if_neg (by simp), SameTokens_self _ (by omega)]
        simp only [some_bind', Bool.not_true, Bool.false_eq_true, if_false]
        rw [if_neg (by decide), if_neg (by decide)]
        exact space_tail hs ho
      · rw [if_neg hc]
        simp only [some_bind']
        rw [if_neg (by simpa using hc)]
        exact space_tail hs ho
    · rw [if_pos (by simp; omega)]
  · rw [if_pos (by simp; omega)]
end Go.Proofs.YtfmkleeneddijaaDoor.Ev.F
