/- Comments are space; two texts with a line feed between. -/
import Derived.Test.YtfmkleeneddijaaDoorPLocal
import Derived.Test.YtfmkleeneddijaaDoorPComm
set_option linter.unusedVariables false
set_option linter.unusedSimpArgs false
set_option linter.unnecessarySimpa false
namespace Go.Proofs.YtfmkleeneddijaaDoor.Ev.F
open Go.Proofs.YtfmkleeneddijaaDoor.Ev

/-! ### a text stripped, byte by byte -/
def bl1 (c : Int) : Int := if c = 10 then 10 else 32
theorem blank_get (l : List Int) (i j : Nat) (hj : j < l.length) : (blank l i)[j]? = if i = j then some (bl1 l[j]) else l[j]? := by
  unfold blank bl1
  by_cases h : i = j
  · subst h
    rw [if_pos rfl, List.getElem?_eq_getElem hj]
    by_cases h10 : l[i] = 10
    · rw [if_pos (by rw [h10]), if_pos h10, List.getElem?_eq_getElem hj, h10]
    · rw [if_neg (by simpa using h10), if_neg h10, List.getElem?_set_self hj]
  · rw [if_neg h]
    split
    · rfl
    · rw [List.getElem?_set_ne h]
theorem bl1_idem (c : Int) : bl1 (bl1 c) = bl1 c := by
  unfold bl1
  by_cases h : c = 10
  · rw [if_pos h]; rfl
  · rw [if_neg h]; rfl
theorem blanks_get : ∀ (k : Nat) (l : List Int) (i j : Nat) (hj : j < l.length), (blanks l k i)[j]? = if i ≤ j ∧ j < i + k then some (bl1 l[j]) else some l[j]
 | 0, l, i, j, hj => by
   show l[j]? = _
   rw [if_neg (by omega), List.getElem?_eq_getElem hj]
 | k + 1, l, i, j, hj => by
   have hj' : j < (blank l i).length := by rw [blank_length]; exact hj
   have hb : (blank l i)[j] = if i = j then bl1 l[j] else l[j] := by
     have := blank_get l i j hj
     rw [List.getElem?_eq_getElem hj'] at this
     by_cases h : i = j
     · rw [if_pos h] at this ⊢; exact Option.some.inj this
     · rw [if_neg h, List.getElem?_eq_getElem hj] at this
       rw [if_neg h]; exact Option.some.inj this
   show (blanks (blank l i) k (i + 1))[j]? = _
   rw [blanks_get k _ _ _ hj', hb]
   by_cases h : i = j
   · rw [if_pos h, if_neg (by omega), if_pos (by omega)]
   · rw [if_neg h]
     by_cases h2 : i + 1 ≤ j ∧ j < i + 1 + k
     · rw [if_pos h2, if_pos (by omega)]
     · rw [if_neg h2, if_neg (by omega)]
/-- is j within a range -/
def cov (rs : List api_Range) (j : Nat) : Prop := ∃ r ∈ rs, r.Lo ≤ (j : Int) ∧ (j : Int) ≤ r.Hi
open Classical in
theorem strip_get : ∀ (rs : List api_Range) (l : List Int) (j : Nat) (hj : j < l.length), (∀ r ∈ rs, okR l.length r) → (strip l rs)[j]? = some (if cov rs j then bl1 l[j] else l[j])
 | [], l, j, hj, hok => by
   have : ¬ cov [] j := by rintro ⟨r, hr, _⟩; cases hr
   rw [if_neg this]
   exact List.getElem?_eq_getElem hj
 | r :: rs, l, j, hj, hok => by
   obtain ⟨a, b, rfl, hab, hb⟩ := hok _ List.mem_cons_self
   have hj' : j < (blanks l (b - a) a).length := by rw [blanks_length]; exact hj
   have hg : (blanks l (b - a) a)[j] = if a ≤ j ∧ j < a + (b - a) then bl1 l[j] else l[j] := by
     have := blanks_get (b - a) l a j hj
     rw [List.getElem?_eq_getElem hj'] at this
     split at this
     · rename_i h; rw [if_pos h]; exact Option.some.inj this
     · rename_i h; rw [if_neg h]; exact Option.some.inj this
   rw [strip_cons]
   simp only
   rw [show ((b : Int) - 1 + 1 - (a : Int)).toNat = b - a by omega, Int.toNat_natCast, strip_get rs _ j hj' (fun r hr => by rw [blanks_length]; exact hok r (List.mem_cons_of_mem _ hr)), hg]
   have hc : cov (⟨(a : Int), (b : Int) - 1⟩ :: rs) j ↔ (a ≤ j ∧ j < a + (b - a)) ∨ cov rs j := by
     constructor
     · rintro ⟨r, hr, h1, h2⟩
       rcases List.mem_cons.1 hr with rfl | hr
       · refine .inl ?_
         simp only at h1 h2
         omega
       · exact .inr ⟨r, hr, h1, h2⟩
     · rintro (h | ⟨r, hr, h1, h2⟩)
       · refine ⟨_, List.mem_cons_self, ?_, ?_⟩ <;> simp only <;> omega
       · exact ⟨r, List.mem_cons_of_mem _ hr, h1, h2⟩
   by_cases h1 : a ≤ j ∧ j < a + (b - a)
   · rw [if_pos h1, if_pos (hc.2 (.inl h1)), bl1_idem]
     split <;> rfl
   · rw [if_neg h1]
     by_cases h2 : cov rs j
     · rw [if_pos h2, if_pos (hc.2 (.inr h2))]
     · rw [if_neg h2, if_neg (fun h => (hc.1 h).elim h1 h2)]
theorem bytesStr_bt {l : List Int} {j : Nat} (hj : j < l.length) (h0 : 0 ≤ l[j]) (h1 : l[j] < 256) : bt (bytesStr l) j = l[j] := by
  unfold bt bytesStr
  simp only [List.getD, List.getElem?_map, List.getElem?_eq_getElem hj, Option.map_some, Option.getD_some]
  rw [UInt8.toNat_ofNat']
  omega
theorem bytesStr_size (l : List Int) : (bytesStr l).size = l.length := by unfold bytesStr; simp [ByteArray.size]
theorem strBytes_get {s : ByteArray} {j : Nat} (hj : j < (strBytes s).length) : (strBytes s)[j] = bt s j := by
  have hj' : j < s.size := by rw [strBytes_len] at hj; exact hj
  obtain ⟨c, h1, h2, _⟩ : ∃ c, s.data.toList[j]? = some c ∧ bt s j = (c.toNat : Int) ∧ True := by
    have h' : j < s.data.toList.length := by rw [sizeL]; exact hj'
    refine ⟨s.data.toList[j], List.getElem?_eq_getElem h', ?_, trivial⟩
    unfold bt
    rw [List.getD, List.getElem?_eq_getElem h']
    rfl
  have : (strBytes s)[j]? = some (bt s j) := by
    unfold strBytes
    rw [List.getElem?_map, h1, h2]
    rfl
  rw [List.getElem?_eq_getElem hj] at this
  exact Option.some.inj this
theorem stripT_size (s : ByteArray) : (stripT s).size = s.size := by
  unfold stripT
  rw [bytesStr_size, strip_length, strBytes_len]
theorem bl1_range {c : Int} (h0 : 0 ≤ c) (h1 : c < 256) : 0 ≤ bl1 c ∧ bl1 c < 256 := by unfold bl1; split <;> omega
open Classical in
theorem stripT_bt {s : ByteArray} {j : Nat} (hj : j < s.size) : bt (stripT s) j = if cov (comT s).1 j then bl1 (bt s j) else bt s j := by
  have hj1 : j < (strBytes s).length := by rw [strBytes_len]; exact hj
  have hj2 : j < (strip (strBytes s) (comT s).1).length := by rw [strip_length]; exact hj1
  have hg := strip_get (comT s).1 (strBytes s) j hj1 (by rw [strBytes_len]; exact comT_ok s)
  rw [List.getElem?_eq_getElem hj2] at hg
  have hg := Option.some.inj hg
  rw [strBytes_get hj1] at hg
  have h0 := bt_0 s j
  have h1 := bt_lt s j
  obtain ⟨b0, b1⟩ := bl1_range h0 h1
  unfold stripT
  have e0 : 0 ≤ (strip (strBytes s) (comT s).1)[j] ∧ (strip (strBytes s) (comT s).1)[j] < 256 := by
    rw [hg]
    by_cases hcv : cov (comT s).1 j
    · rw [if_pos hcv]; exact ⟨b0, b1⟩
    · rw [if_neg hcv]; exact ⟨h0, h1⟩
  rw [bytesStr_bt hj2 e0.1 e0.2, hg]

/-! ### where the comments stand -/
inductive Walk (s : ByteArray) : Nat → List api_Range → Prop
 | done (i : Nat) (h : i = s.size) : Walk s i []
 | byte (i : Nat) (rs : List api_Range) (h : i < s.size) (hc : comE s i = none) (hp : perm (bt s i) = true) (hw : Walk s (i + 1) rs) : Walk s i rs
 | com (i p : Nat) (rs : List api_Range) (h : i < s.size) (hc : comE s i = some (p, 0)) (hw : Walk s p rs) : Walk s i (⟨(i : Int), (p : Int) - 1⟩ :: rs)
theorem comsE_walk {s : ByteArray} : ∀ (k i : Nat) (l : List api_Range), i ≤ s.size → s.size < i + k → (comsE s k i l).2.2 = 0 → ∃ rs, (comsE s k i l).1 = l ++ rs ∧ Walk s i rs := by
  intro k
  induction k with
  | zero => intro i l h1 h2; omega
  | succ k ih =>
    intro i l h1 h2 h
    rw [comsE_succ] at h ⊢
    by_cases hi : i < s.size
    · rw [if_pos hi] at h ⊢
      cases hc : comE s i with
      | none =>
        rw [hc] at h
        simp only at h ⊢
        by_cases hp : perm (bt s i) = true
        · rw [if_pos hp] at h ⊢
          obtain ⟨rs, h3, h4⟩ := ih (i + 1) l (by omega) (by omega) h
          exact ⟨rs, h3, .byte i rs hi hc hp h4⟩
        · rw [if_neg hp] at h
          simp at h
      | some pc =>
        obtain ⟨p, c⟩ := pc
        obtain ⟨h3, h4⟩ := comE_le hc
        rw [hc] at h
        simp only at h ⊢
        by_cases h0 : c = 0
        · subst h0
          rw [if_pos rfl] at h ⊢
          have := h4 rfl
          obtain ⟨rs, h5, h6⟩ := ih p _ h3 (by omega) h
          exact ⟨_ :: rs, by rw [h5, List.append_assoc]; rfl, .com i p rs hi hc h6⟩
        · rw [if_neg h0] at h
          exact absurd h h0
    · rw [if_neg hi]
      exact ⟨[], (List.append_nil _).symm, .done i (by omega)⟩
theorem walk_lo {s : ByteArray} {i : Nat} {rs : List api_Range} (h : Walk s i rs) : ∀ r ∈ rs, (i : Int) ≤ r.Lo := by
  induction h with
  | done i h => intro r hr; cases hr
  | byte i rs h hc hp hw ih => intro r hr; have := ih r hr; omega
  | com i p rs h hc hw ih =>
    intro r hr
    have := (comE_le hc).2 rfl
    rcases List.mem_cons.1 hr with rfl | hr
    · exact Int.le_refl _
    · have := ih r hr; omega
/-- s' is s from here on, with blanks for comments -/
inductive Com (s s' : ByteArray) : Nat → Prop
 | done (i : Nat) (h : i = s.size) : Com s s' i
 | byte (i : Nat) (h : i < s.size) (hc : comE s i = none) (hp : perm (bt s i) = true) (hb : bt s' i = bt s i) (hw : Com s s' (i + 1)) : Com s s' i
 | com (i p : Nat) (h : i < s.size) (hc : comE s i = some (p, 0)) (hb : ∀ j, i ≤ j → j < p → bt s' j = bl1 (bt s j)) (hw : Com s s' p) : Com s s' i
theorem walk_com {s : ByteArray} {i : Nat} {rs : List api_Range} (h : Walk s i rs) : ∀ pre : List api_Range, (∀ r ∈ pre, r.Hi < (i : Int)) → (comT s).1 = pre ++ rs → Com s (stripT s) i := by
  induction h with
  | done i h => intro pre h1 h2; exact .done i h
  | byte i rs h hc hp hw ih =>
    intro pre h1 h2
    refine .byte i h hc hp ?_ (ih pre (fun r hr => by have := h1 r hr; omega) h2)
    rw [stripT_bt h, if_neg]
    rintro ⟨r, hr, g1, g2⟩
    rw [h2] at hr
    rcases List.mem_append.1 hr with hr | hr
    · have := h1 r hr; omega
    · have := walk_lo hw r hr; omega
  | com i p rs h hc hw ih =>
    intro pre h1 h2
    obtain ⟨h3, h4⟩ := comE_le hc
    have h5 := h4 rfl
    refine .com i p h hc (fun j g1 g2 => ?_) (ih (pre ++ [⟨(i : Int), (p : Int) - 1⟩]) (fun r hr => ?_) (by rw [h2, List.append_assoc]; rfl))
    · rw [stripT_bt (by omega), if_pos]
      refine ⟨_, by rw [h2]; exact List.mem_append_right _ List.mem_cons_self, ?_, ?_⟩ <;> simp only <;> omega
    · rcases List.mem_append.1 hr with hr | hr
      · have := h1 r hr; omega
      · obtain rfl := List.mem_singleton.1 hr
        simp only
        omega
theorem strip_com {s : ByteArray} (h : (comT s).2.2 = 0) : Com s (stripT s) 0 := by
  have hs := comT_size h
  have e : comT s = comsE s (s.size + 1) 0 [] := if_neg (by omega)
  obtain ⟨rs, h1, h2⟩ := comsE_walk (s := s) (s.size + 1) 0 [] (Nat.zero_le _) (by omega) (by rw [← e]; exact h)
  exact walk_com h2 [] (fun r hr => by cases hr) (by rw [e, h1])

/-! ### the tokens of a text stripped -/
theorem comE_47 {s : ByteArray} {i : Nat} {r : Nat × Int} (h : comE s i = some r) : bt s i = 47 := by
  unfold comE at h
  split at h
  · rename_i h1; exact (hasW_two.1 h1).2.1
  · split at h
    · rename_i h1; exact (hasW_two.1 h1).2.1
    · cases h
theorem comE_none {s : ByteArray} {i : Nat} (h : bt s i ≠ 47) : comE s i = none := by
  unfold comE
  rw [if_neg (fun g => h (hasW_two.1 g).2.1), if_neg (fun g => h (hasW_two.1 g).2.1)]
theorem bl1_sp (c : Int) : isSp (bl1 c) = true ∧ bl1 c ≠ 47 ∧ perm (bl1 c) = true ∧ bl1 c ≠ 42 ∧ stop (bl1 c) := by
  unfold bl1
  split
  · exact ⟨rfl, by decide, rfl, by decide, .inr (.inr rfl)⟩
  · exact ⟨rfl, by decide, rfl, by decide, .inr (.inl rfl)⟩
theorem com_next {s s' : ByteArray} {i : Nat} (hz : s'.size = s.size) (h : Com s s' i) : nx s' i = nx s i ∨ (nx s i = 47 ∧ ∃ c, nx s' i = bl1 c) := by
  cases h with
  | done _ h => unfold nx; rw [if_neg (by omega), if_neg (by omega)]; exact .inl rfl
  | byte _ h hc hp hb hw => rw [nx_lt (by omega), nx_lt h, hb]; exact .inl rfl
  | com _ p h hc hb hw =>
    rw [nx_lt (by omega), nx_lt h, comE_47 hc, hb i (Nat.le_refl _) (by have := (comE_le hc).2 rfl; omega)]
    exact .inr ⟨rfl, _, rfl⟩
theorem hasW_nx {s : ByteArray} {i : Nat} {a b : UInt8} : hasW s i ⟨#[a, b]⟩ = true ↔ nx s i = a.toNat ∧ nx s (i + 1) = b.toNat := by
  rw [hasW_two]
  constructor
  · rintro ⟨h1, h2, h3⟩
    rw [nx_lt (by omega), nx_lt (by omega)]
    exact ⟨h2, h3⟩
  · rintro ⟨h1, h2⟩
    have g2 : i + 1 < s.size := by
      rcases Nat.lt_or_ge (i + 1) s.size with h | h
      · exact h
      · unfold nx at h2
        rw [if_neg (by omega)] at h2
        omega
    rw [nx_lt (by omega)] at h1
    rw [nx_lt g2] at h2
    exact ⟨by omega, h1, h2⟩
theorem com_none {s s' : ByteArray} {i : Nat} (hz : s'.size = s.size) (h : i < s.size) (hc : comE s i = none) (hb : bt s' i = bt s i) (hw : Com s s' (i + 1)) : comE s' i = none := by
  have hx : nx s' i = nx s i := by rw [nx_lt (by omega), nx_lt h, hb]
  have h1 : hasW s i line2 ≠ true := fun g => by unfold comE at hc; rw [if_pos g] at hc; cases hc
  have h2 : hasW s i open2 ≠ true := fun g => by unfold comE at hc; rw [if_neg h1, if_pos g] at hc; cases hc
  have key : ∀ b : UInt8, (b = 47 ∨ b = 42) → hasW s i ⟨#[47, b]⟩ ≠ true → hasW s' i ⟨#[47, b]⟩ ≠ true := by
    intro b hb47 hn hg
    obtain ⟨g1, g2⟩ := hasW_nx.1 hg
    rcases com_next hz hw with hn2 | ⟨_, c, hn2⟩
    · exact hn (hasW_nx.2 ⟨by rw [← hx]; exact g1, by rw [← hn2]; exact g2⟩)
    · have := bl1_sp c
      rw [hn2] at g2
      rcases hb47 with rfl | rfl
      · exact this.2.1 g2
      · exact this.2.2.2.1 g2
  unfold comE
  rw [if_neg (key 47 (.inl rfl) h1), if_neg (key 42 (.inr rfl) h2)]
theorem skipE_fuel {s : ByteArray} : ∀ (k k' i : Nat), i ≤ s.size → s.size < i + k → s.size < i + k' → skipE s k i = skipE s k' i := by
  intro k
  induction k with
  | zero => intro k' i h h1; omega
  | succ k ih =>
    intro k' i h h1 h2
    obtain ⟨k', rfl⟩ : ∃ j, k' = j + 1 := ⟨k' - 1, by omega⟩
    rw [skipE_succ, skipE_succ]
    by_cases hi : i < s.size
    · rw [if_pos hi, if_pos hi]
      split
      · exact ih k' (i + 1) (by omega) (by omega) (by omega)
      · cases hc : comE s i with
        | none => rfl
        | some pc =>
          obtain ⟨p, c⟩ := pc
          obtain ⟨h3, h4⟩ := comE_le hc
          simp only
          split
          · rename_i h0
            have := h4 h0
            exact ih k' p h3 (by omega) (by omega)
          · rfl
    · rw [if_neg hi, if_neg hi]
theorem skip_nocom {s : ByteArray} {q : Nat} (h1 : q < s.size) (h2 : isSp (bt s q) = false) (h3 : comE s q = none) : skipT s q = (q, 0) := by
  unfold skipT
  rw [skipE_succ, if_pos h1, if_neg (by rw [h2]; exact Bool.false_ne_true), h3]
theorem skip_com {s : ByteArray} {q p : Nat} (h1 : q < s.size) (h3 : comE s q = some (p, 0)) : skipT s q = skipT s p := by
  obtain ⟨h4, h5⟩ := comE_le h3
  have h6 := h5 rfl
  have hsp : isSp (bt s q) = false := by rw [comE_47 h3]; rfl
  unfold skipT
  rw [skipE_succ, if_pos h1, if_neg (by rw [hsp]; exact Bool.false_ne_true), h3]
  simp only [if_true]
  exact skipE_fuel _ _ _ h4 (by omega) (by omega)
theorem skip_spaces {s : ByteArray} : ∀ (n q : Nat), q + n ≤ s.size → (∀ j, q ≤ j → j < q + n → isSp (bt s j) = true) → skipT s q = skipT s (q + n)
 | 0, q, h, hs => rfl
 | n + 1, q, h, hs => by
   rw [skip_space (by omega) (hs q (Nat.le_refl _) (by omega)), skip_spaces n (q + 1) (by omega) (fun j h1 h2 => hs j (by omega) (by omega))]
   congr 1
   omega
theorem com_skip {s s' : ByteArray} (hz : s'.size = s.size) {i : Nat} (h : Com s s' i) : ∃ p, skipT s i = (p, 0) ∧ skipT s' i = (p, 0) ∧ Com s s' p ∧ (p < s.size → comE s p = none) := by
  induction h with
  | done i h =>
    subst h
    exact ⟨s.size, skip_end s, by rw [← hz]; exact skip_end s', .done _ rfl, fun h => by omega⟩
  | byte i h hc hp hb hw ih =>
    by_cases hs : isSp (bt s i) = true
    · rw [skip_space h hs, skip_space (s := s') (q := i) (by omega) (by rw [hb]; exact hs)]
      exact ih
    · have hs' : isSp (bt s i) = false := by simpa using hs
      exact ⟨i, skip_nocom h hs' hc, skip_nocom (by omega) (by rw [hb]; exact hs') (com_none hz h hc hb hw), .byte i h hc hp hb hw, fun _ => hc⟩
  | com i p h hc hb hw ih =>
    obtain ⟨h3, h4⟩ := comE_le hc
    have h5 := h4 rfl
    have := skip_spaces (s := s') (p - i) i (by omega) (fun j g1 g2 => by rw [hb j g1 (by omega)]; exact (bl1_sp _).1)
    rw [show i + (p - i) = p by omega] at this
    rw [skip_com h hc, this]
    exact ih
theorem com_along {s s' : ByteArray} {p : Nat} (h : Com s s' p) : ∀ n, (∀ j, j < n → p + j < s.size ∧ bt s (p + j) ≠ 47) → Com s s' (p + n) ∧ ∀ j, j < n → bt s' (p + j) = bt s (p + j) := by
  intro n
  induction n with
  | zero => intro _; exact ⟨h, fun j hj => by omega⟩
  | succ n ih =>
    intro hn
    obtain ⟨h1, h2⟩ := ih fun j hj => hn j (by omega)
    obtain ⟨h3, h4⟩ := hn n (by omega)
    cases h1 with
    | done _ g => omega
    | byte _ g hc hp hb hw =>
      refine ⟨hw, fun j hj => ?_⟩
      by_cases e : j = n
      · rw [e]; exact hb
      · exact h2 j (by omega)
    | com _ q g hc hb hw => exact absurd (comE_47 hc) h4
theorem com_stop {s s' : ByteArray} {i : Nat} (hz : s'.size = s.size) (h : Com s s' i) : nx s' i = nx s i ∨ stop (nx s' i) := by
  rcases com_next hz h with h | ⟨_, c, h⟩
  · exact .inl h
  · rw [h]; exact .inr (bl1_sp c).2.2.2.2
theorem isWd_47 {c : Int} (h : isWd c = true) : c ≠ 47 := by rintro rfl; exact absurd h (by decide)
theorem isNum_47 {c : Int} (h : isNum c = true) : c ≠ 47 := by rintro rfl; exact absurd h (by decide)
theorem ops_47 : ∀ w ∈ ops, bt w 0 ≠ 47 ∧ (w.size = 2 → bt w 1 ≠ 47) := by decide +kernel
theorem com_run {s s' : ByteArray} (hz : s'.size = s.size) {f : Int → Bool} (hf : ∀ c, stop c → f c = false) (h47 : ∀ c, f c = true → c ≠ 47) {p : Nat} (hp : p ≤ s.size) (h : Com s s' p) : runT s' f p = runT s f p ∧ Com s s' (p + (runT s f p).size) := by
  have h1 := runE_le (s := s) (f := f) (s.size - p) p hp
  have h2 := runT_size (f := f) hp
  obtain ⟨h3, h4⟩ := runE_spec (s := s) (f := f) (s.size - p) p (by omega) hp
  obtain ⟨h5, h6⟩ := com_along h (runT s f p).size fun j hj => ⟨by omega, h47 _ (h3 _ (by omega) (by omega))⟩
  refine ⟨run_local hf hp (hasW_iff.2 ⟨by omega, fun j hj => ?_⟩) (com_stop hz h5), h5⟩
  rw [h6 j hj]
  have := (hasW_iff.1 (runT_has (s := s) (f := f) hp)).2 j hj
  exact this
theorem com_tok {s s' : ByteArray} (hz : s'.size = s.size) {p : Nat} (hp : p < s.size) (hc : comE s p = none) (h : Com s s' p) : tokE s' p = tokE s p ∧ ((tokE s p).2 = 0 → Com s s' (p + (tokE s p).1.Text.size)) := by
  cases h with
  | done _ g => omega
  | com _ q g hc' hb hw => rw [hc] at hc'; cases hc'
  | byte _ g _ hpm hb hw =>
    have hcom : Com s s' p := .byte p g hc hpm hb hw
    by_cases hl : isLet (bt s p) = true
    · have ht : tokE s p = (⟨(wordE s p).1, (p : Int), runT s isWd p, 0, 0⟩, (wordE s p).2) := by unfold tokE; rw [if_pos hl]
      have ht' : tokE s' p = (⟨(wordE s' p).1, (p : Int), runT s' isWd p, 0, 0⟩, (wordE s' p).2) := by unfold tokE; rw [hb, if_pos hl]
      obtain ⟨h1, h2⟩ := com_run hz (fun c h => (stop_wd h).1) (fun c => isWd_47) (Nat.le_of_lt hp) hcom
      have hw' : wordE s' p = wordE s p := by unfold wordE; rw [h1, hb]
      rw [ht, ht', h1, hw']
      exact ⟨rfl, fun _ => h2⟩
    · by_cases hd : isDig (bt s p) = true
      · have ht : tokE s p = numE p (runT s isNum p) := by unfold tokE; rw [if_neg hl, if_pos hd]
        have ht' : tokE s' p = numE p (runT s' isNum p) := by unfold tokE; rw [hb, if_neg hl, if_pos hd]
        obtain ⟨h1, h2⟩ := com_run hz (fun c h => (stop_wd h).2) (fun c => isNum_47) (Nat.le_of_lt hp) hcom
        rw [ht, ht', h1]
        exact ⟨rfl, fun _ => by rw [(numE_text _ _).1]; exact h2⟩
      · have ht : tokE s p = (⟨5, (p : Int), opE s p, 0, 0⟩, if opE s p = ⟨#[]⟩ then (if perm (bt s p) = true then 7 else 15) else 0) := by unfold tokE; rw [if_neg hl, if_neg hd]
        have ht' : tokE s' p = (⟨5, (p : Int), opE s' p, 0, 0⟩, if opE s' p = ⟨#[]⟩ then (if perm (bt s p) = true then 7 else 15) else 0) := by unfold tokE; rw [hb, if_neg hl, if_neg hd]
        have ho : opE s' p = opE s p := by
          refine (fold_congr ops ⟨#[]⟩ fun w hw2 => ?_).symm
          obtain ⟨w1, w2, _, _, _, _, w7⟩ := ops_shape w hw2
          have w8 := (ops_47 w hw2).2
          rw [Bool.eq_iff_iff, hasW_iff, hasW_iff]
          have two : w.size = 2 → (bt s (p + 1) = bt w 1 ↔ bt s' (p + 1) = bt w 1) ∨ ¬ p + 1 < s.size := by
            intro e
            by_cases hlt : p + 1 < s.size
            · refine .inl ?_
              rcases com_next hz hw with h1 | ⟨h1, c, h2⟩
              · rw [nx_lt (by omega), nx_lt hlt] at h1
                rw [h1]
              · rw [nx_lt hlt] at h1
                rw [nx_lt (by omega)] at h2
                have hs := (bl1_sp c).2.2.2.2
                constructor
                · intro g; exact absurd (g.symm.trans h1) (w8 e)
                · intro g
                  rw [← h2, g] at hs
                  rcases hs with hs | hs
                  · have := bt_0 w 1; omega
                  · exact absurd hs (w7 e)
            · exact .inr hlt
          constructor
          · rintro ⟨g1, g2⟩
            refine ⟨by omega, fun j hj => ?_⟩
            match j, hj with
            | 0, _ => rw [Nat.add_zero, hb]; exact g2 0 (by omega)
            | 1, hj =>
              rcases two (by omega) with t | t
              · exact t.1 (g2 1 hj)
              · omega
            | j + 2, hj => omega
          · rintro ⟨g1, g2⟩
            refine ⟨by omega, fun j hj => ?_⟩
            match j, hj with
            | 0, _ => rw [Nat.add_zero, ← hb]; exact g2 0 (by omega)
            | 1, hj =>
              rcases two (by omega) with t | t
              · exact t.2 (g2 1 hj)
              · omega
            | j + 2, hj => omega
        rw [ht, ht', ho]
        refine ⟨rfl, fun h0 => ?_⟩
        have hne : opE s p ≠ ⟨#[]⟩ := by
          intro h
          simp only at h0
          rw [if_pos h] at h0
          split at h0 <;> simp at h0
        have hm : opE s p ∈ ops := by
          rcases fold_mem (s := s) (i := p) ops ⟨#[]⟩ with h | h
          · exact absurd h hne
          · exact h
        obtain ⟨w1, w2, _⟩ := ops_shape _ hm
        obtain ⟨w8, w9⟩ := ops_47 _ hm
        have hy := hasW_iff.1 (opE_has s (Nat.le_of_lt hp))
        refine (com_along hcom _ fun j hj => ?_).1
        have hj : j < (opE s p).size := hj
        refine ⟨by omega, ?_⟩
        rw [hy.2 j hj]
        match j, hj with
        | 0, _ => exact w8
        | 1, hj => exact w9 (by omega)
        | j + 2, hj => omega
theorem com_toks {s s' : ByteArray} (hz : s'.size = s.size) : ∀ (k i : Nat) (l : List api_LexerToken), Com s s' i → toksE s' k i l = toksE s k i l := by
  intro k
  induction k with
  | zero => intro i l h; rfl
  | succ k ih =>
    intro i l h
    obtain ⟨p, h1, h2, h3, h4⟩ := com_skip hz h
    rw [toksE_succ, toksE_succ, h1, h2, if_pos rfl, if_pos rfl]
    simp only
    by_cases he : p = s.size
    · rw [if_pos he, if_pos (by omega)]
    · have hp : p < s.size := by
        cases h3 with
        | done _ g => omega
        | byte _ g _ _ _ _ => exact g
        | com _ _ g _ _ _ => exact g
      obtain ⟨g1, g2⟩ := com_tok hz hp (h4 hp) h3
      rw [if_neg he, if_neg (by omega), g1]
      by_cases h0 : (tokE s p).2 = 0
      · rw [if_pos h0, if_pos h0]
        exact ih _ _ (g2 h0)
      · rw [if_neg h0, if_neg h0]
theorem com_all {s s' : ByteArray} (hz : s'.size = s.size) {i : Nat} (h : Com s s' i) : ∀ j, i ≤ j → j < s.size → comE s' j = none ∧ perm (bt s' j) = true := by
  induction h with
  | done i h => intro j h1 h2; omega
  | byte i h hc hp hb hw ih =>
    intro j h1 h2
    by_cases e : j = i
    · subst e
      exact ⟨com_none hz h hc hb hw, by rw [hb]; exact hp⟩
    · exact ih j (by omega) h2
  | com i p h hc hb hw ih =>
    intro j h1 h2
    by_cases e : j < p
    · have := bl1_sp (bt s j)
      rw [hb j h1 e]
      exact ⟨comE_none (by rw [hb j h1 e]; exact this.2.1), this.2.2.1⟩
    · exact ih j (by omega) h2
theorem comsE_all {s : ByteArray} : ∀ (k i : Nat) (l : List api_Range), s.size < i + k → (∀ j, i ≤ j → j < s.size → comE s j = none ∧ perm (bt s j) = true) → comsE s k i l = (l, 0, 0)
 | 0, i, l, h, ha => rfl
 | k + 1, i, l, h, ha => by
   rw [comsE_succ]
   by_cases hi : i < s.size
   · obtain ⟨h1, h2⟩ := ha i (Nat.le_refl _) hi
     rw [if_pos hi, h1]
     simp only
     rw [if_pos h2]
     exact comsE_all k (i + 1) l (by omega) fun j g1 g2 => ha j (by omega) g2
   · rw [if_neg hi]
theorem strip_toks {s : ByteArray} (h : (comT s).2.2 = 0) : toksT (stripT s) = toksT s ∧ comT (stripT s) = ([], 0, 0) := by
  have hs := comT_size h
  have hz := stripT_size s
  have hc := strip_com h
  constructor
  · unfold toksT
    rw [hz]
    exact com_toks hz _ _ _ hc
  · have e : comT (stripT s) = comsE (stripT s) ((stripT s).size + 1) 0 [] := if_neg (by omega)
    rw [e]
    exact comsE_all _ _ _ (by omega) fun j h1 h2 => com_all hz hc j h1 (by omega)
end Go.Proofs.YtfmkleeneddijaaDoor.Ev.F
