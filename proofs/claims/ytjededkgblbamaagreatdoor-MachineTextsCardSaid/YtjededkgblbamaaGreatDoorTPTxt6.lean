/- A text: the program's and the reference's assembling are the same. -/
import Derived.Test.YtjededkgblbamaaGreatDoorTPTxt5
set_option linter.unusedVariables false
set_option linter.unusedSimpArgs false
set_option linter.unnecessarySimpa false
namespace Go.Proofs.YtjededkgblbamaaGreatDoor.Ev.F
open Go.Proofs.YtjededkgblbamaaGreatDoor.Ev

abbrev Tab := List (ByteArray × Int)
def plCode (p : PL) : api_MachineCode := ⟨(p.2.1 : Int), p.2.2.1, p.2.2.2.1, p.2.2.2.2.1⟩
def plTg (p : PL) : ByteArray := p.2.2.2.2.2
def lineM (p : PL) : machine_line := ⟨plCode p, plTg p, p.1.getD NB, !(seq (plTg p) NB), p.1.isSome⟩
def lineR (p : PL) : ratchetref31_line := ⟨plCode p, p.1.getD NB, plTg p⟩
noncomputable def errP (labels : List ByteArray) (p : PL) : Int := errF p.1.isSome (p.1.getD NB) labels (!within p.2.2.2.2.1 0 (mostN (p.2.1 : Int)))
def addT (T : Tab) (lab : Option ByteArray) (i : Int) : Tab := match lab with | some l => T ++ [(l, i)] | none => T
noncomputable def asmL : List ByteArray → Nat → Tab → List PL → (Nat × Int) ⊕ (Tab × List PL)
 | [], _, T, L => .inr (T, L)
 | t :: ts, i, T, L => match parse (cuts 32 t) with
   | none => .inl (i, 7)
   | some p => if errP (T.map (·.1)) p = 0 then asmL ts (i + 1) (addT T p.1 i) (L ++ [p]) else .inl (i, errP (T.map (·.1)) p)
def resL (T : Tab) : List PL → Nat → List api_MachineCode → (List api_MachineCode × Int × Int)
 | [], _, out => (out, 0, 0)
 | p :: L, i, out => if seq (plTg p) NB = true then resL T L (i + 1) (out ++ [plCode p])
   else match aget seq T (plTg p) with
     | none => ([], ((i + 1 : Nat) : Int), 6)
     | some v => resL T L (i + 1) (out ++ [⟨(p.2.1 : Int), p.2.2.1, p.2.2.2.1, v⟩])
noncomputable def asmR (s : ByteArray) : List api_MachineCode × Int × Int :=
  if s.size > 60000 then ([], 0, 8) else if (cuts 10 s).length > 16 then ([], 0, 8) else match asmL (cuts 10 s) 0 [] [] with
    | .inl (i, e) => ([], ((i + 1 : Nat) : Int), e)
    | .inr (T, L) => resL T L 0 []

/-! ### maps -/
theorem seq_comm (a b : ByteArray) : seq a b = seq b a := by
  cases h : seq a b with
  | true => rw [seq_iff.1 h, seq_self]
  | false =>
    cases h2 : seq b a with
    | false => rfl
    | true => rw [seq_iff.1 h2, seq_self] at h; cases h
theorem aget_any (l : ByteArray) : ∀ T : Tab, (aget seq T l).isSome = (T.map (·.1)).any (seq · l)
 | [] => rfl
 | p :: T => by
   rw [List.map_cons, List.any_cons, aget, seq_comm p.1 l]
   cases seq l p.1 with
   | true => rfl
   | false => simp only [Bool.false_eq_true, if_false, Bool.false_or]; exact aget_any l T
theorem aput_new (l : ByteArray) (i : Int) : ∀ T : Tab, (T.map (·.1)).any (seq · l) = false → aput seq T l i = T ++ [(l, i)]
 | [], _ => rfl
 | p :: T, h => by
   rw [List.map_cons, List.any_cons, Bool.or_eq_false_iff] at h
   rw [aput, seq_comm l p.1, h.1]
   simp only [Bool.false_eq_true, if_false]
   rw [aput_new l i T h.2]
   rfl

/-! ### the program -/
abbrev asmT (e : Int) (T : Tab) (L : List machine_line) : R_machine_Assembled_1 := ((e, ()), (((), ()), (((), ()), (T, (L, ())))))
theorem pasm0 (i : Int) (text : ByteArray) (T : Tab) (L : List machine_line) (hL : L.length ≤ 1000) (op a b n : Int) (tg lb : ByteArray) (j l ok : Bool) (hlb : lb.size ≤ 60010)
    (h : run_machine_lineOf (.start text) = some ((lineT op a b n tg lb j l, (ok, ())), ())) :
    run_machine_Assembled_1 (.start i text T L) = some (asmT (firstE [if ok = true then 0 else 7, if (!l || nameOk lb) = true then 0 else 4, if (!l || !(aget seq T lb).isSome) = true then 0 else 5, if within n 0 (mostN op) = true then 0 else 2]) (if l = true then aput seq T lb i else T) (L ++ [⟨⟨op, a, b, n⟩, tg, lb, j, l⟩])) := by
  have h63 : ∀ e T, run_machine_Assembled_1 (.p63 e T op a b n tg lb j l L) = some (asmT e T (L ++ [⟨⟨op, a, b, n⟩, tg, lb, j, l⟩])) := by
    intro e T
    rw [run_machine_Assembled_1, if_pos (fits_ok (by simp; omega))]
  have h31 : ∀ e, run_machine_Assembled_1 (.p31 i e T op a b n tg lb j l L) = some (asmT e (if l = true then aput seq T lb i else T) (L ++ [⟨⟨op, a, b, n⟩, tg, lb, j, l⟩])) := by
    intro e
    rw [run_machine_Assembled_1, h63, h63]
    cases l <;> rfl
  rw [run_machine_Assembled_1, h]
  unfold lineT
  cases l with
  | true =>
    simp only [some_bind', punless, pnumber, pname hlb, Bool.not_true, Bool.false_eq_true, if_false, Bool.false_or]
    rw [pfirst _ (by simp)]
    simp only [some_bind', h31, if_true]
  | false =>
    simp only [some_bind', punless, pnumber, Bool.not_false, if_true, Bool.true_or]
    rw [pfirst _ (by simp)]
    simp only [some_bind', h31]
theorem lab_size {s : ByteArray} (hs : s.size ≤ 60010) : ((labW (cuts 32 s)).1.getD NB).size ≤ 60010 := by
  have hsz := fun x (hx : x ∈ cuts 32 s) => Nat.le_trans (cuts_size hx) hs
  cases hc : cuts 32 s with
  | nil => decide
  | cons x ws =>
    rw [hc] at hsz
    have hL : labW (x :: ws) = if 0 < x.size ∧ bt x (x.size - 1) = 58 then (some (x.extract 0 (x.size - 1)), ws) else (none, x :: ws) := rfl
    rw [hL]
    split
    · have := hsz x (List.mem_cons_self ..)
      show (x.extract 0 (x.size - 1)).size ≤ _
      rw [size_ext x (by omega) (by omega)]
      omega
    · exact (by decide : NB.size ≤ 60010)
theorem errP_first (T : Tab) (p : PL) : firstE [if true = true then 0 else 7, if (!p.1.isSome || nameOk (p.1.getD NB)) = true then 0 else 4, if (!p.1.isSome || !(aget seq T (p.1.getD NB)).isSome) = true then 0 else 5, if within p.2.2.2.2.1 0 (mostN (p.2.1 : Int)) = true then 0 else 2] = errP (T.map (·.1)) p := by
  unfold errP errF
  rw [aget_any]
  cases p.1.isSome <;> cases nameOk (p.1.getD NB) <;> cases (T.map (·.1)).any (seq · (p.1.getD NB)) <;> cases within p.2.2.2.2.1 0 (mostN (p.2.1 : Int)) <;> rfl
theorem pasm1 (i : Int) (text : ByteArray) (hs : text.size ≤ 60010) (T : Tab) (L : List PL) (hL : L.length ≤ 1000) :
    ∃ t, run_machine_Assembled_1 (.start i text T (L.map lineM)) = some t ∧ match parse (cuts 32 text) with
      | none => t.1.1 = 7
      | some p => t.1.1 = errP (T.map (·.1)) p ∧ (errP (T.map (·.1)) p = 0 → t = asmT 0 (addT T p.1 i) ((L ++ [p]).map lineM)) := by
  obtain ⟨t, h1, h2⟩ := pline text hs
  have hlb := lab_size hs
  have hL' : (L.map lineM).length ≤ 1000 := by simpa using hL
  unfold parse
  cases hv : restW (labW (cuts 32 text)).2 with
  | none =>
    rw [hv] at h2
    obtain ⟨⟨⟨op, a, b, n, tg, lb, j, l, u⟩, ok, u2⟩, u3⟩ := t
    obtain ⟨g1, g2⟩ : ok = false ∧ lb = _ := h2
    subst g1
    rw [← g2] at hlb
    refine ⟨_, pasm0 i text T _ hL' op a b n tg lb j l false hlb h1, ?_⟩
    simp [firstE]
  | some q =>
    obtain ⟨op, a, b, n, tg⟩ := q
    rw [hv] at h2
    have h2 : t = ((lineT op a b n tg _ (!(seq tg NB)) (labW (cuts 32 text)).1.isSome, (true, ())), ()) := h2
    subst h2
    refine ⟨_, pasm0 i text T _ hL' op a b n tg _ _ _ true hlb h1, ?_⟩
    have he := errP_first T ((labW (cuts 32 text)).1, op, a, b, n, tg)
    refine ⟨he, fun h0 => ?_⟩
    have he0 := he.trans h0
    show asmT _ _ _ = _
    have e2 : (if (labW (cuts 32 text)).1.isSome = true then aput seq T ((labW (cuts 32 text)).1.getD NB) i else T) = addT T (labW (cuts 32 text)).1 i := by
      unfold errP errF at h0
      cases hlab : (labW (cuts 32 text)).1 with
      | none => rfl
      | some l =>
        rw [hlab] at h0
        simp only [Option.isSome_some, if_true, Option.getD_some] at h0 ⊢
        refine aput_new l i T ?_
        cases ha : (T.map (·.1)).any (seq · l) with
        | false => rfl
        | true =>
          rw [ha] at h0
          simp only [if_true] at h0
          split at h0 <;> cases h0
    rw [he0, e2, List.map_append]
    rfl
theorem peachS (texts : List ByteArray) (hsz : ∀ x ∈ texts, x.size ≤ 60010) (hlen : texts.length ≤ 1000) : ∀ (k i : Nat) (T : Tab) (L : List PL), i + k = texts.length → L.length ≤ i →
    ∃ t, run_machine_each_string (.p52 texts (texts.length : Int) (i : Int) T (L.map lineM)) = some t ∧ match asmL (texts.drop i) i T L with
      | .inl (j, e) => t.1.1 = (j : Int) ∧ j < 1000 ∧ t.1.2.1 = e ∧ e ≠ 0
      | .inr (T', L') => t = ((0, (0, ())), (((), ()), (((), ()), (T', (L'.map lineM, ())))))
 | 0, i, T, L, h, hL => by
   rw [run_machine_each_string, if_neg (by simp; omega), List.drop_of_length_le (by omega)]
   exact ⟨_, rfl, rfl⟩
 | k + 1, i, T, L, h, hL => by
   have hi : i < texts.length := by omega
   obtain ⟨t, h1, h2⟩ := pasm1 (i : Int) texts[i] (hsz _ (List.getElem_mem hi)) T L (by omega)
   rw [run_machine_each_string, if_pos (by simpa using hi), idx_nat, List.getElem?_eq_getElem hi]
   simp only [some_bind', h1]
   rw [drop_cons hi, asmL]
   cases hp : parse (cuts 32 texts[i]) with
   | none =>
     rw [hp] at h2
     simp only at h2
     rw [if_pos (by rw [h2]; rfl)]
     exact ⟨_, rfl, rfl, by omega, h2, by decide⟩
   | some p =>
     rw [hp] at h2
     simp only at h2 ⊢
     obtain ⟨g1, g2⟩ := h2
     by_cases h0 : errP (T.map (·.1)) p = 0
     · have := g2 h0
       subst this
       rw [if_neg (show ¬ ((0 : Int) != 0) = true by decide), if_pos h0, wrap_succ hi (by omega)]
       exact peachS texts hsz hlen k (i + 1) (addT T p.1 i) (L ++ [p]) (by omega) (by simp; omega)
     · rw [if_pos (by rw [g1]; simpa using h0), if_neg h0]
       exact ⟨_, rfl, rfl, by omega, g1, h0⟩
theorem pres (T : Tab) (L : List PL) (hL : L.length ≤ 1000) : ∀ (k i : Nat) (out : List api_MachineCode), i + k = L.length → out.length ≤ i →
    run_machine_Assembled (.p8180 ((L.map lineM).length : Int) (i : Int) out (L.map lineM) T) = some (((), ((resL T (L.drop i) i out).2.1, ((resL T (L.drop i) i out).2.2, ()))), ((resL T (L.drop i) i out).1, ()))
 | 0, i, out, h, ho => by
   rw [run_machine_Assembled, if_neg (by simp; omega), List.drop_of_length_le (by omega)]
   rfl
 | k + 1, i, out, h, ho => by
   have hi : i < L.length := by omega
   have hi' : i < (L.map lineM).length := by simpa using hi
   have hg : (decide ((0 : Int) ≤ (i : Int)) && decide ((i : Int) < (List.length (L.map lineM) : Int))) = true := by simp; exact hi
   have ex : (L.map lineM)[i] = lineM L[i] := List.getElem_map ..
   rw [run_machine_Assembled, if_pos (by simpa using hi), if_pos hg, idx_nat, List.getElem?_eq_getElem hi', ex]
   simp only [some_bind']
   rw [wrap_succ hi (by omega), if_pos (fits_ok (by simp; omega)), if_pos (fits_ok (by simp; omega))]
   rw [pres T L hL k (i + 1) _ (by omega) (by simp; omega), pres T L hL k (i + 1) _ (by omega) (by simp; omega), drop_cons hi, resL]
   have e1 : (lineM L[i]).jumps = !(seq (plTg L[i]) NB) := rfl
   have e2 : (lineM L[i]).target = plTg L[i] := rfl
   rw [e1, e2]
   cases seq (plTg L[i]) NB with
   | true => rfl
   | false =>
     simp only [Bool.not_false, if_true, Bool.false_eq_true, if_false]
     cases aget seq T (plTg L[i]) with
     | none => rfl
     | some v => rfl
theorem asmL_len {T' : Tab} {L' : List PL} : ∀ (ts : List ByteArray) (i : Nat) (T : Tab) (L : List PL), asmL ts i T L = .inr (T', L') → L'.length = L.length + ts.length
 | [], i, T, L, h => by
   obtain ⟨_, rfl⟩ := Prod.mk.inj (Sum.inr.inj h)
   rfl
 | t :: ts, i, T, L, h => by
   rw [asmL] at h
   cases hp : parse (cuts 32 t) with
   | none => rw [hp] at h; cases h
   | some p =>
     rw [hp] at h
     simp only at h
     split at h
     · have := asmL_len ts (i + 1) _ _ h
       simp at this ⊢
       omega
     · cases h
theorem passembled (s : ByteArray) (hs : s.size ≤ 60010) : run_machine_Assembled (.start s) = some (((), ((asmR s).2.1, ((asmR s).2.2, ()))), ((asmR s).1, ())) := by
  rw [run_machine_Assembled]
  unfold asmR
  by_cases h1 : s.size > 60000
  · rw [if_pos (by simp; omega), if_pos h1]
  · rw [if_neg (by simp; omega), if_neg h1, split_eq s 10 hs]
    simp only [some_bind']
    by_cases h2 : (cuts 10 s).length > 16
    · rw [if_pos (by simp; omega), if_pos h2]
    · rw [if_neg (by simp; omega), if_neg h2, run_machine_each_string]
      obtain ⟨t, g1, g2⟩ := peachS (cuts 10 s) (fun x hx => Nat.le_trans (cuts_size hx) hs) (by omega) (cuts 10 s).length 0 [] [] (by omega) (by simp)
      have g1 : run_machine_each_string (.p52 (cuts 10 s) ((cuts 10 s).length : Int) (0 : Int) [] []) = some t := g1
      rw [g1]
      simp only [some_bind']
      rw [List.drop_zero] at g2
      cases ha : asmL (cuts 10 s) 0 [] [] with
      | inl x =>
        obtain ⟨j, e⟩ := x
        rw [ha] at g2
        obtain ⟨g2, g3, g4, g5⟩ : t.1.1 = (j : Int) ∧ j < 1000 ∧ t.1.2.1 = e ∧ e ≠ 0 := g2
        rw [if_pos (by rw [g4]; simpa using g5), g2, g4, wrap_succ g3 (by omega)]
      | inr x =>
        obtain ⟨T, L⟩ := x
        rw [ha] at g2
        have g2 : t = ((0, (0, ())), (((), ()), (((), ()), (T, (L.map lineM, ()))))) := g2
        subst g2
        rw [if_neg (show ¬ ((0 : Int) != 0) = true by decide)]
        have hl : L.length ≤ 1000 := by
          have := asmL_len _ _ _ _ ha
          simp at this
          omega
        exact pres T L hl L.length 0 [] (by omega) (by simp)

/-! ### the reference -/
def keysOk (T : Tab) : Prop := T.Pairwise fun p q => seq p.1 q.1 = false
def lastM (tg : ByteArray) : Tab → Bool → Int → Bool × Int
 | [], f, n => (f, n)
 | p :: T, f, n => if seq p.1 tg = true then lastM tg T true p.2 else lastM tg T f n
theorem lastM_none (tg : ByteArray) : ∀ (T : Tab) (f : Bool) (n : Int), (∀ p ∈ T, seq p.1 tg = false) → lastM tg T f n = (f, n)
 | [], _, _, _ => rfl
 | p :: T, f, n, h => by
   rw [lastM, h p (List.mem_cons_self ..)]
   exact lastM_none tg T f n fun q hq => h q (List.mem_cons_of_mem _ hq)
theorem lastM_aget (tg : ByteArray) : ∀ (T : Tab) (f : Bool) (n : Int), keysOk T → lastM tg T f n = match aget seq T tg with | none => (f, n) | some v => (true, v)
 | [], _, _, _ => rfl
 | p :: T, f, n, h => by
   obtain ⟨h1, h2⟩ := List.pairwise_cons.1 h
   rw [lastM, aget, seq_comm tg p.1]
   cases hs : seq p.1 tg with
   | true =>
     simp only [if_true]
     refine lastM_none tg T true p.2 fun q hq => ?_
     have := h1 q hq
     rw [seq_iff.1 hs] at this
     rw [seq_comm]
     exact this
   | false =>
     simp only [Bool.false_eq_true, if_false]
     exact lastM_aget tg T f n h2
theorem addT_ok {T : Tab} {p : PL} {i : Int} (h : keysOk T) (h0 : errP (T.map (·.1)) p = 0) : keysOk (addT T p.1 i) := by
  unfold errP errF at h0
  cases hl : p.1 with
  | none => exact h
  | some l =>
    rw [hl] at h0
    simp only [Option.isSome_some, if_true, Option.getD_some] at h0
    refine List.pairwise_append.2 ⟨h, List.pairwise_singleton _ _, fun q hq r hr => ?_⟩
    have : r = (l, i) := by simpa using hr
    subst this
    show seq q.1 l = false
    cases hs : seq q.1 l with
    | false => rfl
    | true =>
      have : (T.map (·.1)).any (seq · l) = true := List.any_eq_true.2 ⟨q.1, List.mem_map_of_mem hq, hs⟩
      rw [if_pos this] at h0
      split at h0 <;> cases h0
theorem asmL_ok {T' : Tab} {L' : List PL} : ∀ (ts : List ByteArray) (i : Nat) (T : Tab) (L : List PL), keysOk T → asmL ts i T L = .inr (T', L') → keysOk T' ∧ T'.length ≤ T.length + ts.length
 | [], i, T, L, hk, h => by
   obtain ⟨rfl, _⟩ := Prod.mk.inj (Sum.inr.inj h)
   exact ⟨hk, by simp⟩
 | t :: ts, i, T, L, hk, h => by
   rw [asmL] at h
   cases hp : parse (cuts 32 t) with
   | none => rw [hp] at h; cases h
   | some p =>
     rw [hp] at h
     simp only at h
     split at h
     · rename_i h0
       obtain ⟨g1, g2⟩ := asmL_ok ts (i + 1) _ _ (addT_ok hk h0) h
       refine ⟨g1, ?_⟩
       have : (addT T p.1 i).length ≤ T.length + 1 := by unfold addT; cases p.1 <;> simp
       simp
       omega
     · cases h
theorem own_name {labels : List ByteArray} {p : PL} (h0 : errP labels p = 0) : seq (p.1.getD NB) NB = !p.1.isSome := by
  unfold errP errF at h0
  cases hl : p.1 with
  | none => rfl
  | some l =>
    rw [hl] at h0
    simp only [Option.isSome_some, if_true, Option.getD_some] at h0 ⊢
    cases hn : nameOk l with
    | true => exact nameOk_ne hn
    | false => rw [hn] at h0; simp at h0
theorem rasm (texts : List ByteArray) (hsz : ∀ x ∈ texts, x.size ≤ 60010) (hlen : texts.length ≤ 1000) : ∀ (k i : Nat) (T : Tab) (L : List PL), i + k = texts.length → L.length ≤ i → T.length ≤ i →
    run_ratchetref31_Assembled (.p4084 (i : Int) texts (L.map lineR) (T.map (·.1)) (T.map (·.2))) = match asmL (texts.drop i) i T L with
      | .inl (j, e) => some (((), (((j + 1 : Nat) : Int), (e, ()))), ([], ()))
      | .inr (T', L') => run_ratchetref31_Assembled (.p16372 (0 : Int) (L'.map lineR) (T'.map (·.1)) (T'.map (·.2)) [])
 | 0, i, T, L, h, hL, hT => by
   rw [List.drop_of_length_le (by omega)]
   conv => lhs; rw [run_ratchetref31_Assembled]
   rw [if_neg (by simp; omega)]
   rfl
 | k + 1, i, T, L, h, hL, hT => by
   have hi : i < texts.length := by omega
   have hg : (decide ((0 : Int) ≤ (i : Int)) && decide ((i : Int) < (List.length texts : Int))) = true := by simp; exact hi
   obtain ⟨t, h1, h2⟩ := rread texts[i] (T.map (·.1)) (hsz _ (List.getElem_mem hi)) (by simp; omega)
   conv => lhs; rw [run_ratchetref31_Assembled]
   rw [if_pos (by simpa using hi), if_pos hg, idx_nat, List.getElem?_eq_getElem hi]
   simp only [some_bind', h1]
   rw [drop_cons hi, asmL, wrap_succ hi (by omega)]
   cases hp : parse (cuts 32 texts[i]) with
   | none =>
     rw [hp] at h2
     have h2 : t.1.2.1 = 7 := h2
     rw [h2]
     rfl
   | some p =>
     obtain ⟨lab, op, a, b, n, tg⟩ := p
     rw [hp] at h2
     have h2 : t = readT op a b n (lab.getD NB) tg (errP (T.map (·.1)) (lab, op, a, b, n, tg)) := h2
     subst h2
     have hown := own_name (labels := T.map (·.1)) (p := (lab, op, a, b, n, tg))
     have ih := fun T' hT' => rasm texts hsz hlen k (i + 1) T' (L ++ [(lab, op, a, b, n, tg)]) (by omega) (by simp; omega) hT'
     simp only [readT]
     by_cases h0 : errP (T.map (·.1)) (lab, op, a, b, n, tg) = 0
     · refine Eq.trans (if_neg (show ¬ (errP (T.map (·.1)) (lab, op, a, b, n, tg) != 0) = true by simpa using h0)) ?_
       rw [if_pos (fits_ok (by simp; omega)), if_pos h0]
       have hown : seq (lab.getD NB) NB = !lab.isSome := hown h0
       cases lab with
       | none =>
         refine Eq.trans (if_neg (show ¬ (!seq NB NB) = true by decide)) ?_
         have := ih T (by omega)
         rw [List.map_append] at this
         exact this
       | some l =>
         have hown : seq l NB = false := hown
         refine Eq.trans (if_pos (show (!seq l NB) = true by rw [hown]; rfl)) ?_
         refine Eq.trans (if_pos (fits_ok (by simp; omega))) ?_
         refine Eq.trans (if_pos (fits_ok (by simp; omega))) ?_
         have := ih (T ++ [(l, (i : Int))]) (by simp; omega)
         rw [List.map_append, List.map_append, List.map_append] at this
         exact this
     · refine Eq.trans (if_pos (show (errP (T.map (·.1)) (lab, op, a, b, n, tg) != 0) = true by simpa using h0)) ?_
       rw [if_neg h0]
theorem rlast (L : List PL) (T : Tab) (hL : L.length ≤ 1000) (hT : T.length ≤ 1000) (out : List api_MachineCode) (i : Nat) (hi : i < L.length) (c0 c1 c2 : Int) : ∀ (k j : Nat) (f : Bool) (n : Int), j + k = T.length →
    run_ratchetref31_Assembled (.p67062100 (i : Int) f (j : Int) (L.map lineR) (T.map (·.1)) (T.map (·.2)) out c0 c1 c2 n) =
    run_ratchetref31_Assembled (.p67062100 (i : Int) (lastM (plTg L[i]) (T.drop j) f n).1 (T.length : Int) (L.map lineR) (T.map (·.1)) (T.map (·.2)) out c0 c1 c2 (lastM (plTg L[i]) (T.drop j) f n).2)
 | 0, j, f, n, h => by
   rw [List.drop_of_length_le (by omega)]
   have : j = T.length := by omega
   subst this
   rfl
 | k + 1, j, f, n, h => by
   have hj : j < T.length := by omega
   have hj1 : j < (T.map (·.1)).length := by simpa using hj
   have hj2 : j < (T.map (·.2)).length := by simpa using hj
   have hi' : i < (L.map lineR).length := by simpa using hi
   have g1 : (decide ((0 : Int) ≤ (j : Int)) && decide ((j : Int) < (List.length (T.map (·.1)) : Int))) = true := by simp; exact hj
   have g2 : (decide ((0 : Int) ≤ (j : Int)) && decide ((j : Int) < (List.length (T.map (·.2)) : Int))) = true := by simp; exact hj
   have g3 : (decide ((0 : Int) ≤ (i : Int)) && decide ((i : Int) < (List.length (L.map lineR) : Int))) = true := by simp; exact hi
   have ex : (L.map lineR)[i] = lineR L[i] := List.getElem_map ..
   have e1 : (T.map (·.1))[j] = T[j].1 := List.getElem_map ..
   have e2 : (T.map (·.2))[j] = T[j].2 := List.getElem_map ..
   have iA := rlast L T hL hT out i hi c0 c1 c2 k (j + 1) true T[j].2 (by omega)
   have iB := rlast L T hL hT out i hi c0 c1 c2 k (j + 1) f n (by omega)
   rw [drop_cons hj, lastM]
   conv => lhs; rw [run_ratchetref31_Assembled]
   rw [if_pos (by simpa using hj), if_pos g1, idx_nat, List.getElem?_eq_getElem hj1, e1, wrap_succ hj (by omega)]
   simp only [some_bind']
   rw [if_pos g3, idx_nat, List.getElem?_eq_getElem hi', ex]
   simp only [some_bind']
   have et : (lineR L[i]).jump = plTg L[i] := rfl
   rw [et]
   cases hs : seq T[j].1 (plTg L[i]) with
   | true =>
     simp only [if_true]
     rw [if_pos g2, idx_nat, List.getElem?_eq_getElem hj2, e2]
     exact iA
   | false => simp only [Bool.false_eq_true, if_false]; exact iB
theorem rres (T : Tab) (hk : keysOk T) (hT : T.length ≤ 1000) (L : List PL) (hL : L.length ≤ 1000) : ∀ (k i : Nat) (out : List api_MachineCode), i + k = L.length → out.length ≤ i →
    run_ratchetref31_Assembled (.p16372 (i : Int) (L.map lineR) (T.map (·.1)) (T.map (·.2)) out) = some (((), ((resL T (L.drop i) i out).2.1, ((resL T (L.drop i) i out).2.2, ()))), ((resL T (L.drop i) i out).1, ()))
 | 0, i, out, h, ho => by
   rw [run_ratchetref31_Assembled, if_neg (by simp; omega), List.drop_of_length_le (by omega)]
   rfl
 | k + 1, i, out, h, ho => by
   have hi : i < L.length := by omega
   have hi' : i < (L.map lineR).length := by simpa using hi
   have hg : (decide ((0 : Int) ≤ (i : Int)) && decide ((i : Int) < (List.length (L.map lineR) : Int))) = true := by simp; exact hi
   have ex : (L.map lineR)[i] = lineR L[i] := List.getElem_map ..
   have ih := fun o ho' => rres T hk hT L hL k (i + 1) o (by omega) ho'
   have hla := rlast L T hL hT out i hi (lineR L[i]).code.Op (lineR L[i]).code.A (lineR L[i]).code.B T.length 0 false (lineR L[i]).code.N (by omega)
   rw [show ((0 : Nat) : Int) = 0 from rfl, List.drop_zero, lastM_aget _ _ _ _ hk] at hla
   conv => lhs; rw [run_ratchetref31_Assembled]
   rw [if_pos (by simpa using hi), if_pos hg, idx_nat, List.getElem?_eq_getElem hi', ex]
   simp only [some_bind']
   rw [if_pos hg]
   have et : (lineR L[i]).jump = plTg L[i] := rfl
   rw [if_pos (fits_ok (by simp; omega)), wrap_succ hi (by omega), drop_cons hi, resL, et]
   cases hs : seq (plTg L[i]) NB with
   | true =>
     simp only [Bool.not_true, Bool.false_eq_true, if_false, if_true]
     exact ih _ (by simp; omega)
   | false =>
     simp only [Bool.not_false, Bool.false_eq_true, if_false, if_true]
     rw [hla]
     have fin : ∀ f n, run_ratchetref31_Assembled (.p67062100 (i : Int) f (T.length : Int) (L.map lineR) (T.map (·.1)) (T.map (·.2)) out (lineR L[i]).code.Op (lineR L[i]).code.A (lineR L[i]).code.B n) =
         if f = true then run_ratchetref31_Assembled (.p16372 ((i + 1 : Nat) : Int) (L.map lineR) (T.map (·.1)) (T.map (·.2)) (out ++ [⟨(lineR L[i]).code.Op, (lineR L[i]).code.A, (lineR L[i]).code.B, n⟩])) else some (((), (((i + 1 : Nat) : Int), ((6 : Int), ()))), ([], ())) := by
       intro f n
       conv => lhs; rw [run_ratchetref31_Assembled]
       rw [if_neg (by simp), if_pos (fits_ok (by simp; omega)), wrap_succ hi (by omega)]
       cases f <;> rfl
     cases aget seq T (plTg L[i]) with
     | none => rw [fin]; rfl
     | some v =>
       rw [fin]
       simp only [if_true]
       exact ih _ (by simp; omega)
theorem rassembled (s : ByteArray) (hs : s.size ≤ 60010) : run_ratchetref31_Assembled (.start s) = some (((), ((asmR s).2.1, ((asmR s).2.2, ()))), ((asmR s).1, ())) := by
  have hcut : run_ratchetbase_Cut (.start s (10 : Int)) = some (((), ()), (cuts 10 s, ())) := rcut_eq s 10 hs
  rw [run_ratchetref31_Assembled]
  unfold asmR
  by_cases h1 : s.size > 60000
  · rw [if_pos (by simp; omega), if_pos h1]
  · rw [if_neg (by simp; omega), if_neg h1, hcut]
    simp only [some_bind']
    by_cases h2 : (cuts 10 s).length > 16
    · rw [if_pos (by simp; omega), if_pos h2]
    · rw [if_neg (by simp; omega), if_neg h2]
      have g1 := rasm (cuts 10 s) (fun x hx => Nat.le_trans (cuts_size hx) hs) (by omega) (cuts 10 s).length 0 [] [] (by omega) (by simp) (by simp)
      have g1 : run_ratchetref31_Assembled (.p4084 (0 : Int) (cuts 10 s) [] [] []) = _ := g1
      rw [g1, List.drop_zero]
      cases ha : asmL (cuts 10 s) 0 [] [] with
      | inl x => rfl
      | inr x =>
        obtain ⟨T, L⟩ := x
        have hl : L.length ≤ 1000 := by
          have := asmL_len _ _ _ _ ha
          simp at this
          omega
        obtain ⟨k1, k2⟩ := asmL_ok _ _ _ _ List.Pairwise.nil ha
        have hT : T.length ≤ 1000 := by simp at k2; omega
        exact rres T k1 hT L hl L.length 0 [] (by omega) (by simp)
end Go.Proofs.YtjededkgblbamaaGreatDoor.Ev.F
