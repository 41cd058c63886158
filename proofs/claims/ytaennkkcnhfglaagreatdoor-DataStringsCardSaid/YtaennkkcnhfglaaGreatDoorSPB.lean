/- A part of the proof. -/
import Derived.Test.YtaennkkcnhfglaaGreatDoorSPA
set_option linter.unusedVariables false
set_option linter.unusedSimpArgs false
set_option linter.unnecessarySimpa false
namespace Go.Proofs.YtaennkkcnhfglaaGreatDoor.Ev.F
open Go.Proofs.YtaennkkcnhfglaaGreatDoor.Ev
noncomputable section
abbrev PRes := ((ByteArray × (Int × ((List ua0) × Unit))) × (ByteArray × (Bool × Unit))) × Unit
abbrev RRes := ((ByteArray × (Int × ((List ua0) × Unit))) × (Int × Unit)) × Unit
def Bad (s : ByteArray) (e : Int) : Prop := e = -1 ∨ ∃ k : Nat, e = (k : Int) ∧ k < s.size ∧ uL1 (bt s k) = false
def pok (s : ByteArray) (v : DV) (e : Nat) : PRes := (((v.Name, (v.Number, (v.Parts, ()))), (suf s e, (true, ()))), ())
def rok (v : DV) (e : Nat) : RRes := (((v.Name, (v.Number, (v.Parts, ()))), ((e : Int), ())), ())
def Both (s : ByteArray) (q : Nat) (p : Option PRes) (r : Option RRes) : Prop :=
  (∃ (v : DV) (e : Nat), q < e ∧ e ≤ s.size ∧ vsz v ≤ e - q ∧ p = some (pok s v e) ∧ r = some (rok v e)) ∨
  (∃ a b c d, p = some ((a, (b, (false, ()))), ()) ∧ r = some ((c, (d, ())), ()) ∧ Bad s d)
theorem vh5 (l m : List DV) : vszs (l ++ m) = vszs l + vszs m := by
  induction l with
  | nil => simp [uh1]
  | cons a l ih => rw [List.cons_append, ug1, ug1, ih]; omega
theorem u75 (r w : ByteArray) (k : Int) (B : List DV) : uc1 (.p4088 r false w k B) = some (((w, (k, (B, ()))), (r, (true, ()))), ()) := by
  rw [uc1]; rfl
theorem v05 {s : ByteArray} (hs : s.size ≤ 60010) {c : ByteArray × (Int × ((List ua0) × Unit))} {d : Int} (hd : Bad s d) {e q : Nat} {w : ByteArray} {B : List DV} (hq : IntKind.wrap .i64 ((e : Int) + 1) = (q : Int)) (hB : B.length ≤ 60010)
    (h : ub1 (.start s (q : Int)) = some ((c, (d, ())), ())) : ub1 (.p2044 s (e : Int) ub6 0 w 0 B) = some (((ub6, (0, ([], ()))), ((-1 : Int), ())), ()) := by
  rw [ub1, hq, h]
  simp only [ua1]
  rcases hd with rfl | ⟨k, rfl, h1, h2⟩
  · rw [if_pos (show decide ((-1 : Int) < 0) = true by decide)]
  · rw [if_neg (by simp only [decide_eq_true_eq]; omega), if_neg (by simp only [beq_iff_eq]; omega), ub1, if_pos (uU0 (by simp; omega)), ue5 h1]
    unfold uL1 at h2
    simp at h2
    simp only [ua1]
    rw [if_neg (by simpa using h2.2.2), if_pos (by simpa using h2.2.1)]
def Main (s : ByteArray) (q : Nat) : Prop := Both s q (uc1 (.start (suf s q))) (ub1 (.start s (q : Int)))
def sep (s : ByteArray) (e : Nat) : Prop := e + 1 < s.size ∧ bt s e = 44 ∧ bt s (e + 1) = 32
noncomputable instance (s : ByteArray) (e : Nat) : Decidable (sep s e) := by unfold sep; exact inferInstance
def rbad : RRes := (((ub6, (0, ([], ()))), ((-1 : Int), ())), ())
theorem vs7 {s : ByteArray} {p e : Nat} {v w B} (he : e ≤ s.size) (hB : B.length ≤ 60010) (h : uc1 (.start (suf s p)) = some (pok s v e)) :
    uc1 (.p4088 (suf s p) true w 0 B) = (if sep s e then uc1 (.p4088 (suf s (e + 2)) true w 0 (B ++ [v])) else if e < s.size ∧ bt s e = 41 then some (pok s ⟨w, 0, B ++ [v]⟩ (e + 1)) else some (((w, (0, (B ++ [v], ()))), (suf s e, (false, ()))), ())) := by
  conv => lhs; rw [uc1]
  rw [if_pos rfl, h]
  simp only [ua1, pok, uF6]
  rw [if_neg (show ¬ (!true) = true by decide), if_pos (uU0 (by simp; omega)), cut2 he 44 32]
  simp only [ua1]
  have z44 : ((44 : UInt8).toNat : Int) = 44 := rfl
  have z32 : ((32 : UInt8).toNat : Int) = 32 := rfl
  have z41 : ((41 : UInt8).toNat : Int) = 41 := rfl
  rw [z44, z32]
  by_cases hs : sep s e
  · rw [if_pos hs, if_pos (show e + 1 < s.size ∧ bt s e = 44 ∧ bt s (e + 1) = 32 from hs)]
    simp only [if_true]
  · rw [if_neg hs, if_neg (show ¬ (e + 1 < s.size ∧ bt s e = 44 ∧ bt s (e + 1) = 32) from hs)]
    simp only [Bool.false_eq_true, if_false]
    rw [cut1 he 41]
    simp only [ua1]
    rw [z41]
    by_cases h41 : e < s.size ∧ bt s e = 41
    · rw [if_pos h41, if_pos h41, if_neg (show ¬ (!true) = true by decide), u75]
    · rw [if_neg h41, if_neg h41]
      rfl
theorem vZ1 {s : ByteArray} (hs : s.size ≤ 60010) {e0 p e : Nat} {v w B} (hp : e0 + 1 = p) (hpe : p < e) (he : e ≤ s.size) (hB : B.length ≤ 60010) (h : ub1 (.start s (p : Int)) = some (rok v e)) :
    ub1 (.p2044 s (e0 : Int) ub6 0 w 0 B) = (if sep s e then ub1 (.p2044 s ((e + 1 : Nat) : Int) ub6 0 w 0 (B ++ [v])) else if e < s.size ∧ bt s e = 41 then some (rok ⟨w, 0, B ++ [v]⟩ (e + 1)) else some rbad) := by
  have hw : IntKind.wrap .i64 ((e0 : Int) + 1) = (p : Int) := by rw [wrap_i64 (by omega) (by omega)]; omega
  conv => lhs; rw [ub1]
  rw [hw, h]
  simp only [ua1, rok, uF6]
  rw [if_neg (show ¬ decide ((e : Int) < 0) = true by simp only [decide_eq_true_eq]; omega)]
  by_cases hE : e = s.size
  · have hn : ¬ sep s e := fun h => by have := h.1; omega
    rw [if_pos (show ((e : Int) == (s.size : Int)) = true by simp only [beq_iff_eq]; omega), if_neg hn, if_neg (fun h => by omega)]
    rfl
  · rw [if_neg (show ¬ ((e : Int) == (s.size : Int)) = true by simp only [beq_iff_eq]; omega)]
    conv => lhs; rw [ub1]
    rw [if_pos (uU0 (by simp; omega)), ue5 (by omega)]
    simp only [ua1, uF6]
    have hw2 : IntKind.wrap .i64 ((e : Int) + 1) = ((e + 1 : Nat) : Int) := by rw [wrap_i64 (by omega) (by omega)]; rfl
    rw [hw2]
    by_cases h41 : bt s e = 41
    · have hn : ¬ sep s e := fun h => by have := h.2.1; omega
      rw [if_pos (by rw [h41]; rfl), if_neg hn, if_pos ⟨by omega, h41⟩]
    · rw [if_neg (show ¬ (bt s e == 41) = true by simpa using h41)]
      by_cases h44 : bt s e = 44
      · rw [if_neg (show ¬ (bt s e != 44) = true by simp [h44])]
        by_cases gE : e + 1 = s.size
        · have hn : ¬ sep s e := fun h => by have := h.1; omega
          rw [if_pos (by simp only [beq_iff_eq]; omega), if_neg hn, if_neg (fun h => h41 h.2)]
          rfl
        · rw [if_neg (by simp only [beq_iff_eq]; omega), ue5 (by omega)]
          simp only [ua1]
          by_cases h32 : bt s (e + 1) = 32
          · rw [if_neg (by simp [h32]), if_pos (show sep s e from ⟨by omega, h44, h32⟩)]
          · have hn : ¬ sep s e := fun h => h32 h.2.2
            rw [if_pos (by simpa using h32), if_neg hn, if_neg (fun h => h41 h.2)]
            rfl
      · have hn : ¬ sep s e := fun h => h44 h.2.1
        rw [if_pos (by simpa using h44), if_neg hn, if_neg (fun h => h41 h.2)]
        rfl
theorem vp3 {s : ByteArray} (hs : s.size ≤ 60010) (w : ByteArray) (q0 : Nat) : ∀ k p : Nat, p + k = s.size + 1 → q0 + 1 ≤ p → (∀ q, p ≤ q → q ≤ s.size → Main s q) → ∀ B : List DV, vszs B + 1 + q0 ≤ p → p ≤ s.size →
    ∃ e : Nat, e + 1 = p ∧ Both s q0 (uc1 (.p4088 (suf s p) true w 0 B)) (ub1 (.p2044 s (e : Int) ub6 0 w 0 B)) := by
  intro k
  induction k using Nat.strongRecOn with
  | ind k ih =>
    intro p hk hp0 hM B hB hp
    have hpe : p - 1 + 1 = p := by omega
    refine ⟨p - 1, hpe, ?_⟩
    have hBl : B.length ≤ 60010 := by have := us9 B; omega
    rcases hM p (Nat.le_refl _) hp with ⟨v, e, h1, h2, h3, h4, h5⟩ | ⟨a, b, c, d, h4, h5, h6⟩
    · rw [vs7 h2 hBl h4, vZ1 hs hpe h1 h2 hBl h5]
      by_cases hsep : sep s e
      · rw [if_pos hsep, if_pos hsep]
        have := hsep.1
        obtain ⟨e', g1, g2⟩ := ih (k - (e + 2 - p)) (by omega) (e + 2) (by omega) (by omega) (fun q hq1 hq2 => hM q (by omega) hq2) (B ++ [v]) (by simp only [vh5, ug1, uh1]; omega) (by omega)
        rw [show e' = e + 1 by omega] at g2
        exact g2
      · rw [if_neg hsep, if_neg hsep]
        by_cases h41 : e < s.size ∧ bt s e = 41
        · rw [if_pos h41, if_pos h41]
          refine .inl ⟨⟨w, 0, B ++ [v]⟩, e + 1, by omega, by omega, ?_, rfl, rfl⟩
          rw [un9]
          simp only [vh5, ug1, uh1]
          omega
        · rw [if_neg h41, if_neg h41]
          exact .inr ⟨_, _, _, _, rfl, rfl, .inl rfl⟩
    · rw [v05 hs h6 (q := p) (by rw [wrap_i64 (by omega) (by omega)]; omega) hBl h5, uc1, if_pos rfl, h4]
      exact .inr ⟨_, _, _, _, rfl, rfl, .inl rfl⟩
theorem main {s : ByteArray} (hs : s.size ≤ 60010) : ∀ k q, q + k = s.size → Main s q := by
  intro k
  induction k using Nat.strongRecOn with
  | ind k ih =>
    intro q hk
    unfold Main
    obtain ⟨n, hn1, hn2, hn3, hn4, hn5⟩ := vY9 hs (show q ≤ s.size by omega)
    obtain ⟨e, he1, he2, he3, he4, he5⟩ := v91 hs (show q ≤ s.size by omega)
    rw [hn5, he5, vf9 hs hn1 hn2, vZ0 hs he1 he2]
    have hen : e ≤ n := by
      rcases Nat.lt_or_ge n e with h | h
      · rcases hn4 with h' | ⟨h', h''⟩
        · omega
        · have := vt8 (he3 n hn1 h); rw [this] at h''; cases h''
      · exact h
    by_cases hne : e = n
    · subst hne
      have hwsz : (s.extract q e).size = e - q := un7 s he1 he2
      generalize s.extract q e = w at hwsz
      cases h5 : ok5 w with
      | true =>
        have := vQ6 h5
        exact .inl ⟨⟨ub6, natN w, []⟩, e, by omega, he2, by rw [un9]; simp only [uh1]; omega, rfl, rfl⟩
      | false =>
        simp only [Bool.false_eq_true, if_false]
        cases hnm : isN w with
        | false =>
          simp only [Bool.false_eq_true, if_false]
          by_cases ha : (ui9 w).2 = false
          · rw [if_pos ha]; exact .inr ⟨_, _, _, _, rfl, rfl, .inl rfl⟩
          · rw [if_neg ha]; exact .inr ⟨_, _, _, _, rfl, rfl, .inl rfl⟩
        | true =>
          obtain ⟨_, hpos, _⟩ := uo8 hnm
          rw [if_neg (by rw [uL5 hnm]; decide)]
          simp only [if_true]
          by_cases hc : e < s.size ∧ bt s e = 40
          · rw [if_pos hc, if_pos hc]
            obtain ⟨e', g1, g2⟩ := vp3 hs w q (s.size - e) (e + 1) (by omega) (by omega) (fun q' h1 h2 => ih (s.size - q') (by omega) q' (by omega)) [] (by rw [uh1]; omega) (by omega)
            rw [show e' = e by omega] at g2
            exact g2
          · rw [if_neg hc, if_neg hc, u75]
            exact .inl ⟨⟨w, 0, []⟩, e, by omega, he2, by rw [un9]; simp only [uh1]; omega, rfl, rfl⟩
    · have hlt : e < n := by omega
      have hodd : uw7 (bt s e) = false := by
        rcases he4 with h | h
        · omega
        · exact h.2
      have hend : uL1 (bt s e) = false := hn3 e he1 hlt
      have hb : bt (s.extract q n) (e - q) = bt s e := by rw [u05 s hn2 (by omega), show q + (e - q) = e by omega]
      have hwsz : (s.extract q n).size = n - q := un7 s hn1 hn2
      have h5 : ok5 (s.extract q n) = false := by
        cases h : ok5 (s.extract q n) with
        | false => rfl
        | true => have := vs6 h (i := e - q) (by omega); rw [hb, hodd] at this; cases this
      have h6 : isN (s.extract q n) = false := by
        cases h : isN (s.extract q n) with
        | false => rfl
        | true => have := uU9 h (i := e - q) (by omega); rw [hb, hodd] at this; cases this
      have hbad : Bad s (e : Int) := .inr ⟨e, rfl, by omega, hend⟩
      rw [h5, h6]
      simp only [Bool.false_eq_true, if_false]
      have h40 : ¬ (e < s.size ∧ bt s e = 40) := fun h => by rw [h.2] at hend; cases hend
      rw [if_neg h40]
      have hr : ∃ c d, (if ok5 (s.extract q e) = true then some (((ub6, (natN (s.extract q e), ([], ()))), ((e : Int), ())), ())
          else if isN (s.extract q e) = true then some (((s.extract q e, (0, ([], ()))), ((e : Int), ())), ()) else some (((ub6, (0, ([], ()))), ((-1 : Int), ())), ())) = (some ((c, (d, ())), ()) : Option RRes) ∧ Bad s d := by
        by_cases g1 : ok5 (s.extract q e) = true
        · rw [if_pos g1]; exact ⟨_, _, rfl, hbad⟩
        · rw [if_neg g1]
          by_cases g2 : isN (s.extract q e) = true
          · rw [if_pos g2]; exact ⟨_, _, rfl, hbad⟩
          · rw [if_neg g2]; exact ⟨_, _, rfl, .inl rfl⟩
      obtain ⟨c, d, r1, r2⟩ := hr
      rw [r1]
      by_cases ha : (ui9 (s.extract q n)).2 = false
      · rw [if_pos ha]; exact .inr ⟨_, _, _, _, rfl, rfl, r2⟩
      · rw [if_neg ha]; exact .inr ⟨_, _, _, _, rfl, rfl, r2⟩
open Go.Proofs.YtaennkkcnhfglaaGreatDoor.Ev
def isE (n : ByteArray) : Bool := seq n ub6
theorem vP6 {n : ByteArray} : isE n = true ↔ n = ub6 := uF4
def nE (n : ByteArray) (k : Int) (ps : List DV) : Int := if (isE n && !ps.isEmpty) || (!isE n && !decide (k = 0)) then 3 else if !isE n && !isN n then 4 else if 0 ≤ k ∧ k ≤ 99999 then 0 else 2
mutual
def fE : DV → Int
 | ⟨n, k, ps⟩ => if nE n k ps = 0 then fEs ps else nE n k ps
def fEs : List DV → Int
 | [] => 0
 | p :: l => if fE p = 0 then fEs l else fE p
end
theorem vP0 (n : ByteArray) (k : Int) (ps : List DV) : fE ⟨n, k, ps⟩ = if nE n k ps = 0 then fEs ps else nE n k ps := by rw [fE]
theorem vq5 : fEs [] = 0 := by rw [fEs]
theorem uT9 (p : DV) (l : List DV) : fEs (p :: l) = if fE p = 0 then fEs l else fE p := by rw [fEs]
theorem vC8 {l : List DV} (h : fEs l = 0) : ∀ p ∈ l, fE p = 0 := by
  induction l with
  | nil => intro p hp; cases hp
  | cons a l ih =>
    rw [uT9] at h
    by_cases ha : fE a = 0
    · rw [if_pos ha] at h
      intro p hp
      rcases List.mem_cons.1 hp with rfl | hp
      · exact ha
      · exact ih h p hp
    · rw [if_neg ha] at h; exact absurd h ha
theorem v86 (ps : List DV) (hl : ps.length ≤ big) (ih : ∀ p ∈ ps, run_z65 (.start p.Name p.Number p.Parts) = some ((fE p, ()), ())) : ∃ i, run_z66 (.start ps) = some ((i, (fEs ps, ())), ()) := by
  rw [run_z66]
  have : ∀ {i}, i ≤ ps.length → ∃ k, run_z66 (.p52 ps (List.length ps : Int) (i : Int)) = some ((k, (fEs (ps.drop i), ())), ()) := by
    refine uj4 ps (P := fun i => ∃ k, run_z66 (.p52 ps (List.length ps : Int) (i : Int)) = some ((k, (fEs (ps.drop i), ())), ())) ?_ ?_
    · rw [run_z66]
      exact ⟨0, by simp only [lt_f, Bool.false_eq_true, if_false, List.drop_length, vq5]⟩
    · intro i hi ⟨k, h⟩
      rw [run_z66]
      simp only [lt_t hi, if_true, uq4 hi, ua1, uF3, ih _ (List.getElem_mem hi)]
      rw [ug9 hi, uT9]
      by_cases h0 : fE ps[i] = 0
      · rw [if_neg (by simp [h0]), uk0 hi hl, if_pos h0]
        exact ⟨k, h⟩
      · rw [if_pos (by simp [h0]), if_neg h0]
        exact ⟨_, rfl⟩
  exact this (Nat.zero_le _)
theorem vE2 : ∀ v : DV, ub7 v → run_z65 (.start v.Name v.Number v.Parts) = some ((fE v, ()), ()) := by
  refine ug0 fun n k ps ih hv => ?_
  obtain ⟨_, h0, h1, h2, h3⟩ := hv
  simp only at h0 h1 h2 h3
  obtain ⟨i, he⟩ := v86 ps h2 fun p hp => ih p hp (h3 p hp)
  have h15 : ∀ e : Int, run_z65 (.p15 e n k ps) = some ((if e = 0 then fEs ps else e, ()), ()) := by
    intro e
    rw [run_z65]
    by_cases h0 : e = 0
    · rw [if_neg (by simp [h0]), he, if_pos h0]; rfl
    · rw [if_pos (by simp [h0]), if_neg h0]
  have hf : ∀ a b c d : Int, ub9 (.start [a, b, c, d]) = some ((ut9 [a, b, c, d], ()), ()) := fun a b c d => vY3 _ (by simp [big])
  rw [run_z65, vP0]
  simp only [vt0, u79, ua1, hf, h15, vY5 n h0]
  have hE : seq n (⟨#[]⟩ : ByteArray) = isE n := rfl
  rw [hE]
  have hln : ((List.length ps : Int) == 0) = ps.isEmpty := by cases ps <;> simp <;> omega
  have hk : (k == (0 : Int)) = decide (k = 0) := rfl
  cases he : isE n with
  | true =>
    simp only [Bool.not_true, Bool.false_eq_true, if_false, if_true, nE, he, Bool.true_and, Bool.false_and, Bool.or_false, hln]
    cases ps with
    | nil =>
      simp only [List.isEmpty_nil, if_true, Bool.not_true, Bool.false_eq_true, if_false, ut9]
      by_cases hr : 0 ≤ k ∧ k ≤ 99999
      · simp [hr]
      · simp [hr]
    | cons a l => simp [ut9]
  | false =>
    simp only [Bool.not_false, Bool.false_eq_true, if_false, if_true, nE, he, Bool.true_and, Bool.false_and, Bool.false_or, hk]
    by_cases h0 : k = 0
    · subst h0
      cases isN n <;> simp [ut9]
    · cases isN n <;> simp [ut9, h0]
theorem vE8 : ∀ v : DV, ub7 v → ud6 (.start v.Name v.Number v.Parts) = some ((fE v, ()), ()) := by
  refine ug0 fun n k ps ih hv => ?_
  obtain ⟨_, h0, h1, h2, h3⟩ := hv
  simp only at h0 h1 h2 h3
  have loop : ∀ {i}, i ≤ ps.length → ud6 (.p500 (i : Int) n k ps) = some ((fEs (ps.drop i), ()), ()) := by
    refine uj4 ps (P := fun i => ud6 (.p500 (i : Int) n k ps) = some ((fEs (ps.drop i), ()), ())) ?_ ?_
    · rw [ud6]
      simp only [lt_f, Bool.false_eq_true, if_false, List.drop_length, vq5]
    · intro i hi h
      rw [ud6]
      simp only [lt_t hi, if_true, uq4 hi, ua1, ih _ (List.getElem_mem hi) (h3 _ (List.getElem_mem hi))]
      rw [ug9 hi, uT9]
      by_cases h0 : fE ps[i] = 0
      · rw [if_neg (by simp [h0]), uk0 hi h2, if_pos h0]
        exact h
      · rw [if_pos (by simp [h0]), if_neg h0]
  have l0 := loop (Nat.zero_le _)
  rw [List.drop_zero] at l0
  have h15 : ud6 (.p15 n k ps) = some ((if 0 ≤ k ∧ k ≤ 99999 then fEs ps else 2, ()), ()) := by
    rw [ud6, vR5]
    simp only [ua1]
    by_cases hr : 0 ≤ k ∧ k ≤ 99999
    · rw [if_neg (by simp [hr]), if_pos hr]; exact l0
    · rw [if_pos (by simp; omega), if_neg hr]
  have h7 : ud6 (.p7 n k ps) = some ((if (!isE n && !isN n) = true then 4 else if 0 ≤ k ∧ k ≤ 99999 then fEs ps else 2, ()), ()) := by
    rw [ud6, vZ2]
    have hE : seq n (⟨#[]⟩ : ByteArray) = isE n := rfl
    rw [hE, h15]
    simp only [ua1]
    cases isE n <;> cases isN n <;> simp
  have hE : seq n (⟨#[]⟩ : ByteArray) = isE n := rfl
  rw [ud6, vP0, hE, h7]
  have hlen : decide ((List.length ps : Int) > 0) = !ps.isEmpty := by cases ps <;> simp <;> omega
  rw [hlen]
  unfold nE
  cases isE n with
  | true =>
    cases ps.isEmpty with
    | true =>
      simp only [Bool.not_true, Bool.false_eq_true, if_false, if_true, Bool.true_and, Bool.false_and, Bool.or_false]
      by_cases hr : 0 ≤ k ∧ k ≤ 99999 <;> simp [hr]
    | false => simp
  | false =>
    simp only [Bool.not_false, Bool.false_eq_true, if_false, if_true, Bool.true_and, Bool.false_and, Bool.false_or]
    by_cases hk : k = 0
    · subst hk
      cases isN n <;> simp
    · simp [hk]
open Go.Proofs.YtaennkkcnhfglaaGreatDoor.Ev
def jr : List (List UInt8) → List UInt8
 | [] => []
 | a :: l => 44 :: 32 :: (a ++ jr l)
def jn : List (List UInt8) → List UInt8
 | [] => []
 | a :: l => a ++ jr l
theorem vP8 (l : List (List UInt8)) : Lib.join l [44, 32] = jn l := by
  cases l with
  | nil => rfl
  | cons a l =>
    show _ = a ++ jr l
    induction l generalizing a with
    | nil => simp [Lib.join, List.intercalate, List.intersperse, jr]
    | cons b l ih =>
      have := ih b
      simp only [Lib.join, List.intercalate] at this ⊢
      rw [List.intersperse, List.flatten_cons, List.flatten_cons, this, jr]
      · simp
      · exact fun h => by cases h
mutual
def fv : DV → List UInt8
 | ⟨n, k, ps⟩ => if isE n = true then Lib.itoa k else if ps.isEmpty = true then n.data.toList else n.data.toList ++ 40 :: (jn (fvl ps) ++ [41])
def fvl : List DV → List (List UInt8)
 | [] => []
 | p :: l => fv p :: fvl l
end
theorem vD1 (n : ByteArray) (k : Int) (ps : List DV) : fv ⟨n, k, ps⟩ = if isE n = true then Lib.itoa k else if ps.isEmpty = true then n.data.toList else n.data.toList ++ 40 :: (jn (fvl ps) ++ [41]) := by rw [fv]
theorem uK4 : fvl [] = [] := by rw [fvl]
theorem uq2 (p : DV) (l : List DV) : fvl (p :: l) = fv p :: fvl l := by rw [fvl]
theorem vP3 (l : List DV) : fvl l = l.map fv := by
  induction l with
  | nil => rw [uK4]; rfl
  | cons a l ih => rw [uq2, ih]; rfl
structure Nd (n : ByteArray) (k : Int) (ps : List DV) : Prop where
  num : isE n = true → ps = [] ∧ 0 ≤ k ∧ k ≤ 99999
  nam : isE n = false → k = 0 ∧ isN n = true
theorem vQ1 {n : ByteArray} {k : Int} {ps : List DV} (h : nE n k ps = 0) : Nd n k ps := by
  unfold nE at h
  constructor
  · intro he
    rw [he] at h
    cases ps with
    | nil =>
      simp at h
      exact ⟨rfl, by omega⟩
    | cons a l => simp at h
  · intro he
    rw [he] at h
    simp at h
    by_cases hk : k = 0
    · subst hk
      simp at h
      cases hn : isN n with
      | true => exact ⟨rfl, rfl⟩
      | false => rw [hn] at h; simp at h
    · simp [hk] at h
theorem uT8 {n : ByteArray} {k : Int} {ps : List DV} (h : fE ⟨n, k, ps⟩ = 0) : Nd n k ps ∧ ∀ p ∈ ps, fE p = 0 := by
  rw [vP0] at h
  by_cases h0 : nE n k ps = 0
  · rw [if_pos h0] at h; exact ⟨vQ1 h0, vC8 h⟩
  · rw [if_neg h0] at h; exact absurd h h0
theorem vX9 (l : List DV) (h : ∀ p ∈ l, (fv p).length + 2 ≤ 20 * vsz p) : (jr (fvl l)).length ≤ 20 * vszs l := by
  induction l with
  | nil => rw [uK4]; exact Nat.zero_le _
  | cons a l ih =>
    have h1 := h a (List.mem_cons_self ..)
    have h2 := ih fun p hp => h p (List.mem_cons_of_mem _ hp)
    rw [uq2, jr, ug1]
    simp
    omega
theorem vH5 (l : List DV) (h : ∀ p ∈ l, (fv p).length + 2 ≤ 20 * vsz p) : (jn (fvl l)).length ≤ 20 * vszs l := by
  cases l with
  | nil => rw [uK4]; exact Nat.zero_le _
  | cons a l =>
    have h1 := h a (List.mem_cons_self ..)
    have h2 := vX9 l fun p hp => h p (List.mem_cons_of_mem _ hp)
    rw [uq2, jn, ug1]
    simp
    omega
theorem u12 : ∀ v : DV, fE v = 0 → (fv v).length + 2 ≤ 20 * vsz v := by
  refine ug0 fun n k ps ih h => ?_
  obtain ⟨hn, hps⟩ := uT8 h
  rw [vD1, un9]
  simp only
  have hj := vH5 ps fun p hp => ih p hp (hps p hp)
  by_cases he : isE n = true
  · rw [if_pos he]
    obtain ⟨rfl, h0, h1⟩ := hn.num he
    obtain ⟨u, rfl⟩ := Int.eq_ofNat_of_zero_le h0
    have := (uB0 (n := u) (k := 5) (by decide)).2 (by omega)
    rw [← uf8, ui6] at this
    have z : vszs [] = 0 := uh1
    omega
  · rw [if_neg he]
    obtain ⟨_, hnm⟩ := hn.nam (by simpa using he)
    obtain ⟨_, _, h16⟩ := uo8 hnm
    rw [← uf8] at h16
    by_cases hp : ps.isEmpty = true
    · rw [if_pos hp]; omega
    · rw [if_neg hp]
      simp only [List.length_append, List.length_cons, List.length_nil]
      omega
theorem vr9 (l : List UInt8) : (⟨l.toArray⟩ : ByteArray).size = l.length := rfl
def fb (v : DV) : ByteArray := ⟨(fv v).toArray⟩
theorem vQ7 : ∀ v : DV, fE v = 0 → vsz v ≤ 1000 → uh5 (.start v.Name v.Number v.Parts) = some ((fb v, ()), ()) := by
  refine ug0 fun n k ps ih h hsz => ?_
  obtain ⟨hn, hps⟩ := uT8 h
  have hlen := u12 _ h
  rw [un9] at hsz
  simp only at hsz
  rw [uh5]
  unfold fb
  rw [vD1]
  have hE : seq n (⟨#[]⟩ : ByteArray) = isE n := rfl
  simp only [hE]
  by_cases he : isE n = true
  · rw [if_pos he, if_pos he]
    obtain ⟨_, h0, h1⟩ := hn.num he
    unfold uy4
    rw [if_pos ⟨by omega, by omega⟩]
    rfl
  · rw [if_neg he, if_neg he]
    have hl := us9 ps
    by_cases hp : ps.isEmpty = true
    · rw [if_pos (by cases ps <;> simp_all), if_pos hp]
    · rw [if_neg (by cases ps <;> simp_all <;> omega), if_neg hp]
      have hj := vH5 ps fun p hp => u12 p (hps p hp)
      obtain ⟨_, hnm⟩ := hn.nam (by simpa using he)
      obtain ⟨_, _, h16⟩ := uo8 hnm
      have fin : uh5 (.p500 ps (List.length ps : Int) ((ps.length : Nat) : Int) n k ps (ps.map fb)) = some (((⟨(n.data.toList ++ 40 :: (jn (fvl ps) ++ [41])).toArray⟩ : ByteArray), ()), ()) := by
        rw [uh5]
        simp only [lt_f, Bool.false_eq_true, if_false]
        have hjoin : uq5 (ps.map fb, (⟨#[44, 32]⟩ : ByteArray), ()) () = some (((⟨(jn (fvl ps)).toArray⟩ : ByteArray), ()), ()) := by
          unfold uq5
          have e1 : (ps.map fb).map (·.data.toList) = fvl ps := by rw [vP3, List.map_map]; rfl
          have e2 : Lib.join ((ps.map fb).map (·.data.toList)) (⟨#[44, 32]⟩ : ByteArray).data.toList = jn (fvl ps) := by rw [e1]; exact vP8 _
          simp only [e2, List.length_map]
          rw [Nat.ble_eq_true_of_le (by omega), Nat.ble_eq_true_of_le (by omega)]
          rfl
        have s1 : (⟨#[40]⟩ : ByteArray).size = 1 := rfl
        have s2 : (⟨#[41]⟩ : ByteArray).size = 1 := rfl
        rw [if_pos (Nat.ble_eq_true_of_le (by rw [s1]; omega)), hjoin]
        simp only [ua1]
        rw [if_pos (Nat.ble_eq_true_of_le (by rw [ByteArray.size_append, vr9 (jn (fvl ps)), s1]; omega)), if_pos (Nat.ble_eq_true_of_le (by rw [ByteArray.size_append, ByteArray.size_append, vr9 (jn (fvl ps)), s1, s2]; omega))]
        congr 3
        exact ue3 (by simp)
      have : ∀ {i}, i ≤ ps.length → uh5 (.p500 ps (List.length ps : Int) (i : Int) n k ps ((ps.take i).map fb)) = some (((⟨(n.data.toList ++ 40 :: (jn (fvl ps) ++ [41])).toArray⟩ : ByteArray), ()), ()) := by
        refine uj4 ps (P := fun i => uh5 (.p500 ps (List.length ps : Int) (i : Int) n k ps ((ps.take i).map fb)) = some (((⟨(n.data.toList ++ 40 :: (jn (fvl ps) ++ [41])).toArray⟩ : ByteArray), ()), ())) ?_ ?_
        · rw [List.take_length]; exact fin
        · intro i hi h
          rw [uh5]
          have hm := List.getElem_mem hi
          have hz := uF7 hm
          simp only [lt_t hi, if_true, uq4 hi, ua1, ih _ hm (hps _ hm) (by omega)]
          rw [if_pos (uU0 (by simp; omega)), ut1 (by omega)]
          rw [show (ps.take i).map fb ++ [fb ps[i]] = (ps.take (i + 1)).map fb by rw [List.take_succ_eq_append_getElem hi, List.map_append]; rfl]
          exact h
      exact this (Nat.zero_le _)
theorem vR2 : ∀ v : DV, fE v = 0 → vsz v ≤ 1000 → uf7 (.start v.Name v.Number v.Parts) = some ((fb v, ()), ()) := by
  refine ug0 fun n k ps ih h hsz => ?_
  obtain ⟨hn, hps⟩ := uT8 h
  have hlen := u12 _ h
  rw [un9] at hsz
  simp only at hsz
  rw [uf7]
  unfold fb
  rw [vD1]
  have hE : seq n (⟨#[]⟩ : ByteArray) = isE n := rfl
  simp only [hE]
  by_cases he : isE n = true
  · rw [if_pos he, if_pos he]
    obtain ⟨_, h0, h1⟩ := hn.num he
    obtain ⟨u, rfl⟩ := Int.eq_ofNat_of_zero_le h0
    rw [vh6 (by omega)]
    rfl
  · rw [if_neg he, if_neg he]
    have hl := us9 ps
    by_cases hp : ps.isEmpty = true
    · rw [if_pos (by cases ps <;> simp_all), if_pos hp]
    · rw [if_neg (by cases ps <;> simp_all <;> omega), if_neg hp]
      obtain ⟨_, hnm⟩ := hn.nam (by simpa using he)
      obtain ⟨_, _, h16⟩ := uo8 hnm
      have s1 : (⟨#[40]⟩ : ByteArray).size = 1 := rfl
      have s2 : (⟨#[41]⟩ : ByteArray).size = 1 := rfl
      have s3 : (⟨#[44, 32]⟩ : ByteArray).size = 2 := rfl
      rw [if_pos (Nat.ble_eq_true_of_le (by rw [s1]; omega))]
      have part : ∀ p ∈ ps, uf7 (.start p.Name p.Number p.Parts) = some ((fb p, ()), ()) ∧ (fb p).size + 2 ≤ 20 * vsz p := fun p hp => by
        have := uF7 hp
        exact ⟨ih p hp (hps p hp) (by omega), u12 p (hps p hp)⟩
      have : ∀ {i}, i ≤ ps.length → ∀ t : ByteArray, t.size + 20 * vszs (ps.drop i) ≤ 100000 → uf7 (.p500 t (i : Int) n k ps) = some (((⟨(t.data.toList ++ ((if i = 0 then jn (fvl (ps.drop i)) else jr (fvl (ps.drop i))) ++ [41])).toArray⟩ : ByteArray), ()), ()) := by
        refine uj4 ps (P := fun i => ∀ t : ByteArray, t.size + 20 * vszs (ps.drop i) ≤ 100000 → uf7 (.p500 t (i : Int) n k ps) = some (((⟨(t.data.toList ++ ((if i = 0 then jn (fvl (ps.drop i)) else jr (fvl (ps.drop i))) ++ [41])).toArray⟩ : ByteArray), ()), ())) ?_ ?_
        · intro t ht
          rw [uf7]
          simp only [lt_f, Bool.false_eq_true, if_false]
          rw [if_pos (Nat.ble_eq_true_of_le (by rw [s2]; omega)), List.drop_length, uK4]
          congr 3
          refine ue3 ?_
          split <;> simp [jn, jr]
        · intro i hi h t ht
          obtain ⟨g1, g2⟩ := part _ (List.getElem_mem hi)
          rw [ug9 hi, ug1] at ht
          have step : ∀ t' : ByteArray, t'.size + (fb ps[i]).size + 20 * vszs (ps.drop (i + 1)) ≤ 100000 → uf7 (.p8009 t' (i : Int) n k ps) = some (((⟨(t'.data.toList ++ (fv ps[i] ++ (jr (fvl (ps.drop (i + 1))) ++ [41]))).toArray⟩ : ByteArray), ()), ()) := by
            intro t' ht'
            rw [uf7]
            simp only [uq4 hi, ua1, g1]
            rw [if_pos (Nat.ble_eq_true_of_le (by omega)), ut1 (by omega), h _ (by rw [ByteArray.size_append]; omega), if_neg (by omega)]
            congr 3
            exact ue3 (by simp [fb])
          rw [uf7]
          simp only [lt_t hi, if_true]
          by_cases h0 : i = 0
          · rw [if_neg (by simp; omega), if_pos h0, step t (by omega), ug9 hi, uq2, jn]
            congr 3
            exact ue3 (by simp)
          · rw [if_pos (by simp; omega), if_pos (Nat.ble_eq_true_of_le (by rw [s3]; omega)), step _ (by rw [ByteArray.size_append, s3]; omega), if_neg h0, ug9 hi, uq2, jr]
            congr 3
            exact ue3 (by simp)
      have h0 := this (Nat.zero_le _) (n ++ (⟨#[40]⟩ : ByteArray)) (by rw [ByteArray.size_append, s1, List.drop_zero]; omega)
      rw [show ((0 : Nat) : Int) = 0 from rfl] at h0
      rw [h0, if_pos rfl, List.drop_zero]
      congr 3
      exact ue3 (by simp)
open Go.Proofs.YtaennkkcnhfglaaGreatDoor.Ev
theorem vj7 : ∀ u : Nat, Lib.decFrom 0 (Lib.decDigits u) = some u := by
  intro u
  induction u using Nat.strongRecOn with
  | ind u ih =>
    rw [Lib.decDigits]
    have dg : ∀ d : Nat, d < 10 → Lib.digitVal (UInt8.ofNat (48 + d)) = some d := fun d hd => uh9.2 (by rw [UInt8.toNat_ofNat']; omega)
    by_cases h : u < 10
    · rw [dif_pos h, Lib.decFrom, dg u h]
      simp [Lib.decFrom]
    · rw [dif_neg h, uJ9, ih (u / 10) (by omega)]
      simp only [Option.bind_some, dg (u % 10) (by omega), Option.map_some]
      congr 1
      omega
theorem vO7 {k : Int} (h0 : 0 ≤ k) (h1 : k ≤ 99999) : ok5 (deci k) = true ∧ natN (deci k) = k := by
  obtain ⟨u, rfl⟩ := Int.eq_ofNat_of_zero_le h0
  have hs : (deci (u : Int)).size ≤ 5 := (uB0 (by decide)).2 (by omega)
  have hd : (deci (u : Int)).data.toList = Lib.decDigits u := by rw [ui6, Lib.itoa_nonneg]
  have hat : ui9 (deci (u : Int)) = ((u : Int), false) := by
    rw [up5 (by omega), hd]
    have hall := vH3 u
    have hf := vj7 u
    cases hl : Lib.decDigits u with
    | nil => have := ve8 (u : Int); rw [← uf8, hd, hl] at this; exact absurd this (by decide)
    | cons c r =>
      rw [hl] at hall hf
      have := hall c (List.mem_cons_self ..)
      have hc45 : (c == 45) = false := beq_eq_false_iff_ne.2 fun h => by rw [h] at this; exact absurd this (by decide)
      have hc43 : (c == 43) = false := beq_eq_false_iff_ne.2 fun h => by rw [h] at this; exact absurd this (by decide)
      simp only [Lib.atoi, hc45, hc43, Bool.false_eq_true, if_false, Lib.decNat, List.isEmpty_cons, hf]
      rfl
  have hN : natN (deci (u : Int)) = (u : Int) := by unfold natN; rw [hat]
  refine ⟨?_, hN⟩
  rw [vs4 (by rw [hat]), hN, uw3]
  simp
  omega
theorem vd6 {s : ByteArray} (hs : s.size ≤ 60010) {q : Nat} (hq : q ≤ s.size) {w : ByteArray} {rest : List UInt8} (hd : s.data.toList.drop q = w.data.toList ++ rest) (hw : ∀ i, i < w.size → uw7 (bt w i) = true) (hr : rest = [] ∨ ∃ c r, rest = c :: r ∧ uL1 (c.toNat : Int) = true) :
    q + w.size ≤ s.size ∧ s.extract q (q + w.size) = w ∧ uc1 (.start (suf s q)) = uc1 (.p15 (suf s q) ((q + w.size - q : Nat) : Int) ub6 0) ∧ (rest = [] → q + w.size = s.size) ∧ ∀ c r, rest = c :: r → q + w.size < s.size ∧ bt s (q + w.size) = (c.toNat : Int) := by
  have hl := congrArg List.length hd
  rw [List.length_drop, List.length_append, uf8, uf8] at hl
  have hge : ∀ i, i < w.size → bt s (q + i) = bt w i := fun i hi => vV3 (by rw [← List.getElem?_drop, hd, List.getElem?_append_left (by rw [uf8]; exact hi)])
  have hle : q + w.size ≤ s.size := by omega
  have hc : ∀ c r, rest = c :: r → q + w.size < s.size ∧ bt s (q + w.size) = (c.toNat : Int) := fun c r e => by
    subst e
    simp only [List.length_cons] at hl
    refine ⟨by omega, uJ5 ?_⟩
    rw [← List.getElem?_drop, hd, List.getElem?_append_right (by rw [uf8]; exact Nat.le_refl _), uf8, Nat.sub_self]
    rfl
  have he : rest = [] → q + w.size = s.size := fun e => by subst e; simp only [List.length_nil] at hl; omega
  have hx : s.extract q (q + w.size) = w := ue3 (by
    rw [uI0, List.drop_take, hd, show q + w.size - q = w.size by omega, ← uf8, List.take_left'  rfl])
  refine ⟨hle, hx, ?_, he, hc⟩
  obtain ⟨n, h1, h2, h3, h4, h5⟩ := vY9 hs hq
  have hn : n = q + w.size := by
    rcases Nat.lt_trichotomy n (q + w.size) with h | h | h
    · rcases h4 with h4 | ⟨_, h4⟩
      · omega
      · have := vt8 (hw (n - q) (by omega))
        rw [← hge _ (by omega), show q + (n - q) = n by omega, h4] at this
        cases this
    · exact h
    · rcases hr with hr | ⟨c, r, hr, hr2⟩
      · have := he hr; omega
      · have := h3 (q + w.size) (by omega) h
        rw [(hc c r hr).2, hr2] at this
        cases this
  rw [h5, hn]
def vn8 (v : DV) : Prop := ∀ (s : ByteArray) (q : Nat) (rest : List UInt8), s.size ≤ 60010 → q ≤ s.size → s.data.toList.drop q = fv v ++ rest → (rest = [] ∨ ∃ c r, rest = c :: r ∧ (c = 44 ∨ c = 41)) → uc1 (.start (suf s q)) = some (pok s v (q + (fv v).length)) ∧ q + (fv v).length ≤ s.size
theorem vE1 {s : ByteArray} (hs : s.size ≤ 60010) (w : ByteArray) (rest : List UInt8) : ∀ (l : List DV) (a : DV) (B : List DV) (p : Nat), (∀ v ∈ a :: l, vn8 v) → B.length + l.length ≤ 2000 → p ≤ s.size → s.data.toList.drop p = fv a ++ (jr (fvl l) ++ 41 :: rest) →
    uc1 (.p4088 (suf s p) true w 0 B) = some (pok s ⟨w, 0, B ++ a :: l⟩ (p + (fv a).length + (jr (fvl l)).length + 1)) ∧ p + (fv a).length + (jr (fvl l)).length + 1 ≤ s.size := by
  intro l
  induction l with
  | nil =>
    intro a B p hR hB hp hd
    rw [uK4] at hd ⊢
    obtain ⟨h1, h2⟩ := hR a (List.mem_cons_self ..) s p _ hs hp hd (.inr ⟨41, rest, rfl, .inr rfl⟩)
    have hb : s.data.toList[p + (fv a).length]? = some 41 := by
      rw [← List.getElem?_drop, hd, List.getElem?_append_right (Nat.le_refl _), Nat.sub_self]
      rfl
    have hlt : p + (fv a).length < s.size := by
      rcases Nat.lt_or_ge (p + (fv a).length) s.size with h | h
      · exact h
      · rw [List.getElem?_eq_none (by rw [uf8]; exact h)] at hb; cases hb
    have hbt : bt s (p + (fv a).length) = 41 := uJ5 hb
    rw [vs7 h2 (by omega) h1, if_neg (fun h => by have := h.2.1; omega), if_pos ⟨hlt, hbt⟩]
    exact ⟨rfl, hlt⟩
  | cons b l ih =>
    intro a B p hR hB hp hd
    rw [uq2, jr] at hd ⊢
    obtain ⟨h1, h2⟩ := hR a (List.mem_cons_self ..) s p _ hs hp hd (.inr ⟨44, _, rfl, .inl rfl⟩)
    have hdd : s.data.toList.drop (p + (fv a).length) = 44 :: 32 :: (fv b ++ (jr (fvl l) ++ 41 :: rest)) := by
      rw [← List.drop_drop, hd, List.drop_left' rfl]
      simp
    have hl := congrArg List.length hdd
    rw [List.length_drop, uf8] at hl
    simp only [List.length_cons, List.length_append] at hl
    have hb : ∀ i c, (44 :: 32 :: (fv b ++ (jr (fvl l) ++ 41 :: rest)))[i]? = some c → bt s (p + (fv a).length + i) = (c.toNat : Int) := fun i c h => uJ5 (by rw [← List.getElem?_drop, hdd]; exact h)
    have hsep : sep s (p + (fv a).length) := ⟨by omega, hb 0 44 rfl, hb 1 32 rfl⟩
    rw [vs7 h2 (by omega) h1, if_pos hsep]
    simp only [List.length_cons] at hB
    obtain ⟨g1, g2⟩ := ih b (B ++ [a]) (p + (fv a).length + 2) (fun v hv => hR v (List.mem_cons_of_mem _ hv)) (by simp; omega) (by omega) (by rw [← List.drop_drop, hdd]; rfl)
    rw [g1]
    simp only [List.length_cons, List.length_append]
    refine ⟨?_, by omega⟩
    rw [List.append_assoc, show p + (fv a).length + 2 + (fv b).length + (jr (fvl l)).length + 1 = p + (fv a).length + ((fv b).length + (jr (fvl l)).length + 1 + 1) + 1 by omega]
    rfl
theorem v90 : ∀ v : DV, fE v = 0 → vsz v ≤ 1000 → vn8 v := by
  refine ug0 fun n k ps ih h hsz => ?_
  obtain ⟨hn, hps⟩ := uT8 h
  rw [un9] at hsz
  simp only at hsz
  have hz := us9 ps
  intro s q rest hs hq hd hr
  rw [vD1] at hd ⊢
  have hr2 : rest = [] ∨ ∃ c r, rest = c :: r ∧ uL1 (c.toNat : Int) = true := by
    rcases hr with h | ⟨c, r, h1, h2⟩
    · exact .inl h
    · refine .inr ⟨c, r, h1, ?_⟩
      rcases h2 with rfl | rfl <;> rfl
  have hno : ∀ p : Nat, (rest = [] → p = s.size) → (∀ c r, rest = c :: r → p < s.size ∧ bt s p = (c.toNat : Int)) → ¬ (p < s.size ∧ bt s p = 40) := by
    intro p g1 g2 ⟨g3, g4⟩
    rcases hr with h | ⟨c, r, h1, h2⟩
    · have := g1 h; omega
    · have := (g2 c r h1).2
      rcases h2 with rfl | rfl
      · rw [g4] at this; exact absurd this (by decide)
      · rw [g4] at this; exact absurd this (by decide)
  by_cases he : isE n = true
  · rw [if_pos he] at hd ⊢
    obtain ⟨rfl, h0, h1⟩ := hn.num he
    obtain ⟨k1, k2⟩ := vO7 h0 h1
    rw [← ui6] at hd ⊢
    obtain ⟨g1, g2, g3, g4, g5⟩ := vd6 hs hq hd (fun i hi => vs6 k1 hi) hr2
    rw [uf8]
    refine ⟨?_, g1⟩
    rw [g3, vf9 hs (by omega) g1, g2, if_pos k1, k2]
    rw [vP6.1 he]
    rfl
  · rw [if_neg he] at hd ⊢
    obtain ⟨rfl, hnm⟩ := hn.nam (by simpa using he)
    have h5 : ok5 n = false := by
      cases h : ok5 n with
      | false => rfl
      | true => rw [u74 h] at hnm; cases hnm
    have hat := uL5 hnm
    by_cases hp : ps.isEmpty = true
    · rw [if_pos hp] at hd ⊢
      obtain rfl := List.isEmpty_iff.1 hp
      obtain ⟨g1, g2, g3, g4, g5⟩ := vd6 hs hq hd (fun i hi => uU9 hnm hi) hr2
      rw [uf8]
      refine ⟨?_, g1⟩
      rw [g3, vf9 hs (by omega) g1, g2, h5, hat, hnm]
      simp only [Bool.false_eq_true, if_false, if_true, Bool.true_eq_false]
      rw [if_neg (hno _ g4 g5), u75]
      rfl
    · rw [if_neg hp] at hd ⊢
      cases ps with
      | nil => exact absurd rfl hp
      | cons a l =>
        rw [List.append_assoc] at hd
        obtain ⟨g1, g2, g3, g4, g5⟩ := vd6 hs hq hd (fun i hi => uU9 hnm hi) (.inr ⟨40, _, rfl, rfl⟩)
        obtain ⟨g6, g7⟩ := g5 _ _ rfl
        rw [uq2, jn] at hd ⊢
        simp only [List.length_cons] at hz
        have hd2 : s.data.toList.drop (q + n.size + 1) = fv a ++ (jr (fvl l) ++ 41 :: rest) := by
          rw [← List.drop_drop, ← List.drop_drop, hd, List.drop_left' (by rw [uf8])]
          simp
        obtain ⟨k1, k2⟩ := vE1 hs n rest l a [] (q + n.size + 1) (fun v hv => ih v hv (hps v hv) (by have := uF7 hv; omega)) (by simp; omega) (by omega) hd2
        have hlen : q + (n.data.toList ++ 40 :: (fv a ++ jr (fvl l) ++ [41])).length = q + n.size + 1 + (fv a).length + (jr (fvl l)).length + 1 := by
          simp only [List.length_append, List.length_cons, List.length_nil]
          rw [uf8]
          omega
        rw [hlen]
        refine ⟨?_, k2⟩
        rw [g3, vf9 hs (by omega) g1, g2, h5, hat, hnm]
        simp only [Bool.false_eq_true, if_false, if_true, Bool.true_eq_false]
        rw [if_pos ⟨g6, g7⟩, k1]
        rfl
theorem vl0 {s : ByteArray} (hs : s.size ≤ 60010) : Main s 0 := main hs s.size 0 (by omega)
theorem vY6 {s : ByteArray} (hs : s.size ≤ 60000) : ∃ v e, ug8 (.start s) = some (((v.Name, (v.Number, (v.Parts, ()))), (e, ())), ()) ∧ us3 (.start s) = some (((v.Name, (v.Number, (v.Parts, ()))), (e, ())), ()) ∧ vsz v ≤ 60010 := by
  have hbig : ¬ decide ((s.size : Int) > 60000) = true := by simp; omega
  have v0 : vsz ⟨ub6, 0, []⟩ ≤ 60010 := by rw [un9]; simp only [uh1]; omega
  have hm := vl0 (s := s) (by omega)
  unfold Main at hm
  rw [vh1] at hm
  rcases hm with ⟨v, e, h1, h2, h3, h4, h5⟩ | ⟨a, b, c, d, h4, h5, h6⟩
  · have hsz : vsz v ≤ 60010 := by omega
    by_cases hE : e = s.size
    · have hsf : suf s e = ub6 := ue3 (by rw [ul5, List.drop_eq_nil_of_le (by rw [uf8]; omega)])
      have P : ug8 (.start s) = if uw8 v = true then some (((v.Name, (v.Number, (v.Parts, ()))), (0, ())), ()) else some (((ub6, (0, ([], ()))), (8, ())), ()) := by
        rw [ug8, if_neg hbig, h4]
        simp only [ua1, pok]
        rw [if_neg (show ¬ (!true) = true by decide), hsf, if_neg (show ¬ (!seq ub6 ⟨#[]⟩) = true by decide), ug8, u78 v (vd5 v (by unfold big; omega))]
        cases uw8 v <;> rfl
      have R : us3 (.start s) = if uw8 v = true then some (((v.Name, (v.Number, (v.Parts, ()))), (0, ())), ()) else some (((ub6, (0, ([], ()))), (8, ())), ()) := by
        rw [us3, if_neg hbig, show (0 : Int) = ((0 : Nat) : Int) from rfl, h5]
        simp only [ua1, rok]
        rw [if_neg (by simp only [bne_iff_ne]; omega), vI0]
        cases uw8 v <;> rfl
      rw [P, R]
      cases ht : uw8 v with
      | true => exact ⟨v, 0, rfl, rfl, hsz⟩
      | false => exact ⟨⟨ub6, 0, []⟩, 8, rfl, rfl, v0⟩
    · have hsf : seq (suf s e) (⟨#[]⟩ : ByteArray) = false := by
        cases hb : seq (suf s e) (⟨#[]⟩ : ByteArray) with
        | false => rfl
        | true =>
          have := congrArg ByteArray.size (uF4.1 hb)
          rw [ug4 s h2] at this
          have z : (⟨#[]⟩ : ByteArray).size = 0 := rfl
          omega
      have P : ug8 (.start s) = some (((ub6, (0, ([], ()))), (7, ())), ()) := by
        rw [ug8, if_neg hbig, h4]
        simp only [ua1, pok]
        rw [if_neg (show ¬ (!true) = true by decide), hsf]
        rfl
      have R : us3 (.start s) = some (((ub6, (0, ([], ()))), (7, ())), ()) := by
        rw [us3, if_neg hbig, show (0 : Int) = ((0 : Nat) : Int) from rfl, h5]
        simp only [ua1, rok]
        rw [if_pos (by simp only [bne_iff_ne]; omega)]
      rw [P, R]
      exact ⟨⟨ub6, 0, []⟩, 7, rfl, rfl, v0⟩
  · have P : ug8 (.start s) = some (((ub6, (0, ([], ()))), (7, ())), ()) := by
      rw [ug8, if_neg hbig, h4]
      rfl
    have R : us3 (.start s) = some (((ub6, (0, ([], ()))), (7, ())), ()) := by
      rw [us3, if_neg hbig, show (0 : Int) = ((0 : Nat) : Int) from rfl, h5]
      simp only [ua1]
      rw [if_pos (by
        simp only [bne_iff_ne]
        rcases h6 with rfl | ⟨k, rfl, h7, _⟩ <;> omega)]
    rw [P, R]
    exact ⟨⟨ub6, 0, []⟩, 7, rfl, rfl, v0⟩
theorem vG8 : ∀ v : DV, ub7 v → uS8 v := by
  refine ug0 fun n k ps ih h => ?_
  obtain ⟨_, _, _, h2, h3⟩ := h
  exact .mk n k ps h2 fun p hp => ih p hp (h3 p hp)
theorem vu4 (v : DV) (hv : ub7 v) : us4 (.p127 v.Name v.Number v.Parts) = some ((true, ()), ()) := by
  have hlen : uw8 v = true → vsz v ≤ 200 := fun h => by unfold uw8 at h; simp at h; exact h.1
  have hvl := vG8 v hv
  have P : uA0 (.start v.Name v.Number v.Parts) = if uw8 v = true then (if fE v = 0 then some ((fb v, (0, ())), ()) else some ((ub6, (fE v, ())), ())) else some ((ub6, (8, ())), ()) := by
    rw [uA0, u78 v hvl]
    cases ht : uw8 v with
    | false => rfl
    | true =>
      have hsz := hlen ht
      simp only [ua1, if_true]
      rw [if_neg (show ¬ ((0 : Int) != 0) = true by decide), vE2 v hv]
      simp only [ua1]
      by_cases h0 : fE v = 0
      · rw [if_neg (by simp [h0]), if_pos h0, vQ7 v h0 (by omega)]
        rfl
      · rw [if_pos (by simp [h0]), if_neg h0]
  have R : uY6 (.start v.Name v.Number v.Parts) = some ((if uw8 v = true then fE v else 8, ()), ()) := by
    rw [uY6, vI0]
    cases ht : uw8 v with
    | false => rfl
    | true =>
      simp only [ua1, if_true]
      rw [if_neg (show ¬ (!true) = true by decide), vE8 v hv]
      rfl
  rw [us4, P, R]
  cases ht : uw8 v with
  | false => rfl
  | true =>
    have hsz := hlen ht
    simp only [if_true]
    by_cases h0 : fE v = 0
    · rw [if_pos h0]
      simp only [ua1, h0]
      rw [if_neg (show ¬ ((0 : Int) != 0) = true by decide), if_neg (show ¬ ((0 : Int) != 0) = true by decide), vR2 v h0 (by omega)]
      simp only [ua1]
      rw [uw3, if_neg (show ¬ (!true) = true by decide), us4]
      have hfl := u12 v h0
      have hsz2 : (fb v).size = (fv v).length := rfl
      have hr := v90 v h0 (by omega) (fb v) 0 [] (by omega) (by omega) (by rw [List.drop_zero, List.append_nil]; rfl) (.inl rfl)
      rw [vh1] at hr
      have hsf : suf (fb v) (0 + (fv v).length) = ub6 := ue3 (by rw [ul5, List.drop_eq_nil_of_le (by rw [uf8]; omega)])
      have Q : ug8 (.start (fb v)) = some (((v.Name, (v.Number, (v.Parts, ()))), (0, ())), ()) := by
        rw [ug8, if_neg (by simp; omega), hr.1]
        simp only [ua1, pok]
        rw [if_neg (show ¬ (!true) = true by decide), hsf, if_neg (show ¬ (!seq ub6 ⟨#[]⟩) = true by decide), ug8, u78 v hvl, ht]
        rfl
      rw [Q]
      simp only [ua1]
      rw [if_pos (show ((0 : Int) == 0) = true by decide), vZ3 v (by omega)]
      rfl
    · rw [if_neg h0]
      simp only [ua1]
      rw [if_pos (by simp [h0]), if_pos (by simp)]
      rfl
theorem u48 (v : DV) (s : ByteArray) (hv : ub7 v) : us4 (.start v.Name v.Number v.Parts s) = some ((true, ()), ()) := by
  rw [us4, vo4]
  simp only [ua1]
  rw [if_neg (show ¬ (!true) = true by decide)]
  by_cases hs : s.size > 300
  · rw [if_pos (by simp; omega)]
  · rw [if_neg (by simp; omega)]
    obtain ⟨u, e, h1, h2, h3⟩ := vY6 (s := s) (by omega)
    rw [h1, h2]
    simp only [ua1]
    rw [if_neg (by simp), vZ3 u (by omega)]
    simp only [ua1]
    rw [if_neg (show ¬ (!true) = true by decide)]
    exact vu4 v hv
end
end Go.Proofs.YtaennkkcnhfglaaGreatDoor.Ev.F
