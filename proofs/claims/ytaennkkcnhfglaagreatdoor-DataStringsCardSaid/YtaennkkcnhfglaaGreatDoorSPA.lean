/- A part of the proof. -/
import Derived.Test.YtaennkkcnhfglaaGreatDoorSPD0
import Derived.Test.YtaennkkcnhfglaaGreatDoorSFR
import Derived.Test.YtaennkkcnhfglaaGreatDoorSEvPure
import Derived.Lib.AtoiTie
import Derived.Lib.DecodeN
set_option linter.unusedVariables false
set_option linter.unusedSimpArgs false
set_option linter.unnecessarySimpa false
namespace Go.Proofs.YtaennkkcnhfglaaGreatDoor.Ev.F
open Go.Proofs.YtaennkkcnhfglaaGreatDoor.Ev
noncomputable section
theorem uU0 {a b c : Nat} (h : (a + b) * c ≤ 140737488355328) : fits a b c = true := Nat.ble_eq_true_of_le h
theorem uk0 {i n : Nat} (h : i < n) (hn : n ≤ 9223372036854775807) : IntKind.wrap .i64 ((i : Int) + 1) = ((i + 1 : Nat) : Int) := by
  rw [wrap_i64 (by omega) (by omega)]; rfl
theorem ut1 {i : Nat} (h : i ≤ 4611686018427387904) : IntKind.wrap .i64 ((i : Int) + 1) = ((i + 1 : Nat) : Int) := by
  rw [wrap_i64 (by omega) (by omega)]; rfl
theorem ug9 {α : Type} {l : List α} {i : Nat} (h : i < l.length) : l.drop i = l[i] :: l.drop (i + 1) := List.drop_eq_getElem_cons h
theorem uj4 {α : Type} (l : List α) {P : Nat → Prop} (h0 : P l.length) (hs : ∀ i, i < l.length → P (i + 1) → P i) : ∀ {i}, i ≤ l.length → P i := by
  intro i hi
  have : ∀ k i, i + k = l.length → P i := by
    intro k
    induction k with
    | zero => intro i h; obtain rfl : i = l.length := by omega
              exact h0
    | succ k ih => intro i h; exact hs i (by omega) (ih (i + 1) (by omega))
  exact this (l.length - i) i (by omega)
theorem lt_t {i n : Nat} (h : i < n) : decide ((i : Int) < (n : Int)) = true := by simpa using h
theorem lt_f (n : Nat) : decide ((n : Int) < (n : Int)) = false := by simp
theorem uq4 {α : Type} {l : List α} {i : Nat} (h : i < l.length) : idx l (i : Int) = some l[i] := by rw [vP5, List.getElem?_eq_getElem h]
theorem vR9 (a b : ByteArray) : seq a b = decide (a = b) := by
  cases a with | mk a => cases b with | mk b =>
  simp only [seq, ByteArray.mk.injEq]
  rw [Bool.eq_iff_iff]
  simp [Array.toList_inj]
def big : Nat := 9223372036854775807
theorem u79 (n lo hi : Int) : ug5 (.start n lo hi) = some ((decide (lo ≤ n ∧ n ≤ hi), ()), ()) := by
  by_cases h : lo ≤ n <;> simp [ug5, h]
theorem vR5 (n lo hi : Int) : uY5 (.start n lo hi) = some ((decide (lo ≤ n ∧ n ≤ hi), ()), ()) := by
  by_cases h : lo ≤ n <;> simp [uY5, h]
theorem vt0 (b : Bool) (e : Int) : ub3 (.start b e) = some ((if b = true then 0 else e, ()), ()) := by
  cases b <;> simp [ub3]
def ut9 : List Int → Int
 | [] => 0
 | e :: l => if e = 0 then ut9 l else e
theorem vY3 (l : List Int) (hl : l.length ≤ big) : ub9 (.start l) = some ((ut9 l, ()), ()) := by
  rw [ub9]
  have : ∀ {i}, i ≤ l.length → ub9 (.p52 l (List.length l : Int) (i : Int)) = some ((ut9 (l.drop i), ()), ()) := by
    refine uj4 l (P := fun i => ub9 (.p52 l (List.length l : Int) (i : Int)) = some ((ut9 (l.drop i), ()), ())) ?_ ?_
    · rw [ub9]; simp [ut9]
    · intro i hi ih
      rw [ub9]
      simp only [lt_t hi, if_true, uq4 hi, ua1]
      rw [uk0 hi hl, ih, ug9 hi]
      simp only [ut9]
      by_cases h0 : l[i] = 0 <;> simp [h0]
  simpa using this (Nat.zero_le _)
def uG4 (c : Int) : Bool := (decide (97 ≤ c) && decide (c ≤ 122)) || (decide (65 ≤ c) && decide (c ≤ 90))
def okC (i : Nat) (c : Int) : Bool := uG4 c || (!(decide (i = 0)) && (decide (c = 95) || (decide (48 ≤ c) && decide (c ≤ 57))))
def up0 : Nat → List Int → Bool
 | _, [] => true
 | i, c :: l => okC i c && up0 (i + 1) l
def isN (s : ByteArray) : Bool := decide (1 ≤ s.size ∧ s.size ≤ 16) && up0 0 (ua7 s)
theorem uf9 (s : ByteArray) : (ua7 s).length = s.size := by unfold ua7; rw [List.length_map, Array.length_toList]; rfl
theorem vF8 {s : ByteArray} {i : Nat} (h : i < (ua7 s).length) : sidx s (i : Int) = some (ua7 s)[i] := by
  unfold sidx ua7
  rw [if_pos (by omega), Int.toNat_natCast]
  have h' : i < s.data.toList.length := by unfold ua7 at h; simpa using h
  rw [List.getElem?_eq_getElem h']
  rw [Option.map_some]
  congr 1
  exact (List.getElem_map (f := fun c : UInt8 => (c.toNat : Int))).symm
theorem vE3 (s : ByteArray) (i : Nat) (c : Int) (b : Bool) (l : List Int) (n m : Int) : ud9 (.p3379 s (i : Int) c b l n m) = if (b || (!(decide (i = 0)) && (decide (c = 95) || (decide (48 ≤ c) && decide (c ≤ 57))))) = true then ud9 (.p52 s l n (IntKind.wrap .i64 (m + 1))) else some ((false, ()), ()) := by
  conv => lhs; rw [ud9]
  cases b with
  | true => simp
  | false =>
    by_cases hi : i = 0
    · subst hi; simp
    · by_cases h95 : c = 95
      · simp [hi, h95]
      · by_cases h1 : c < 48
        · simp [hi, h95, h1, show ¬ (48 ≤ c) by omega]
        · by_cases h2 : c > 57
          · simp [hi, h95, h1, h2, show ¬ (c ≤ 57) by omega]
          · simp [hi, h95, h1, h2, show (48 ≤ c) by omega, show (c ≤ 57) by omega]
theorem vY5 (s : ByteArray) (hs : s.size ≤ big) : ud9 (.start s) = some ((isN s, ()), ()) := by
  rw [ud9]
  have hl : (ua7 s).length ≤ big := by rw [uf9]; exact hs
  have : ∀ {i}, i ≤ (ua7 s).length → ud9 (.p52 s (ua7 s) (List.length (ua7 s) : Int) (i : Int)) = some ((up0 i ((ua7 s).drop i) && decide (1 ≤ s.size ∧ s.size ≤ 16), ()), ()) := by
    refine uj4 (ua7 s) (P := fun i => ud9 (.p52 s (ua7 s) (List.length (ua7 s) : Int) (i : Int)) = some ((up0 i ((ua7 s).drop i) && decide (1 ≤ s.size ∧ s.size ≤ 16), ()), ())) ?_ ?_
    · rw [ud9]
      simp only [lt_f, Bool.false_eq_true, if_false, u79, ua1, List.drop_length, up0, Bool.true_and]
      congr 3
      exact decide_eq_decide.2 (by omega)
    · intro i hi ih
      rw [ud9]
      simp only [lt_t hi, if_true, uq4 hi, ua1, vE3]
      rw [uk0 hi hl, ih, ug9 hi]
      rw [show up0 i ((ua7 s)[i] :: (ua7 s).drop (i + 1)) = (okC i (ua7 s)[i] && up0 (i + 1) ((ua7 s).drop (i + 1))) from rfl]
      generalize (ua7 s)[i] = c
      unfold okC uG4
      generalize ((!decide (i = 0)) && (decide (c = 95) || decide (48 ≤ c) && decide (c ≤ 57))) = q
      by_cases h1 : 97 ≤ c <;> by_cases h2 : c ≤ 122 <;> by_cases h3 : 65 ≤ c <;> by_cases h4 : c ≤ 90 <;> cases q <;> first | omega | simp [h1, h2, h3, h4]
  have h := this (Nat.zero_le _)
  rw [List.drop_zero] at h
  rw [show ((0 : Int)) = ((0 : Nat) : Int) from rfl, h]
  unfold isN
  rw [Bool.and_comm]
theorem vt4 (s : ByteArray) (i : Nat) (c : Int) (b : Bool) : uc9 (.p3731 s (i : Int) c b) = if (b || (!(decide (i = 0)) && (decide (c = 95) || (decide (48 ≤ c) && decide (c ≤ 57))))) = true then uc9 (.p116 s (IntKind.wrap .i64 ((i : Int) + 1))) else some ((false, ()), ()) := by
  conv => lhs; rw [uc9]
  cases b with
  | true => simp
  | false =>
    by_cases hi : i = 0
    · subst hi; simp
    · by_cases h95 : c = 95
      · simp [hi, h95]
      · by_cases h1 : c < 48
        · simp [hi, h95, h1, show ¬ (48 ≤ c) by omega]
        · by_cases h2 : c > 57
          · simp [hi, h95, h1, h2, show ¬ (c ≤ 57) by omega]
          · simp [hi, h95, h1, h2, show (48 ≤ c) by omega, show (c ≤ 57) by omega]
theorem vZ2 (s : ByteArray) : uc9 (.start s) = some ((isN s, ()), ()) := by
  rw [uc9]
  unfold isN
  by_cases h1 : s.size < 1
  · simp [h1, show ¬ (1 ≤ s.size) by omega, show ((s.size : Int) < 1) by omega]
  · by_cases h2 : s.size > 16
    · simp [show ¬ (s.size ≤ 16) by omega, show ¬ ((s.size : Int) < 1) by omega, show ((s.size : Int) > 16) by omega]
    · have e1 : decide ((s.size : Int) < 1) = false := by simp; omega
      have e2 : decide ((s.size : Int) > 16) = false := by simp; omega
      simp only [e1, e2, Bool.false_eq_true, if_false]
      rw [uc9]
      have hz : decide (1 ≤ s.size ∧ s.size ≤ 16) = true := by simp; omega
      rw [hz, Bool.true_and]
      have hl : (ua7 s).length ≤ big := by rw [uf9]; unfold big; omega
      have : ∀ {i}, i ≤ (ua7 s).length → uc9 (.p116 s (i : Int)) = some ((up0 i ((ua7 s).drop i), ()), ()) := by
        refine uj4 (ua7 s) (P := fun i => uc9 (.p116 s (i : Int)) = some ((up0 i ((ua7 s).drop i), ()), ())) ?_ ?_
        · rw [uc9]
          rw [uf9]
          simp only [lt_f, Bool.false_eq_true, if_false]
          rw [List.drop_of_length_le (by rw [uf9]; exact Nat.le_refl _)]
          rfl
        · intro i hi ih
          rw [uc9]
          have hi' : i < s.size := by rw [← uf9]; exact hi
          simp only [lt_t hi', if_true, vF8 hi, ua1, vt4]
          rw [uk0 hi hl, ih, ug9 hi]
          rw [show up0 i ((ua7 s)[i] :: (ua7 s).drop (i + 1)) = (okC i (ua7 s)[i] && up0 (i + 1) ((ua7 s).drop (i + 1))) from rfl]
          generalize (ua7 s)[i] = c
          unfold okC uG4
          generalize ((!decide (i = 0)) && (decide (c = 95) || decide (48 ≤ c) && decide (c ≤ 57))) = q
          by_cases h1 : 97 ≤ c <;> by_cases h2 : c ≤ 122 <;> by_cases h3 : 65 ≤ c <;> by_cases h4 : c ≤ 90 <;> cases q <;> first | omega | simp [h1, h2, h3, h4]
      exact this (Nat.zero_le _)
abbrev DV : Type := ua0
abbrev ub6 : ByteArray := ⟨#[]⟩
mutual
def vsz : DV → Nat
 | ⟨_, _, ps⟩ => 1 + vszs ps
def vszs : List DV → Nat
 | [] => 0
 | p :: l => vsz p + vszs l
end
mutual
def vdp : DV → Nat
 | ⟨_, _, ps⟩ => 1 + vdps ps
def vdps : List DV → Nat
 | [] => 0
 | p :: l => max (vdp p) (vdps l)
end
theorem uh1 : vszs [] = 0 := by rw [vszs]
theorem vh4 : vdps [] = 0 := by rw [vdps]
theorem ug1 (p : DV) (l : List DV) : vszs (p :: l) = vsz p + vszs l := by rw [vszs]
theorem u50 (p : DV) (l : List DV) : vdps (p :: l) = max (vdp p) (vdps l) := by rw [vdps]
theorem un9 (v : DV) : vsz v = 1 + vszs v.Parts := by cases v; rw [vsz]
theorem vI3 (v : DV) : vdp v = 1 + vdps v.Parts := by cases v; rw [vdp]
theorem vS3 (t : DV) : 1 ≤ vsz t := by rw [un9]; omega
theorem us9 (l : List DV) : l.length ≤ vszs l := by
  induction l with
  | nil => simp [uh1]
  | cons a l ih => have := vS3 a; rw [ug1, List.length_cons]; omega
theorem uF7 {l : List DV} {t : DV} (h : t ∈ l) : vsz t ≤ vszs l := by
  induction l with
  | nil => cases h
  | cons a l ih =>
    rw [ug1]
    rcases List.mem_cons.1 h with rfl | h
    · omega
    · have := ih h; omega
theorem ug0 {P : DV → Prop} (h : ∀ n k ps, (∀ p ∈ ps, P p) → P ⟨n, k, ps⟩) (v : DV) : P v := by
  generalize hn : vsz v = n
  induction n using Nat.strongRecOn generalizing v with
  | ind n ih =>
    obtain ⟨s, k, ps⟩ := v
    exact h s k ps fun p hp => ih (vsz p) (by have := uF7 hp; rw [un9] at hn; simp only at hn; omega) p rfl
def uw8 (v : DV) : Bool := decide (vsz v ≤ 200 ∧ vdp v ≤ 40)
inductive uS8 : DV → Prop
 | mk (n : ByteArray) (k : Int) (ps : List DV) (h : ps.length ≤ big) (hs : ∀ p ∈ ps, uS8 p) : uS8 ⟨n, k, ps⟩
theorem vd5 : ∀ v, vsz v ≤ big → uS8 v := by
  refine ug0 fun n k ps ih h => ?_
  rw [un9] at h
  simp only at h
  exact .mk n k ps (by have := us9 ps; omega) fun p hp => ih p hp (by have := uF7 hp; omega)
def vd8 (t : DV) : Prop := ∀ d n : Nat, 1 ≤ d → d ≤ 41 → n ≤ 200 → ∃ r, ug7 (.start t.Name t.Number t.Parts (d : Int) (n : Int)) = some r ∧ r.1.1 = decide (n + vsz t ≤ 200 ∧ d + vdp t ≤ 41) ∧ (r.1.1 = true → r.2.1.1 = ((n + vsz t : Nat) : Int))
theorem u33 (ps : List DV) (hps : ∀ p ∈ ps, vd8 p) (hl : ps.length ≤ big) (d : Nat) (h1 : 1 ≤ d) (h2 : d ≤ 40) : ∀ {i}, i ≤ ps.length → ∀ n : Nat, n ≤ 200 → ∃ r, ug7 (.p244 (d : Int) ps (List.length ps : Int) (i : Int) (n : Int)) = some r ∧ r.1.1 = decide (n + vszs (ps.drop i) ≤ 200 ∧ d + vdps (ps.drop i) ≤ 40) ∧ (r.1.1 = true → r.2.1.1 = ((n + vszs (ps.drop i) : Nat) : Int)) := by
  refine uj4 ps (P := fun i => ∀ n : Nat, n ≤ 200 → ∃ r, ug7 (.p244 (d : Int) ps (List.length ps : Int) (i : Int) (n : Int)) = some r ∧ r.1.1 = decide (n + vszs (ps.drop i) ≤ 200 ∧ d + vdps (ps.drop i) ≤ 40) ∧ (r.1.1 = true → r.2.1.1 = ((n + vszs (ps.drop i) : Nat) : Int))) ?_ ?_
  · intro n hn
    rw [ug7]
    refine ⟨_, by simp only [lt_f, Bool.false_eq_true, if_false]; rfl, ?_, ?_⟩
    · rw [List.drop_length, uh1, vh4]; simp; omega
    · rw [List.drop_length, uh1]; simp
  · intro i hi ih n hn
    rw [ug7]
    simp only [lt_t hi, if_true, uq4 hi, ua1]
    obtain ⟨r, e1, e2, e3⟩ := hps ps[i] (List.getElem_mem hi) (d + 1) n (by omega) (by omega) hn
    rw [ut1 (by omega), e1]
    simp only [ua1]
    rw [ug9 hi, ug1, u50]
    cases hb : r.1.1 with
    | false =>
      rw [hb] at e2
      refine ⟨_, by simp only [Bool.not_false, if_true]; rfl, ?_, ?_⟩
      · simp only
        have := of_decide_eq_false e2.symm
        symm
        refine decide_eq_false ?_
        have := Nat.le_max_left (vdp ps[i]) (vdps (ps.drop (i + 1)))
        omega
      · intro h; cases h
    | true =>
      rw [hb] at e2
      have h3 := of_decide_eq_true e2.symm
      obtain ⟨r', f1, f2, f3⟩ := ih (n + vsz ps[i]) h3.1
      refine ⟨r', ?_, ?_, ?_⟩
      · simp only [Bool.not_true, Bool.false_eq_true, if_false]
        rw [e3 hb, uk0 hi hl]
        exact f1
      · rw [f2]
        refine decide_eq_decide.2 ?_
        have := Nat.le_max_left (vdp ps[i]) (vdps (ps.drop (i + 1)))
        have := Nat.le_max_right (vdp ps[i]) (vdps (ps.drop (i + 1)))
        have : max (vdp ps[i]) (vdps (ps.drop (i + 1))) = vdp ps[i] ∨ max (vdp ps[i]) (vdps (ps.drop (i + 1))) = vdps (ps.drop (i + 1)) := by omega
        omega
      · intro h
        rw [f3 h]
        congr 1
        omega
theorem vE5 : ∀ t, uS8 t → vd8 t := by
  refine ug0 fun s k ps ih hok => ?_
  obtain ⟨_, _, _, hl, hs⟩ := hok
  intro d n h1 h2 hn
  have hsz : vsz ⟨s, k, ps⟩ = 1 + vszs ps := un9 _
  have hdp : vdp ⟨s, k, ps⟩ = 1 + vdps ps := vI3 _
  rw [ug7, hsz, hdp]
  simp only
  rw [ut1 (by omega)]
  by_cases hc : n + 1 > 200
  · refine ⟨_, by rw [if_pos (by simp; omega)], ?_, ?_⟩
    · simp only
      symm
      exact decide_eq_false (by omega)
    · intro h; cases h
  · rw [if_neg (by simp; omega)]
    by_cases hd : d > 40
    · refine ⟨_, by rw [if_pos (by simp; omega)], ?_, ?_⟩
      · simp only
        symm
        exact decide_eq_false (by omega)
      · intro h; cases h
    · rw [if_neg (by simp; omega)]
      rw [ug7]
      simp only [uN3, ua1]
      obtain ⟨r, e1, e2, e3⟩ := u33 ps (fun p hp => ih p hp (hs p hp)) hl d h1 (by omega) (Nat.zero_le _) (n + 1) (by omega)
      refine ⟨r, e1, ?_, ?_⟩
      · rw [e2, List.drop_zero]
        exact decide_eq_decide.2 (by omega)
      · intro h
        rw [e3 h, List.drop_zero]
        congr 1
        omega
theorem u78 (t : DV) (h : uS8 t) : uu7 (.start t.Name t.Number t.Parts) = some ((if uw8 t = true then 0 else 8, ()), ()) := by
  rw [uu7]
  obtain ⟨r, e1, e2, _⟩ := vE5 t h 1 0 (by omega) (by omega) (by omega)
  rw [show ((1 : Int)) = ((1 : Nat) : Int) from rfl, show ((0 : Int)) = ((0 : Nat) : Int) from rfl, e1]
  simp only [ua1, vt0]
  rw [e2]
  have : decide (0 + vsz t ≤ 200 ∧ 1 + vdp t ≤ 41) = uw8 t := decide_eq_decide.2 (by omega)
  rw [this]
  rfl
theorem vF0 : ∀ (t : DV) (d n : Nat), 1 ≤ d → d ≤ 41 → n ≤ 200 → uf6 (.start t.Name t.Number t.Parts (d : Int) (n : Int)) = some (((if n + vsz t ≤ 200 ∧ d + vdp t ≤ 41 then ((n + vsz t : Nat) : Int) else 201), ()), ()) := by
  refine ug0 fun s k ps ih d n h1 h2 hn => ?_
  have hts : vsz ⟨s, k, ps⟩ = 1 + vszs ps := un9 _
  have htd : vdp ⟨s, k, ps⟩ = 1 + vdps ps := vI3 _
  rw [uf6, hts, htd]
  simp only
  by_cases hd : d > 40
  · rw [if_pos (by simp; omega), if_neg (by omega)]
  · rw [if_neg (by simp; omega), ut1 (by omega)]
    by_cases hc : n + 1 > 200
    · rw [if_pos (by simp; omega), if_neg (by omega)]
    · rw [if_neg (by simp; omega)]
      by_cases hp : ps.length > 200
      · rw [if_pos (by simp; omega), if_neg (by have := us9 ps; omega)]
      · rw [if_neg (by simp; omega), uf6]
        have loop : ∀ {i}, i ≤ ps.length → ∀ m : Nat, m ≤ 200 → uf6 (.p244 (d : Int) (m : Int) (i : Int) s k ps) = some (((if m + vszs (ps.drop i) ≤ 200 ∧ d + vdps (ps.drop i) ≤ 40 then ((m + vszs (ps.drop i) : Nat) : Int) else 201), ()), ()) := by
          refine uj4 ps (P := fun i => ∀ m : Nat, m ≤ 200 → uf6 (.p244 (d : Int) (m : Int) (i : Int) s k ps) = some (((if m + vszs (ps.drop i) ≤ 200 ∧ d + vdps (ps.drop i) ≤ 40 then ((m + vszs (ps.drop i) : Nat) : Int) else 201), ()), ())) ?_ ?_
          · intro m hm
            rw [uf6]
            simp only [lt_f, Bool.false_eq_true, if_false]
            rw [List.drop_length, uh1, vh4]
            rw [if_pos (by omega)]
            rfl
          · intro i hi ihl m hm
            rw [uf6]
            simp only [lt_t hi, if_true, show decide ((m : Int) ≤ 200) = true by simp; omega]
            rw [uf6]
            simp only [uq4 hi, ua1]
            rw [ut1 (by omega), ih ps[i] (List.getElem_mem hi) (d + 1) m (by omega) (by omega) hm]
            simp only [ua1]
            rw [uk0 hi (by omega), ug9 hi, ug1, u50]
            have m1 := Nat.le_max_left (vdp ps[i]) (vdps (ps.drop (i + 1)))
            have m2 := Nat.le_max_right (vdp ps[i]) (vdps (ps.drop (i + 1)))
            have m3 : max (vdp ps[i]) (vdps (ps.drop (i + 1))) = vdp ps[i] ∨ max (vdp ps[i]) (vdps (ps.drop (i + 1))) = vdps (ps.drop (i + 1)) := by omega
            by_cases hx : m + vsz ps[i] ≤ 200 ∧ d + 1 + vdp ps[i] ≤ 41
            · rw [if_pos hx, ihl _ hx.1]
              by_cases hy : m + vsz ps[i] + vszs (ps.drop (i + 1)) ≤ 200 ∧ d + vdps (ps.drop (i + 1)) ≤ 40
              · rw [if_pos hy, if_pos (by omega)]
                congr 4
                omega
              · rw [if_neg hy, if_neg (by omega)]
            · rw [if_neg hx]
              have hq : decide ((201 : Int) ≤ 200) = false := by decide
              rw [if_neg (by omega)]
              rw [uf6]
              by_cases hz : i + 1 < ps.length
              · simp only [lt_t hz, if_true, hq, Bool.false_eq_true, if_false]
              · have : i + 1 = ps.length := by omega
                rw [this]
                simp only [lt_f, Bool.false_eq_true, if_false]
        have := loop (Nat.zero_le _) (n + 1) (by omega)
        rw [List.drop_zero] at this
        rw [show ((0 : Int)) = ((0 : Nat) : Int) from rfl, this]
        by_cases hy : n + 1 + vszs ps ≤ 200 ∧ d + vdps ps ≤ 40
        · rw [if_pos hy, if_pos (by omega)]
          congr 4
          omega
        · rw [if_neg hy, if_neg (by omega)]
theorem vI0 (t : DV) : uN8 (.start t.Name t.Number t.Parts) = some ((uw8 t, ()), ()) := by
  rw [uN8, show ((1 : Int)) = ((1 : Nat) : Int) from rfl, show ((0 : Int)) = ((0 : Nat) : Int) from rfl, vF0 t 1 0 (by omega) (by omega) (by omega)]
  simp only [ua1]
  unfold uw8
  by_cases h : vsz t ≤ 200 ∧ vdp t ≤ 40
  · rw [if_pos (by omega)]
    simp only [Nat.zero_add]
    rw [show decide (((vsz t : Nat) : Int) ≤ 200) = true by simp; omega, decide_eq_true h]
  · rw [if_neg (by omega), decide_eq_false h]
    rfl
theorem uF6 (v : DV) : (⟨v.Name, v.Number, v.Parts⟩ : DV) = v := by cases v; rfl
theorem vZ3 : ∀ v : DV, vsz v ≤ 1000000 → uf1 (.start v.Name v.Number v.Parts v.Name v.Number v.Parts) = some ((true, ()), ()) := by
  refine ug0 fun s k ps ih hsz => ?_
  rw [un9] at hsz
  simp only at hsz
  have hl := us9 ps
  have e1 : (k != k) = false := by simp
  have e4 : ((List.length ps : Int) != (List.length ps : Int)) = false := by simp
  have loop : ∀ {i}, i ≤ ps.length → uf1 (.p116 (i : Int) s k ps s k ps) = some ((true, ()), ()) := by
    refine uj4 ps (P := fun i => uf1 (.p116 (i : Int) s k ps s k ps) = some ((true, ()), ())) ?_ ?_
    · rw [uf1]
      simp only [lt_f, Bool.false_eq_true, if_false]
    · intro i hi ihl
      rw [uf1]
      have hm := uF7 (List.getElem_mem hi)
      simp only [lt_t hi, if_true, uq4 hi, ua1, ih _ (List.getElem_mem hi) (by omega), Bool.not_true, Bool.false_eq_true, if_false]
      rw [uk0 hi (by omega)]
      exact ihl
  rw [uf1]
  simp only [e1, e4, vR9, decide_true, Bool.not_true, Bool.false_eq_true, if_false]
  first
  | exact loop (Nat.zero_le _)
  | (rw [uf1]; exact loop (Nat.zero_le _))
def bt (s : ByteArray) (i : Nat) : Int := ((s.data.toList.getD i 0).toNat : Int)
theorem uf8 (s : ByteArray) : s.data.toList.length = s.size := by rw [Array.length_toList]; rfl
theorem ue5 {s : ByteArray} {i : Nat} (h : i < s.size) : sidx s (i : Int) = some (bt s i) := by
  unfold sidx bt
  rw [if_pos (by omega), Int.toNat_natCast, List.getD, List.getElem?_eq_getElem (by rw [uf8]; exact h)]
  rfl
theorem bt_0 (s : ByteArray) (i : Nat) : 0 ≤ bt s i := by unfold bt; omega
theorem v06 (s : ByteArray) (i : Nat) : bt s i < 256 := by
  unfold bt
  have := (s.data.toList.getD i 0).toNat_lt
  omega
theorem us7 {n i j : Nat} (h1 : i ≤ j) (h2 : j ≤ n) : span n (i : Int) (j : Int) = some (i, j) := by
  unfold span
  rw [if_pos ⟨by omega, by omega, by omega⟩]
  rfl
theorem uF4 {a b : ByteArray} : seq a b = true ↔ a = b := by
  obtain ⟨⟨a⟩⟩ := a
  obtain ⟨⟨b⟩⟩ := b
  simp [seq]
theorem uw3 (a : ByteArray) : seq a a = true := uF4.2 rfl
theorem vH4 {a b : ByteArray} (h : a.size = b.size) (hb : ∀ i, i < a.size → bt a i = bt b i) : a = b := by
  obtain ⟨⟨a⟩⟩ := a
  obtain ⟨⟨b⟩⟩ := b
  congr 2
  refine List.ext_getElem (by simpa [ByteArray.size] using h) fun i h1 h2 => ?_
  have := hb i (by simpa [ByteArray.size] using h1)
  unfold bt at this
  simp only [List.getD, List.getElem?_eq_getElem h1, List.getElem?_eq_getElem h2, Option.getD_some] at this
  exact UInt8.toNat_inj.1 (by omega)
theorem un7 (s : ByteArray) {i j : Nat} (h1 : i ≤ j) (h2 : j ≤ s.size) : (s.extract i j).size = j - i := by
  rw [ByteArray.size_extract]; omega
theorem u05 (s : ByteArray) {i j k : Nat} (h2 : j ≤ s.size) (hk : i + k < j) : bt (s.extract i j) k = bt s (i + k) := by
  unfold bt
  have h3 : (s.extract i j).data.toList = (s.data.toList.take j).drop i := by
    rw [ByteArray.data_extract, Array.toList_extract, List.extract_eq_take_drop]
    apply List.ext_getElem?
    intro n
    simp only [List.getElem?_take, List.getElem?_drop]
    by_cases hn : n < j - i
    · rw [if_pos hn, if_pos (by omega)]
    · rw [if_neg hn, if_neg (by omega)]
  rw [h3]
  simp only [List.getD, List.getElem?_drop, List.getElem?_take, if_pos hk]
def uw6 (c : Int) : Bool := decide (48 ≤ c) && decide (c ≤ 57)
def natN (s : ByteArray) : Int := (ui9 s).1
def deci (n : Int) : ByteArray := ⟨(Lib.itoa n).toArray⟩
def uo1 (s : ByteArray) : Bool := !(ui9 s).2 && (decide (s.size ≤ 9) && (seq (deci (natN s)) s && uw6 (bt s 0)))
theorem ve8 (n : Int) : 0 < (deci n).size := by
  have : (deci n).size = (Lib.itoa n).length := by unfold deci; rfl
  rw [this]
  unfold Lib.itoa
  split
  · simp
  · unfold Lib.decDigits
    split <;> simp
theorem u72 {s : ByteArray} (h : (ui9 s).2 = false) : -9223372036854775808 ≤ natN s ∧ natN s ≤ 9223372036854775807 := by
  unfold natN
  unfold ui9 at h ⊢
  cases ha : Lib.atoiAll s.data.toList with
  | ok v => exact Lib.atoiAll_bounds ha
  | «syntax» => rw [ha] at h; cases h
  | range => rw [ha] at h; cases h
theorem vf4 {s : ByteArray} (h : uo1 s = true) : (ui9 s).2 = false := by
  unfold uo1 at h
  simp only [Bool.and_eq_true, Bool.not_eq_true'] at h
  exact h.1
theorem uo9 {s : ByteArray} (h : uo1 s = true) : deci (natN s) = s ∧ uw6 (bt s 0) = true ∧ s.size ≤ 9 := by
  unfold uo1 at h
  simp only [Bool.and_eq_true, decide_eq_true_eq, uF4] at h
  exact ⟨h.2.2.1, h.2.2.2, h.2.1⟩
theorem u73 {s : ByteArray} (h : uo1 s = true) : 0 ≤ natN s := by
  obtain ⟨h1, h2, _⟩ := uo9 h
  rcases Int.lt_or_le (natN s) 0 with h3 | h3
  · have : bt (deci (natN s)) 0 = 45 := by
      unfold deci Lib.itoa bt
      rw [if_pos h3]
      rfl
    rw [h1] at this
    rw [this] at h2
    cases h2
  · exact h3
theorem vW6 : ∀ (u : Nat) (c : UInt8) (r : List UInt8), Lib.decDigits u = c :: r → c = 48 → u = 0 ∧ r = [] := by
  intro u
  induction u using Nat.strongRecOn with
  | ind u ih =>
    intro c r h hc
    rw [Lib.decDigits] at h
    split at h
    · rename_i hu
      have h1 : UInt8.ofNat (48 + u) = c := by injection h
      have h2 : r = [] := by injection h with _ h; exact h.symm
      rw [hc] at h1
      have h3 := congrArg UInt8.toNat h1
      rw [UInt8.toNat_ofNat'] at h3
      have h4 : (48 : UInt8).toNat = 48 := rfl
      exact ⟨by omega, h2⟩
    · rename_i hu
      cases hd : Lib.decDigits (u / 10) with
      | nil =>
        have : (Lib.decDigits (u / 10)).length = 0 := by rw [hd]; rfl
        rw [Lib.decDigits] at this
        split at this <;> simp at this
      | cons a l =>
        rw [hd] at h
        have h1 : a = c := by injection h
        have := (ih (u / 10) (by omega) a l hd (h1.trans hc)).1
        omega
theorem uJ9 (l : List UInt8) : ∀ (a : Nat) (c : UInt8), Lib.decFrom a (l ++ [c]) = (Lib.decFrom a l).bind fun m => (Lib.digitVal c).map fun d => m * 10 + d := by
  induction l with
  | nil =>
    intro a c
    simp only [List.nil_append, Lib.decFrom, Option.bind]
    cases Lib.digitVal c <;> rfl
  | cons b l ih =>
    intro a c
    simp only [List.cons_append, Lib.decFrom]
    cases Lib.digitVal b with
    | none => rfl
    | some d => exact ih _ c
theorem uQ5 (l : List UInt8) : ∀ (a m : Nat), Lib.decFrom a l = some m → a ≤ m := by
  induction l with
  | nil => intro a m h; simp [Lib.decFrom] at h; omega
  | cons b l ih =>
    intro a m h
    simp only [Lib.decFrom] at h
    cases hd : Lib.digitVal b with
    | none => rw [hd] at h; cases h
    | some d => rw [hd] at h; have := ih _ _ h; omega
theorem uh9 {c : UInt8} {d : Nat} : Lib.digitVal c = some d ↔ 48 ≤ c.toNat ∧ c.toNat ≤ 57 ∧ d = c.toNat - 48 := by
  unfold Lib.digitVal
  split
  · rename_i h
    simp only [Option.some.injEq]
    omega
  · rename_i h
    constructor
    · intro h; cases h
    · omega
theorem up7 {c : UInt8} : Lib.digitVal c = none ↔ ¬ (48 ≤ c.toNat ∧ c.toNat ≤ 57) := by
  unfold Lib.digitVal
  split <;> simp_all
theorem vW8 : ∀ (n : Nat) (l : List UInt8) (m : Nat), l.length = n → Lib.decFrom 0 l = some m → l ≠ [] → (l = [48] ∨ ∀ r, l ≠ 48 :: r) → Lib.decDigits m = l := by
  intro n
  induction n with
  | zero => intro l m hn h hl; exact absurd (List.length_eq_zero_iff.1 hn) hl
  | succ n ih =>
    intro l m hn h hl h0
    rcases List.eq_nil_or_concat l with rfl | ⟨l', c, rfl⟩
    · exact absurd rfl hl
    · simp only [List.concat_eq_append] at *
      rw [uJ9] at h
      cases hl' : Lib.decFrom 0 l' with
      | none => rw [hl'] at h; cases h
      | some m' =>
        rw [hl'] at h
        cases hd : Lib.digitVal c with
        | none => rw [hd] at h; cases h
        | some d =>
          rw [hd] at h
          simp only [Option.bind, Option.map, Option.some.injEq] at h
          obtain ⟨d0, d1, d2⟩ := uh9.1 hd
          have hc : UInt8.ofNat (48 + d) = c := by
            rw [d2, show 48 + (c.toNat - 48) = c.toNat by omega]
            exact UInt8.ofNat_toNat
          by_cases he : l' = []
          · subst he
            simp only [Lib.decFrom, Option.some.injEq] at hl'
            rw [Lib.decDigits, dif_pos (by omega), show m = d by omega, hc]
            rfl
          · have hz : ∀ r, l' ≠ 48 :: r := by
              intro r hr
              rcases h0 with h0 | h0
              · rw [hr] at h0; simp at h0
              · exact h0 (r ++ [c]) (by rw [hr]; rfl)
            have hm : 1 ≤ m' := by
              cases l' with
              | nil => exact absurd rfl he
              | cons b t =>
                simp only [Lib.decFrom] at hl'
                cases hb : Lib.digitVal b with
                | none => rw [hb] at hl'; cases hl'
                | some e =>
                  rw [hb] at hl'
                  obtain ⟨e0, e1, e2⟩ := uh9.1 hb
                  have h1 := uQ5 _ _ _ hl'
                  have h2 : b ≠ 48 := fun h => hz t (by rw [h])
                  have h3 : b.toNat ≠ 48 := fun h => h2 (UInt8.toNat_inj.1 h)
                  omega
            have := ih l' m' (by simp at hn; omega) hl' he (.inr hz)
            rw [Lib.decDigits, dif_neg (by omega), show m / 10 = m' by omega, show m % 10 = d by omega, hc, this]
theorem uJ5 {s : ByteArray} {i : Nat} {c : UInt8} (h : s.data.toList[i]? = some c) : bt s i = (c.toNat : Int) := by
  unfold bt
  rw [List.getD, h]
  rfl
theorem uy0 {s : ByteArray} {i : Nat} (h : i < s.size) : ∃ c, s.data.toList[i]? = some c ∧ bt s i = (c.toNat : Int) ∧ s.data.toList.drop i = c :: s.data.toList.drop (i + 1) := by
  have h' : i < s.data.toList.length := by rw [uf8]; exact h
  exact ⟨s.data.toList[i], List.getElem?_eq_getElem h', uJ5 (List.getElem?_eq_getElem h'), List.drop_eq_getElem_cons h'⟩
theorem vf6 {s : ByteArray} (hs : s.size ≤ 10) (a : Int) : ∀ (k i n : Nat), i + k = s.size → n < 10 ^ i →
    uc6 (.p1012 s a (n : Int) (i : Int)) = some (match Lib.decFrom n (s.data.toList.drop i) with
      | none => ((0, (false, ())), ())
      | some m => if a = 1 then ((-(m : Int), (true, ())), ()) else (((m : Int), (true, ())), ())) := by
  intro k
  induction k with
  | zero =>
    intro i n h hn
    have hp : 10 ^ i ≤ 10 ^ 10 := Nat.pow_le_pow_right (by decide) (by omega)
    have e : (10 : Nat) ^ 10 = 10000000000 := by decide
    rw [uc6, if_neg (by simp; omega), List.drop_eq_nil_of_le (by rw [uf8]; omega)]
    simp only [Lib.decFrom]
    by_cases ha : a = 1
    · rw [if_pos (by simpa using ha), if_pos ha, wrap_i64 (by omega) (by omega)]
      simp
    · rw [if_neg (by simpa using ha), if_neg ha]
  | succ k ih =>
    intro i n h hn
    have hi : i < s.size := by omega
    have hp : 10 ^ (i + 1) ≤ 10 ^ 10 := Nat.pow_le_pow_right (by decide) (by omega)
    have e : (10 : Nat) ^ 10 = 10000000000 := by decide
    obtain ⟨c, h1, h2, h3⟩ := uy0 hi
    rw [uc6, if_pos (by simp; omega), ue5 hi, h3]
    simp only [ua1, Lib.decFrom, h2]
    by_cases hlo : c.toNat < 48
    · rw [if_pos (by simp; omega), up7.2 (by omega)]
    · rw [if_neg (by simp; omega)]
      by_cases hhi : 57 < c.toNat
      · rw [if_pos (by simp; omega), up7.2 (by omega)]
      · rw [if_neg (by simp; omega), uc6, ue5 hi]
        simp only [ua1, h2]
        rw [uh9.2 ⟨by omega, by omega, rfl⟩]
        have hn' : n * 10 + (c.toNat - 48) < 10 ^ (i + 1) := by rw [Nat.pow_succ]; omega
        rw [uZ6 (x := (c.toNat : Int) - 48) (by omega) (by omega), wrap_i64 (x := (c.toNat : Int) - 48) (by omega) (by omega), wrap_i64 (x := 10 * (n : Int)) (by omega) (by omega), wrap_i64 (x := 10 * (n : Int) + ((c.toNat : Int) - 48)) (by omega) (by omega), wrap_i64 (x := (i : Int) + 1) (by omega) (by omega)]
        have := ih (i + 1) (n * 10 + (c.toNat - 48)) (by omega) hn'
        rw [show 10 * (n : Int) + ((c.toNat : Int) - 48) = ((n * 10 + (c.toNat - 48) : Nat) : Int) by omega, show ((i : Int) + 1) = ((i + 1 : Nat) : Int) by omega, this]
theorem up5 {s : ByteArray} (h : s.size ≤ 18) : ui9 s = match Lib.atoi s.data.toList with | some v => (v, false) | none => (0, true) := by
  unfold ui9
  rw [Lib.atoiAll_short _ (by rw [uf8]; exact h)]
  cases Lib.atoi s.data.toList <;> rfl
theorem um2 {s : ByteArray} (h : uw6 (bt s 0) = false) : uo1 s = false := by
  cases hk : uo1 s with
  | false => rfl
  | true => rw [(uo9 hk).2.1] at h; cases h
theorem ui6 (n : Int) : (deci n).data.toList = Lib.itoa n := by unfold deci; rfl
theorem ue3 {a b : ByteArray} (h : a.data.toList = b.data.toList) : a = b := by
  obtain ⟨⟨a⟩⟩ := a
  obtain ⟨⟨b⟩⟩ := b
  have h : a = b := h
  rw [h]
theorem uZ7 : ∀ (n : Nat), n < 100000 → ∀ (l : List UInt8), l.length + n ≤ 200000 → uk6 (.p248 (n : Int) ⟨l.toArray⟩ ⟨#[]⟩) = some ((⟨((if n = 0 then [] else Lib.decDigits n) ++ l).toArray⟩, ()), ()) := by
  intro n
  induction n using Nat.strongRecOn with
  | ind n ih =>
    intro hn l hl
    have hlsz : ∀ m : List UInt8, (⟨m.toArray⟩ : ByteArray).size = m.length := fun m => rfl
    have hsz : (⟨#[]⟩ : ByteArray).size = 0 := rfl
    rw [uk6]
    by_cases h0 : n = 0
    · subst h0
      rw [if_neg (by decide), if_pos (Nat.ble_eq_true_of_le (by rw [hsz]; rw [hlsz]; omega)), if_pos rfl]
      congr 3
    · have ht : Int.tmod (n : Int) 10 = ((n % 10 : Nat) : Int) := by rw [Int.tmod_eq_emod_of_nonneg (by omega)]; omega
      have hd : Int.tdiv (n : Int) 10 = ((n / 10 : Nat) : Int) := by rw [Int.tdiv_eq_ediv_of_nonneg (by omega)]; omega
      have hm := Nat.mod_lt n (show 0 < 10 by decide)
      have hS : uY7 (.start ((n % 10 : Nat) : Int)) = some ((((n % 10 : Nat) : Int), ()), ()) := by
        rw [uY7, wrap_i64 (x := 0 - ((n % 10 : Nat) : Int)) (by omega) (by omega), if_neg (by omega)]
      rw [if_pos (by simp only [bne_iff_ne]; omega), if_pos (by decide), ht, hS]
      simp only [ua1]
      rw [wrap_i64 (x := 48 + ((n % 10 : Nat) : Int)) (by omega) (by omega), uZ6 (x := 48 + ((n % 10 : Nat) : Int)) (by omega) (by omega)]
      have eb : ug2 ([48 + ((n % 10 : Nat) : Int)] : List Int) = ⟨[UInt8.ofNat (48 + n % 10)].toArray⟩ := by
        unfold ug2
        simp only [List.map_cons, List.map_nil]
        rw [show (48 + ((n % 10 : Nat) : Int)).toNat = 48 + n % 10 by omega]
      have ea : (⟨[UInt8.ofNat (48 + n % 10)].toArray⟩ : ByteArray) ++ ⟨l.toArray⟩ = ⟨(UInt8.ofNat (48 + n % 10) :: l).toArray⟩ := ue3 (by simp)
      rw [eb, ea, if_pos (Nat.ble_eq_true_of_le (by rw [hlsz, hlsz]; simp; omega)), if_pos (by decide), hd, wrap_i64 (x := ((n / 10 : Nat) : Int)) (by omega) (by omega), ih (n / 10) (by omega) (by omega) _ (by simp; omega), if_neg h0]
      conv => rhs; rw [Lib.decDigits]
      by_cases h10 : n < 10
      · rw [dif_pos h10, if_pos (by omega), Nat.mod_eq_of_lt h10]
        rfl
      · rw [dif_neg h10, if_neg (by omega), List.append_assoc]
        rfl
theorem vh6 {n : Nat} (hn : n < 100000) : uk6 (.start (n : Int)) = some ((deci (n : Int), ()), ()) := by
  have hd : deci (n : Int) = ⟨(Lib.decDigits n).toArray⟩ := ue3 (by
    rw [ui6]
    unfold Lib.itoa
    rw [if_neg (by omega), Int.toNat_natCast])
  rw [uk6]
  by_cases h0 : n = 0
  · subst h0
    rw [if_pos (by decide), hd, Lib.decDigits, dif_pos (by decide)]
    rfl
  · rw [if_neg (by simp only [beq_iff_eq]; omega), if_neg (by simp only [decide_eq_true_eq]; omega), uk6]
    have := uZ7 n hn [] (by simp; omega)
    rw [if_neg h0, List.append_nil] at this
    rw [hd]
    exact this
def ok5 (s : ByteArray) : Bool := uo1 s && decide (s.size ≤ 5)
theorem uL7 {s : ByteArray} (h : ok5 s = true) : uo1 s = true := by unfold ok5 at h; simp at h; exact h.1
theorem vs5 {s : ByteArray} (h : uo1 s = false) : ok5 s = false := by unfold ok5; rw [h]; rfl
theorem vD5 {n : Int} (h : 0 ≤ n) : uw6 (bt (deci n) 0) = true := by
  obtain ⟨u, rfl⟩ := Int.eq_ofNat_of_zero_le h
  have hd : ∀ u : Nat, ∃ c r, Lib.decDigits u = c :: r ∧ 48 ≤ c.toNat ∧ c.toNat ≤ 57 := by
    intro u
    induction u using Nat.strongRecOn with
    | ind u ih =>
      rw [Lib.decDigits]
      split
      · refine ⟨_, _, rfl, ?_, ?_⟩ <;> (rw [UInt8.toNat_ofNat']; omega)
      · obtain ⟨c, r, e, h1, h2⟩ := ih (u / 10) (by omega)
        rw [e]
        exact ⟨c, _, rfl, h1, h2⟩
  obtain ⟨c, r, e, h1, h2⟩ := hd u
  have : bt (deci (u : Int)) 0 = (c.toNat : Int) := uJ5 (by
    rw [ui6]
    show (Lib.itoa ((u : Nat) : Int))[0]? = _
    rw [Lib.itoa_nonneg, e]; rfl)
  show uw6 (bt (deci (u : Int)) 0) = true
  rw [this]
  unfold uw6
  simp
  omega
theorem v88 (s : ByteArray) (hs : s.size ≤ 60010) : ∃ x ok, uc6 (.start s 5) = some ((x, (ok, ())), ()) ∧ (ok && decide (0 ≤ x)) = ok5 s ∧ (ok5 s = true → x = natN s) := by
  have no : uo1 s = false → ∀ r, r = some (((0 : Int), (false, ())), ()) → ∃ x ok, r = some ((x, (ok, ())), ()) ∧ (ok && decide (0 ≤ x)) = ok5 s ∧ (ok5 s = true → x = natN s) := by
    rintro hn r rfl
    rw [vs5 hn]
    exact ⟨0, false, rfl, rfl, fun h => by cases h⟩
  by_cases h0 : s.size = 0
  · have hn : uo1 s = false := um2 (by
      unfold bt
      rw [List.getD, List.getElem?_eq_none (by rw [uf8]; omega)]
      rfl)
    rw [uc6, if_neg (by rw [h0]; decide), uc6, if_pos (by rw [h0]; decide)]
    exact no hn _ rfl
  have hpos : 0 < s.size := by omega
  obtain ⟨c, h1, h2, h3⟩ := uy0 hpos
  rw [List.drop_zero] at h3
  rw [uc6, if_pos (by simp; omega), show (0 : Int) = ((0 : Nat) : Int) from rfl, ue5 hpos]
  simp only [ua1, h2]
  have z0 : ((0 : Nat) : Int) = 0 := rfl
  have z1 : ((1 : Nat) : Int) = 1 := rfl
  by_cases hm : c.toNat = 45
  · have hn : uo1 s = false := um2 (by rw [h2, hm]; rfl)
    rw [if_pos (by simp; omega)]
    rw [uc6]
    by_cases hs1 : s.size = 1
    · rw [if_pos (by simp; omega)]
      exact no hn _ rfl
    · rw [if_neg (by simp; omega), wrap_i64 (x := (s.size : Int) - 1) (by omega) (by omega)]
      by_cases hs10 : 6 < s.size
      · rw [if_pos (by simp; omega)]
        exact no hn _ rfl
      · obtain ⟨c1, g1, g2, g3⟩ := uy0 (s := s) (i := 1) (by omega)
        rw [if_neg (by simp; omega), ← z1, ue5 (by omega)]
        simp only [ua1, g2]
        by_cases hz : c1.toNat = 48
        · rw [if_pos (by simp; omega), if_pos (by simp; omega)]
          exact no hn _ rfl
        · rw [if_neg (by simp; omega), uc6]
          have := vf6 (s := s) (by omega) 1 (s.size - 1) 1 0 (by omega) (by decide)
          rw [z0] at this
          rw [z1, ← z1] at this ⊢
          rw [z0]
          rw [this, g3]
          simp only [Lib.decFrom]
          cases hd : Lib.digitVal c1 with
          | none => exact no hn _ rfl
          | some d =>
            obtain ⟨d0, d1, d2⟩ := uh9.1 hd
            cases hf : Lib.decFrom (0 * 10 + d) (s.data.toList.drop (1 + 1)) with
            | none => exact no hn _ (by simp only [hf])
            | some m =>
              have := uQ5 _ _ _ hf
              refine ⟨-(m : Int), true, ?_, ?_, fun h => by rw [vs5 hn] at h; cases h⟩
              · simp only [hf, if_true]
              · rw [vs5 hn]
                simp
                omega
  · rw [if_neg (by simp; omega), uc6, if_neg (show ¬ ((s.size : Int) == ((0 : Nat) : Int)) = true by simp only [beq_iff_eq]; omega), wrap_i64 (x := (s.size : Int) - ((0 : Nat) : Int)) (by omega) (by omega)]
    by_cases hs9 : 5 < s.size
    · rw [if_pos (by simp; omega)]
      have : ok5 s = false := by unfold ok5; simp; omega
      rw [this]
      exact ⟨0, false, rfl, rfl, fun h => by cases h⟩
    · rw [if_neg (by simp; omega), ← z0, ue5 hpos]
      simp only [ua1, h2]
      by_cases hz : c.toNat = 48 ∧ 1 < s.size
      · have hn : uo1 s = false := by
          cases hk : uo1 s with
          | false => rfl
          | true =>
            have k1 := (uo9 hk).1
            have k2 := congrArg (fun b : ByteArray => b.data.toList) k1
            simp only [ui6] at k2
            have k3 : Lib.itoa (natN s) = Lib.decDigits (natN s).toNat := by
              unfold Lib.itoa
              rw [if_neg (by have := u73 hk; omega)]
            rw [k3, h3] at k2
            have k4 := (vW6 _ _ _ k2 (UInt8.toNat_inj.1 hz.1)).2
            have k5 := congrArg List.length k4
            rw [List.length_drop, uf8] at k5
            simp at k5
            omega
        rw [if_pos (by simp; omega), if_pos (by simp; omega)]
        exact no hn _ rfl
      · have step : (if (((c.toNat : Int)) == (48 : Int)) = true then (if (decide ((s.size : Int) > (1 : Int))) = true then some (((0 : Int), (false, ())), ()) else uc6 (.p31 s ((0 : Nat) : Int))) else uc6 (.p31 s ((0 : Nat) : Int))) = uc6 (.p31 s ((0 : Nat) : Int)) := by
          by_cases h48 : c.toNat = 48
          · rw [if_pos (by simp; omega), if_neg (by simp; omega)]
          · rw [if_neg (by simp; omega)]
        have hl := vf6 (s := s) (by omega) 0 s.size 0 0 (by omega) (by decide)
        rw [z0] at hl step ⊢
        rw [step, uc6, hl, List.drop_zero]
        have hat : ∀ m, Lib.decFrom 0 s.data.toList = some m → uo1 s = true ∧ natN s = (m : Int) := by
          intro m hf
          have hne : s.data.toList ≠ [] := by rw [h3]; exact List.cons_ne_nil _ _
          have hcan : s.data.toList = [48] ∨ ∀ r, s.data.toList ≠ 48 :: r := by
            by_cases h48 : c.toNat = 48
            · refine .inl ?_
              rw [h3, UInt8.toNat_inj.1 (show c.toNat = (48 : UInt8).toNat from h48), List.drop_eq_nil_of_le (by rw [uf8]; omega)]
            · refine .inr fun r hr => h48 ?_
              rw [h3] at hr
              have : c = 48 := by injection hr
              rw [this]; rfl
          have hdd := vW8 _ _ m rfl hf hne hcan
          have hdig : uw6 (bt s 0) = true := by
            rw [h3] at hf
            simp only [Lib.decFrom] at hf
            cases hd : Lib.digitVal c with
            | none => rw [hd] at hf; cases hf
            | some d =>
              obtain ⟨d0, d1, d2⟩ := uh9.1 hd
              rw [h2]
              unfold uw6
              simp
              omega
          have hc45 : (c == 45) = false := beq_eq_false_iff_ne.2 fun h => hm (by rw [h]; rfl)
          have hc43 : (c == 43) = false := beq_eq_false_iff_ne.2 fun h => by
            rw [h2, h] at hdig
            exact absurd hdig (by decide)
          have hat : Lib.atoi s.data.toList = some (m : Int) := by
            rw [h3]
            simp only [Lib.atoi, hc45, hc43, Bool.false_eq_true, if_false]
            rw [← h3]
            unfold Lib.decNat
            rw [if_neg (by rw [h3]; exact Bool.false_ne_true), hf]
            rfl
          have hN : ui9 s = ((m : Int), false) := by rw [up5 (by omega), hat]
          have hnn : natN s = (m : Int) := by unfold natN; rw [hN]
          refine ⟨?_, hnn⟩
          unfold uo1
          rw [hN, hnn, hdig]
          have hdc : deci (m : Int) = s := ue3 (by
            rw [ui6]
            unfold Lib.itoa
            rw [if_neg (by omega), Int.toNat_natCast]
            exact hdd)
          rw [hdc, uw3]
          simp
          omega
        cases hf : Lib.decFrom 0 s.data.toList with
        | some m =>
          obtain ⟨a1, a2⟩ := hat m hf
          simp only []
          rw [if_neg (show ¬ (0 : Int) = 1 by decide)]
          have : ok5 s = true := by unfold ok5; rw [a1]; simp; omega
          rw [this]
          exact ⟨(m : Int), true, rfl, by simp, fun _ => a2.symm⟩
        | none =>
          have hn : uo1 s = false := by
            by_cases hdig : uw6 (bt s 0) = true
            · have hc45 : (c == 45) = false := beq_eq_false_iff_ne.2 fun h => hm (by rw [h]; rfl)
              have hc43 : (c == 43) = false := beq_eq_false_iff_ne.2 fun h => by
                rw [h2, h] at hdig
                exact absurd hdig (by decide)
              have hat : Lib.atoi s.data.toList = none := by
                rw [h3]
                simp only [Lib.atoi, hc45, hc43, Bool.false_eq_true, if_false]
                rw [← h3]
                unfold Lib.decNat
                rw [if_neg (by rw [h3]; exact Bool.false_ne_true), hf]
                rfl
              have hN : ui9 s = (0, true) := by rw [up5 (by omega), hat]
              unfold uo1
              rw [hN]
              rfl
            · exact um2 (by simpa using hdig)
          exact no hn _ rfl
open Go.Proofs.YtaennkkcnhfglaaGreatDoor.Ev
abbrev sgns : ByteArray := ⟨#[40, 44, 41]⟩
abbrev sgL : List UInt8 := [40, 44, 41]
theorem u13 {s : ByteArray} {i : Nat} (h : i < s.size) : ((s.get! i).toNat : Int) = bt s i := by
  unfold bt
  rw [List.getD, List.getElem?_eq_getElem (by rw [uf8]; exact h)]
  have h' : i < s.data.size := h
  show ((s.data[i]!).toNat : Int) = _
  rw [getElem!_pos s.data i h']
  simp
theorem vj8 (n b0 b1 b2 b3 : Nat) (hn : 1 ≤ n) (h0 : 128 ≤ b0) : 128 ≤ (Lib.decodeN n b0 b1 b2 b3).1 ∧ 1 ≤ (Lib.decodeN n b0 b1 b2 b3).2 ∧ (Lib.decodeN n b0 b1 b2 b3).2 ≤ n ∧ (1 < (Lib.decodeN n b0 b1 b2 b3).2 → b1 / 64 = 2) ∧ (2 < (Lib.decodeN n b0 b1 b2 b3).2 → b2 / 64 = 2) ∧ (3 < (Lib.decodeN n b0 b1 b2 b3).2 → b3 / 64 = 2) ∧ (Lib.decodeN n b0 b1 b2 b3).2 ≤ 4 := by
  unfold Lib.decodeN
  rw [if_neg (by omega)]
  repeat' split
  all_goals (simp only; refine ⟨by omega, by omega, by omega, ?_, ?_, ?_, by omega⟩ <;> intro h <;> omega)
theorem vX0 {s : ByteArray} {i : Nat} (h : i < s.size) (h1 : bt s i < 128) : Utf8.decode s i = ((bt s i).toNat, 1) := by
  have e := u13 h
  rw [Lib.decode_at]
  unfold Lib.decodeN
  rw [if_pos (by omega)]
  congr 1; omega
theorem vW9 {s : ByteArray} {i : Nat} (h : i < s.size) (h1 : 128 ≤ bt s i) : 128 ≤ (Utf8.decode s i).1 ∧ 1 ≤ (Utf8.decode s i).2 ∧ i + (Utf8.decode s i).2 ≤ s.size ∧ ∀ k, k < (Utf8.decode s i).2 → 128 ≤ bt s (i + k) := by
  have e := u13 h
  rw [Lib.decode_at]
  obtain ⟨d1, d2, d3, d4, d5, d6, d7⟩ := vj8 (s.size - i) (s.get! i).toNat (s.get! (i + 1)).toNat (s.get! (i + 2)).toNat (s.get! (i + 3)).toNat (by omega) (by omega)
  refine ⟨d1, d2, by omega, fun k hk => ?_⟩
  rcases (show k = 0 ∨ k = 1 ∨ k = 2 ∨ k = 3 by omega) with rfl | rfl | rfl | rfl
  · exact h1
  · rw [← u13 (by omega)]; have := d4 hk; omega
  · rw [← u13 (by omega)]; have := d5 hk; omega
  · rw [← u13 (by omega)]; have := d6 hk; omega
theorem v83 : ∀ n : Nat, n < 256 → decide (firstIdx sgns n.toUInt8 ≥ 0) = sgL.contains n.toUInt8 := by decide +kernel
theorem ib_2 : ∀ n : Nat, n < 256 → 128 ≤ n → firstIdx (sgns.extract 2 3) n.toUInt8 = -1 := by decide +kernel
theorem ib_3 : ∀ n : Nat, n < 256 → 128 ≤ n → firstIdx (sgns.extract 3 3) n.toUInt8 = -1 := by decide +kernel
theorem rib (s : ByteArray) (c : Int) : uN7 (.start s c) = some ((firstIdx s c.toNat.toUInt8, ()), ()) := by
  rw [uN7, vc5]
  rfl
theorem vR4 {c : Nat} (h : c < 128) : uc0 (.start sgns (c : Int)) = some ((firstIdx sgns c.toUInt8, ()), ()) := by
  rw [uc0, if_pos (by simp), uc0, if_pos (by simp; omega), uZ6 (by omega) (by omega), rib]
  rfl
theorem vm6 (c : Nat) : ∃ b, uv0 (.start (c : Int)) = some ((b, ()), ()) ∧ (b = true → Utf8.valid (c : Int) = true) := by
  rw [uv0, if_pos (by simp), uv0]
  by_cases h1 : (c : Int) < 55296
  · rw [decide_eq_true h1, if_pos rfl]
    exact ⟨true, rfl, fun _ => by unfold Utf8.valid; simp; omega⟩
  · rw [decide_eq_false h1, if_neg (by simp)]
    by_cases h2 : (57343 : Int) < c
    · rw [if_pos (by simpa using h2)]
      by_cases h3 : (c : Int) ≤ 1114111
      · rw [if_pos (by simpa using h3)]
        exact ⟨true, rfl, fun _ => by unfold Utf8.valid; simp; omega⟩
      · rw [if_neg (by simpa using h3)]
        exact ⟨false, rfl, fun h => by cases h⟩
    · rw [if_neg (by simpa using h2)]
      exact ⟨false, rfl, fun h => by cases h⟩
theorem vX1 {c : Nat} (h : 128 ≤ c) (hv : Utf8.valid (c : Int) = true) : ∃ k, (Utf8.encode (c : Int)).size = k + 1 ∧ 1 ≤ k ∧ k ≤ 3 ∧ 128 ≤ bt (Utf8.encode (c : Int)) k := by
  have hb : ∀ n : Nat, n < 64 → (128 : Int) ≤ ((UInt8.ofNat (128 + n)).toNat : Int) := by
    intro n hn
    rw [UInt8.toNat_ofNat']
    omega
  unfold Utf8.encode
  rw [if_pos hv, Int.toNat_natCast]
  simp only
  rw [if_neg (by omega)]
  by_cases h1 : c < 2048
  · rw [if_pos h1]
    exact ⟨1, rfl, by omega, by omega, hb (c % 64) (by omega)⟩
  · rw [if_neg h1]
    by_cases h2 : c < 65536
    · rw [if_pos h2]
      exact ⟨2, rfl, by omega, by omega, hb (c % 64) (by omega)⟩
    · rw [if_neg h2]
      exact ⟨3, rfl, by omega, by omega, hb (c % 64) (by omega)⟩
theorem v00 : Utf8.decode sgns 0 = (40, 1) ∧ Utf8.decode sgns 1 = (44, 1) ∧ Utf8.decode sgns 2 = (41, 1) := by decide +kernel
theorem vZ8 : bt sgns 1 = 44 := by decide +kernel
theorem vZ9 : bt sgns 2 = 41 := by decide +kernel
theorem vE9 : uc0 (.p1764 sgns 0) = some (((-1 : Int), ()), ()) := by
  obtain ⟨d0, d1, d2⟩ := v00
  have n : ∀ k : Nat, k < 100 → ¬ (((k : Nat) : Int) == (65533 : Int)) = true := fun k hk h => by have := beq_iff_eq.1 h; omega
  rw [uc0, if_pos (by decide), d0, if_neg (n 40 (by decide))]
  show uc0 (.p1764 sgns 1) = _
  rw [uc0, if_pos (by decide), d1, if_neg (n 44 (by decide))]
  show uc0 (.p1764 sgns 2) = _
  rw [uc0, if_pos (by decide), d2, if_neg (n 41 (by decide))]
  show uc0 (.p1764 sgns 3) = _
  rw [uc0, if_neg (by decide)]
theorem vZ4 {rs : ByteArray} {k : Nat} (hk : rs.size = k + 1) (k1 : 1 ≤ k) (k3 : k ≤ 3) (hk2 : 128 ≤ bt rs k) : uc0 (.p114552 sgns rs (k : Int) (k : Int)) = some (((-1 : Int), ()), ()) := by
  have hsz : sgns.size = 3 := rfl
  have hbk := v06 rs k
  have hn1 : (bt rs k).toNat < 256 := by omega
  have hn2 : 128 ≤ (bt rs k).toNat := by omega
  rw [uc0]
  rcases (show k = 1 ∨ k = 2 ∨ k = 3 by omega) with rfl | rfl | rfl
  · rw [if_pos (by decide), ue5 (by rw [hsz]; omega), ue5 (by omega)]
    simp only [ua1]
    rw [if_pos (by rw [vZ8]; simp; omega), show ((1 : Nat) : Int) + 1 = ((2 : Nat) : Int) by rfl, wrap_i64 (by omega) (by omega), us7 (by rw [hsz]; omega) (Nat.le_refl _)]
    simp only [ua1, rib, hsz, ib_2 _ hn1 hn2]
    rfl
  · rw [if_pos (by decide), ue5 (by rw [hsz]; omega), ue5 (by omega)]
    simp only [ua1]
    rw [if_pos (by rw [vZ9]; simp; omega), show ((2 : Nat) : Int) + 1 = ((3 : Nat) : Int) by rfl, wrap_i64 (by omega) (by omega), us7 (by rw [hsz]; omega) (Nat.le_refl _)]
    simp only [ua1, rib, hsz, ib_3 _ hn1 hn2]
    rfl
  · rw [if_neg (by decide)]
theorem vR3 {c : Nat} (h : 128 ≤ c) : uc0 (.start sgns (c : Int)) = some (((-1 : Int), ()), ()) := by
  have hsz : sgns.size = 3 := rfl
  rw [uc0, if_pos (by simp), uc0, if_neg (by simp; omega)]
  by_cases hE : (c : Int) = 65533
  · rw [if_pos (beq_iff_eq.2 hE)]
    exact vE9
  · rw [if_neg (fun h => hE (beq_iff_eq.1 h))]
    obtain ⟨b, hb, hv⟩ := vm6 c
    rw [hb]
    simp only [ua1]
    cases b with
    | false => rfl
    | true =>
      obtain ⟨k, hk, k1, k3, hk2⟩ := vX1 h (hv rfl)
      simp only [Bool.not_true, Bool.false_eq_true, if_false]
      rw [hk, wrap_i64 (by omega) (by omega), show ((k + 1 : Nat) : Int) - 1 = (k : Int) by omega]
      exact vZ4 hk k1 k3 hk2
theorem vA2 (pre rest chars : List UInt8) (h : ∀ b ∈ pre, chars.contains b = false) : Lib.indexAny (pre ++ rest) chars = if Lib.indexAny rest chars = -1 then -1 else (pre.length : Int) + Lib.indexAny rest chars := by
  induction pre with
  | nil =>
    by_cases h1 : Lib.indexAny rest chars = -1
    · rw [if_pos h1]; exact h1
    · rw [if_neg h1]; simp
  | cons b pre ih =>
    have hg := Lib.indexAny_ge chars rest
    rw [List.cons_append, Lib.indexAny, h b (List.mem_cons_self ..), ih fun c hc => h c (List.mem_cons_of_mem _ hc)]
    simp only [Bool.false_eq_true, if_false]
    by_cases h1 : Lib.indexAny rest chars = -1
    · simp [h1]
    · rw [if_neg h1, if_neg h1, if_neg (by simp; omega)]
      simp only [List.length_cons]
      omega
theorem vt9 (s : ByteArray) (hs : s.size ≤ 1000) : ∀ n i, i ≤ s.size → s.size - i ≤ n → ui8 (.p500 sgns s i) = some (((if Lib.indexAny (s.data.toList.drop i) sgL = -1 then (-1 : Int) else (i : Int) + Lib.indexAny (s.data.toList.drop i) sgL), ()), ()) := by
  intro n
  induction n with
  | zero =>
    intro i h1 h2
    rw [ui8, if_neg (by simp; omega), List.drop_eq_nil_of_le (by rw [uf8]; omega)]
    rfl
  | succ n ih =>
    intro i h1 h2
    by_cases hi : i < s.size
    · rw [ui8, if_pos (by simpa using hi)]
      by_cases hb : bt s i < 128
      · have h0 := bt_0 s i
        rw [vX0 hi hb]
        simp only
        rw [vR4 (by omega)]
        simp only [ua1]
        obtain ⟨c, e1, e2, e3⟩ := uy0 hi
        have hc : (bt s i).toNat.toUInt8 = c := by rw [e2]; simp
        rw [v83 _ (by omega), hc, e3, Lib.indexAny]
        cases hin : sgL.contains c with
        | true => simp
        | false =>
          have hg := Lib.indexAny_ge sgL (s.data.toList.drop (i + 1))
          simp only [Bool.false_eq_true, if_false, ih (i + 1) (by omega) (by omega)]
          by_cases h3 : Lib.indexAny (s.data.toList.drop (i + 1)) sgL = -1
          · simp [h3]
          · have e4 : (if (Lib.indexAny (s.data.toList.drop (i + 1)) sgL == -1) = true then (-1 : Int) else Lib.indexAny (s.data.toList.drop (i + 1)) sgL + 1) = Lib.indexAny (s.data.toList.drop (i + 1)) sgL + 1 := if_neg (by simpa using h3)
            rw [e4, if_neg h3, if_neg (by omega)]
            congr 3
            omega
      · obtain ⟨d1, d2, d3, d4⟩ := vW9 hi (by omega)
        rw [vR3 d1]
        simp only [ua1]
        rw [if_neg (by decide), ih _ d3 (by omega)]
        generalize (Utf8.decode s i).2 = w at d2 d3 d4
        have hsp : s.data.toList.drop i = (s.data.toList.drop i).take w ++ s.data.toList.drop (i + w) := by
          rw [← List.drop_drop, List.take_append_drop]
        have hlen : ((s.data.toList.drop i).take w).length = w := by
          rw [List.length_take, List.length_drop, uf8]; omega
        have hno : ∀ b ∈ (s.data.toList.drop i).take w, sgL.contains b = false := by
          intro b hb
          obtain ⟨k, hk, e⟩ := List.getElem_of_mem hb
          rw [hlen] at hk
          rw [List.getElem_take, List.getElem_drop] at e
          have h128 := d4 k hk
          have : bt s (i + k) = (b.toNat : Int) := uJ5 (by rw [List.getElem?_eq_getElem (by rw [uf8]; omega), e])
          have hx : ∀ n : Nat, n < 256 → 128 ≤ n → sgL.contains n.toUInt8 = false := by decide +kernel
          have := hx b.toNat b.toNat_lt (by omega)
          simpa using this
        rw [show Lib.indexAny (s.data.toList.drop i) sgL = _ from (congrArg (fun l => Lib.indexAny l sgL) hsp).trans (vA2 _ _ _ hno), hlen]
        have hg := Lib.indexAny_ge sgL (s.data.toList.drop (i + w))
        by_cases h3 : Lib.indexAny (s.data.toList.drop (i + w)) sgL = -1
        · simp [h3]
        · rw [if_neg h3, if_neg h3, if_neg (by omega)]
          congr 3
          omega
    · rw [ui8, if_neg (by simp; omega), List.drop_eq_nil_of_le (by rw [uf8]; omega)]
      rfl
theorem pany (s : ByteArray) (hs : s.size < 4294967281) : uQ2 s sgns (ui8 (.start s sgns)) = some ((Lib.indexAny s.data.toList sgL, ()), ()) := by
  unfold uQ2
  by_cases h : 8 < s.size
  · rw [if_pos ⟨h, hs, by decide, by decide, by decide⟩]
  · rw [if_neg (fun hh => h hh.1), ui8, if_neg (by decide), if_neg (by decide), vc6]
    simp only [ua1]
    rw [if_neg (by simp; omega), ui8]
    have := vt9 s (by omega) s.size 0 (by omega) (by omega)
    rw [List.drop_zero] at this
    rw [this]
    by_cases h1 : Lib.indexAny s.data.toList sgL = -1
    · rw [if_pos h1, h1]
    · rw [if_neg h1]; simp
open Go.Proofs.YtaennkkcnhfglaaGreatDoor.Ev
theorem vW7 : ∀ (k u : Nat), 1 ≤ k → ((Lib.decDigits u).length ≤ k ↔ u < 10 ^ k) := by
  intro k
  induction k with
  | zero => intro u h; omega
  | succ k ih =>
    intro u _
    rw [Lib.decDigits]
    by_cases h : u < 10
    · rw [dif_pos h]
      have : 10 ^ 1 ≤ 10 ^ (k + 1) := Nat.pow_le_pow_right (by decide) (by omega)
      simp
      omega
    · rw [dif_neg h, List.length_append, List.length_singleton]
      by_cases hk : k = 0
      · subst hk
        have : 0 < (Lib.decDigits (u / 10)).length := by rw [Lib.decDigits]; split <;> simp
        omega
      · have := ih (u / 10) (by omega)
        rw [Nat.pow_succ]
        omega
theorem vH3 : ∀ (u : Nat), ∀ c ∈ Lib.decDigits u, 48 ≤ c.toNat ∧ c.toNat ≤ 57 := by
  intro u
  induction u using Nat.strongRecOn with
  | ind u ih =>
    intro c hc
    rw [Lib.decDigits] at hc
    by_cases h : u < 10
    · rw [dif_pos h] at hc
      rw [List.mem_singleton] at hc
      subst hc
      rw [UInt8.toNat_ofNat']; omega
    · rw [dif_neg h] at hc
      rcases List.mem_append.1 hc with hc | hc
      · exact ih (u / 10) (by omega) c hc
      · rw [List.mem_singleton] at hc
        subst hc
        rw [UInt8.toNat_ofNat']; omega
theorem uB0 {n : Nat} {k : Nat} (hk : 1 ≤ k) : (deci (n : Int)).size ≤ k ↔ n < 10 ^ k := by
  rw [← uf8, ui6, Lib.itoa_nonneg]
  exact vW7 k n hk
theorem vV2 {s : ByteArray} {i : Nat} (h : uo1 s = true) (hi : i < s.size) : uw6 (bt s i) = true := by
  have h1 := (uo9 h).1
  obtain ⟨u, hu⟩ := Int.eq_ofNat_of_zero_le (u73 h)
  have h2 : s.data.toList = Lib.decDigits u := by
    have := congrArg (fun b : ByteArray => b.data.toList) h1
    rw [← this, ui6, hu, Lib.itoa_nonneg]
  obtain ⟨c, e1, e2, _⟩ := uy0 hi
  rw [e2]
  have := vH3 u c (by rw [← h2]; exact List.mem_of_getElem? e1)
  unfold uw6
  simp
  omega
def uw7 (c : Int) : Bool := uG4 c || (uw6 c || decide (c = 95))
def uL1 (c : Int) : Bool := decide (c = 40 ∨ c = 44 ∨ c = 41)
theorem rsgn (c : Int) : uY4 (.start c) = some ((uw7 c, ()), ()) := by
  rw [uY4]
  unfold uw7 uG4 uw6
  rw [show (c == (95 : Int)) = decide (c = 95) from rfl]
  simp only [ge_iff_le]
  by_cases h1 : 97 ≤ c <;> by_cases h2 : c ≤ 122 <;> by_cases h3 : 65 ≤ c <;> by_cases h4 : c ≤ 90 <;> by_cases h5 : 48 ≤ c <;> by_cases h6 : c ≤ 57 <;> first | omega | simp [h1, h2, h3, h4, h5, h6]
theorem vt8 {c : Int} (h : uw7 c = true) : uL1 c = false := by
  unfold uw7 uG4 uw6 at h
  unfold uL1
  simp at h ⊢
  omega
theorem uR6 : ∀ (l : List Int) (k : Nat), up0 k l = true → ∀ i c, l[i]? = some c → okC (k + i) c = true := by
  intro l
  induction l with
  | nil => intro k _ i c h; simp at h
  | cons a l ih =>
    intro k h i c hi
    unfold up0 at h
    rw [Bool.and_eq_true] at h
    cases i with
    | zero => simp at hi; subst hi; exact h.1
    | succ i => have := ih (k + 1) h.2 i c (by simpa using hi); rw [show k + (i + 1) = k + 1 + i by omega]; exact this
theorem uO5 {s : ByteArray} {i : Nat} (h : i < s.size) : (ua7 s)[i]? = some (bt s i) := by
  obtain ⟨c, e1, e2, _⟩ := uy0 h
  unfold ua7
  rw [List.getElem?_map, e1, e2]
  rfl
theorem uU9 {s : ByteArray} (h : isN s = true) {i : Nat} (hi : i < s.size) : uw7 (bt s i) = true := by
  unfold isN at h
  rw [Bool.and_eq_true] at h
  have := uR6 _ _ h.2 i _ (uO5 hi)
  unfold okC at this
  unfold uw7 uw6
  rw [Bool.or_eq_true, Bool.and_eq_true, Bool.or_eq_true] at this
  rw [Bool.or_eq_true, Bool.or_eq_true]
  rcases this with h | ⟨_, h | h⟩
  · exact .inl h
  · exact .inr (.inr h)
  · exact .inr (.inl h)
theorem uo8 {s : ByteArray} (h : isN s = true) : uG4 (bt s 0) = true ∧ 0 < s.size ∧ s.size ≤ 16 := by
  unfold isN at h
  rw [Bool.and_eq_true] at h
  have hs := of_decide_eq_true h.1
  have := uR6 _ _ h.2 0 _ (uO5 (by omega))
  unfold okC at this
  simp at this
  exact ⟨this, hs⟩
theorem uL5 {s : ByteArray} (h : isN s = true) : (ui9 s).2 = true := by
  obtain ⟨h1, h2, h3⟩ := uo8 h
  obtain ⟨c, e1, e2, e3⟩ := uy0 h2
  rw [List.drop_zero] at e3
  rw [up5 (by omega), e3]
  rw [e2] at h1
  unfold uG4 at h1
  simp at h1
  have hc45 : (c == 45) = false := beq_eq_false_iff_ne.2 fun h => by rw [h] at h1; exact absurd h1 (by decide)
  have hc43 : (c == 43) = false := beq_eq_false_iff_ne.2 fun h => by rw [h] at h1; exact absurd h1 (by decide)
  have hd : Lib.digitVal c = none := up7.2 (by omega)
  simp only [Lib.atoi, hc45, hc43, Bool.false_eq_true, if_false, Lib.decNat, List.isEmpty_cons, Lib.decFrom, hd]
  rfl
theorem vs4 {s : ByteArray} (h : (ui9 s).2 = false) : ok5 s = (seq (deci (natN s)) s && decide (0 ≤ natN s ∧ natN s ≤ 99999)) := by
  rw [Bool.eq_iff_iff]
  constructor
  · intro h1
    have h2 := uL7 h1
    obtain ⟨g1, g2, g3⟩ := uo9 h2
    obtain ⟨u, hu⟩ := Int.eq_ofNat_of_zero_le (u73 h2)
    unfold ok5 at h1
    simp at h1
    have : u < 10 ^ 5 := (uB0 (n := u) (by decide)).1 (by rw [← hu, g1]; exact h1.2)
    rw [g1, uw3]
    simp
    omega
  · intro h1
    rw [Bool.and_eq_true] at h1
    obtain ⟨g1, g2⟩ := h1
    have g2 := of_decide_eq_true g2
    obtain ⟨u, hu⟩ := Int.eq_ofNat_of_zero_le g2.1
    have : (deci (u : Int)).size ≤ 5 := (uB0 (by decide)).2 (by omega)
    have e := uF4.1 g1
    have hd : uw6 (bt s 0) = true := by rw [← e]; exact vD5 g2.1
    have hs : s.size ≤ 5 := by rw [← e, hu]; exact this
    unfold ok5 uo1
    rw [h, e, uw3, hd]
    simp
    omega
theorem u74 {s : ByteArray} (h : ok5 s = true) : isN s = false := by
  cases hn : isN s with
  | false => rfl
  | true => have := vf4 (uL7 h); rw [uL5 hn] at this; cases this
theorem vs6 {s : ByteArray} (h : ok5 s = true) {i : Nat} (hi : i < s.size) : uw7 (bt s i) = true := by
  unfold uw7; rw [vV2 (uL7 h) hi]; simp
theorem vQ6 {s : ByteArray} (h : ok5 s = true) : 0 < s.size := by
  have := (uo9 (uL7 h)).1
  rw [← this]; exact ve8 _
theorem uI0 (s : ByteArray) (i j : Nat) : (s.extract i j).data.toList = (s.data.toList.take j).drop i := by
  simp [ByteArray.data_extract, List.extract_eq_take_drop, List.drop_take]
theorem vV3 {a b : ByteArray} {i j : Nat} (h : a.data.toList[i]? = b.data.toList[j]?) : bt a i = bt b j := by
  unfold bt; rw [List.getD_eq_getElem?_getD, List.getD_eq_getElem?_getD, h]
def suf (s : ByteArray) (p : Nat) : ByteArray := s.extract p s.size
theorem ul5 (s : ByteArray) (p : Nat) : (suf s p).data.toList = s.data.toList.drop p := by
  unfold suf; rw [uI0, List.take_of_length_le (by rw [uf8]; exact Nat.le_refl _)]
theorem ug4 (s : ByteArray) {p : Nat} (h : p ≤ s.size) : (suf s p).size = s.size - p := by
  rw [← uf8, ul5, List.length_drop, uf8]
theorem u49 (s : ByteArray) (p i : Nat) : bt (suf s p) i = bt s (p + i) := vV3 (by rw [ul5, List.getElem?_drop])
theorem vd3 (s : ByteArray) {p k : Nat} (h : p ≤ s.size) : (suf s p).extract k (suf s p).size = suf s (p + k) :=
  ue3 (by rw [← suf, ul5, ul5, ul5, List.drop_drop])
theorem vG3 (s : ByteArray) {p k : Nat} (h : p + k ≤ s.size) : (suf s p).extract 0 k = s.extract p (p + k) :=
  ue3 (by rw [uI0, uI0, ul5, List.drop_zero, List.drop_take, show p + k - p = k by omega])
theorem vh1 (s : ByteArray) : suf s 0 = s := ue3 (by rw [ul5, List.drop_zero])
theorem cutp (s p : ByteArray) : uv1 (.start s p) = some ((if p.size ≤ s.size ∧ s.extract 0 p.size = p then (s.extract p.size s.size, (true, ())) else (s, (false, ())), ())) := by
  rw [uv1, vc8, vc7]
  by_cases h : p.size ≤ s.size
  · rw [if_pos (by simpa using h), show (0 : Int) = ((0 : Nat) : Int) from rfl, us7 (by omega) h]
    simp only [ua1]
    by_cases h2 : s.extract 0 p.size = p
    · rw [h2, uw3, if_neg (show ¬ (!true) = true by decide), us7 h (Nat.le_refl _), if_pos ⟨h, rfl⟩]
      rfl
    · have : seq (s.extract 0 p.size) p = false := by
        cases hb : seq (s.extract 0 p.size) p with
        | false => rfl
        | true => exact absurd (uF4.1 hb) h2
      rw [this, if_pos (show (!false) = true by decide), if_neg (fun hh => h2 hh.2)]
      rfl
  · rw [if_neg (by simpa using h), if_neg (fun hh => h hh.1)]
    rfl
theorem pre1 {s : ByteArray} {p : Nat} (hp : p ≤ s.size) (c : UInt8) : ((⟨#[c]⟩ : ByteArray).size ≤ (suf s p).size ∧ (suf s p).extract 0 (⟨#[c]⟩ : ByteArray).size = ⟨#[c]⟩) ↔ (p < s.size ∧ bt s p = (c.toNat : Int)) := by
  have h1 : (⟨#[c]⟩ : ByteArray).size = 1 := rfl
  rw [h1, ug4 s hp]
  constructor
  · rintro ⟨a, b⟩
    refine ⟨by omega, ?_⟩
    have : bt ((suf s p).extract 0 1) 0 = (c.toNat : Int) := by rw [b]; rfl
    rw [u05 _ (by rw [ug4 s hp]; omega) (by decide), u49] at this
    exact this
  · rintro ⟨a, b⟩
    refine ⟨by omega, vH4 (by rw [un7 _ (by omega) (by rw [ug4 s hp]; omega)]; rfl) fun i hi => ?_⟩
    rw [un7 _ (by omega) (by rw [ug4 s hp]; omega)] at hi
    obtain rfl : i = 0 := by omega
    rw [u05 _ (by rw [ug4 s hp]; omega) (by decide), u49]
    exact b
theorem pre2 {s : ByteArray} {p : Nat} (hp : p ≤ s.size) (c d : UInt8) : ((⟨#[c, d]⟩ : ByteArray).size ≤ (suf s p).size ∧ (suf s p).extract 0 (⟨#[c, d]⟩ : ByteArray).size = ⟨#[c, d]⟩) ↔ (p + 1 < s.size ∧ bt s p = (c.toNat : Int) ∧ bt s (p + 1) = (d.toNat : Int)) := by
  have h1 : (⟨#[c, d]⟩ : ByteArray).size = 2 := rfl
  rw [h1, ug4 s hp]
  constructor
  · rintro ⟨a, b⟩
    have hb : ∀ i, i < 2 → bt s (p + i) = bt (⟨#[c, d]⟩ : ByteArray) i := fun i hi => by
      rw [← b, u05 _ (by rw [ug4 s hp]; omega) (by omega), u49, Nat.zero_add]
    exact ⟨by omega, hb 0 (by decide), hb 1 (by decide)⟩
  · rintro ⟨a, b, e⟩
    refine ⟨by omega, vH4 (by rw [un7 _ (by omega) (by rw [ug4 s hp]; omega)]; rfl) fun i hi => ?_⟩
    rw [un7 _ (by omega) (by rw [ug4 s hp]; omega)] at hi
    rw [u05 _ (by rw [ug4 s hp]; omega) (by omega), u49, Nat.zero_add]
    rcases (show i = 0 ∨ i = 1 by omega) with rfl | rfl
    · exact b
    · exact e
theorem cut1 {s : ByteArray} {p : Nat} (hp : p ≤ s.size) (c : UInt8) : uv1 (.start (suf s p) ⟨#[c]⟩) = some ((if p < s.size ∧ bt s p = (c.toNat : Int) then (suf s (p + 1), (true, ())) else (suf s p, (false, ())), ())) := by
  rw [cutp]
  by_cases h : p < s.size ∧ bt s p = (c.toNat : Int)
  · rw [if_pos ((pre1 hp c).2 h), if_pos h, vd3 s hp]; rfl
  · rw [if_neg (fun hh => h ((pre1 hp c).1 hh)), if_neg h]
theorem cut2 {s : ByteArray} {p : Nat} (hp : p ≤ s.size) (c d : UInt8) : uv1 (.start (suf s p) ⟨#[c, d]⟩) = some ((if p + 1 < s.size ∧ bt s p = (c.toNat : Int) ∧ bt s (p + 1) = (d.toNat : Int) then (suf s (p + 2), (true, ())) else (suf s p, (false, ())), ())) := by
  rw [cutp]
  by_cases h : p + 1 < s.size ∧ bt s p = (c.toNat : Int) ∧ bt s (p + 1) = (d.toNat : Int)
  · rw [if_pos ((pre2 hp c d).2 h), if_pos h, vd3 s hp]; rfl
  · rw [if_neg (fun hh => h ((pre2 hp c d).1 hh)), if_neg h]
open Go.Proofs.YtaennkkcnhfglaaGreatDoor.Ev
theorem ut7 (b : UInt8) : sgL.contains b = uL1 (b.toNat : Int) := by
  have h : ∀ n : Nat, n < 256 → sgL.contains n.toUInt8 = uL1 (n : Int) := by decide +kernel
  have := h b.toNat b.toNat_lt
  simpa using this
theorem vo1 : ∀ l : List UInt8, (Lib.indexAny l sgL = -1 ∧ ∀ (i : Nat) b, l[i]? = some b → sgL.contains b = false) ∨ ∃ (j : Nat) (b : UInt8), Lib.indexAny l sgL = (j : Int) ∧ l[j]? = some b ∧ sgL.contains b = true ∧ ∀ (i : Nat) b, i < j → l[i]? = some b → sgL.contains b = false := by
  intro l
  induction l with
  | nil => exact .inl ⟨rfl, fun i b h => by simp at h⟩
  | cons a l ih =>
    rw [Lib.indexAny]
    cases ha : sgL.contains a with
    | true => exact .inr ⟨0, a, by simp, rfl, ha, fun i b h => absurd h (Nat.not_lt_zero _)⟩
    | false =>
      simp only [Bool.false_eq_true, if_false]
      rcases ih with ⟨h1, h2⟩ | ⟨j, b, h1, h2, h3, h4⟩
      · refine .inl ⟨by rw [h1]; rfl, fun i b h => ?_⟩
        cases i with
        | zero => simp at h; subst h; exact ha
        | succ i => exact h2 i b (by simpa using h)
      · refine .inr ⟨j + 1, b, ?_, by simpa using h2, h3, fun i b hi h => ?_⟩
        · rw [h1, if_neg (by simp only [beq_iff_eq]; omega)]; omega
        · cases i with
          | zero => simp at h; subst h; exact ha
          | succ i => exact h4 i b (by omega) (by simpa using h)
theorem vY9 {s : ByteArray} (hs : s.size ≤ 60010) {q : Nat} (hq : q ≤ s.size) : ∃ n, q ≤ n ∧ n ≤ s.size ∧ (∀ i, q ≤ i → i < n → uL1 (bt s i) = false) ∧ (n = s.size ∨ (n < s.size ∧ uL1 (bt s n) = true)) ∧
    uc1 (.start (suf s q)) = uc1 (.p15 (suf s q) ((n - q : Nat) : Int) ub6 0) := by
  have hsz := ug4 s hq
  have key : ∀ (i : Nat) b, (suf s q).data.toList[i]? = some b → bt s (q + i) = (b.toNat : Int) := by
    intro i b h
    rw [← u49]; exact uJ5 h
  have hget : ∀ i, i < s.size - q → ∃ b, (suf s q).data.toList[i]? = some b := fun i hi => ⟨_, List.getElem?_eq_getElem (by rw [uf8]; omega)⟩
  rcases vo1 (suf s q).data.toList with ⟨h1, h2⟩ | ⟨j, b, h1, h2, h3, h4⟩
  · refine ⟨s.size, hq, Nat.le_refl _, fun i hi hn => ?_, .inl rfl, ?_⟩
    · obtain ⟨b, hb⟩ := hget (i - q) (by omega)
      have := key _ _ hb
      rw [show q + (i - q) = i by omega] at this
      rw [this, ← ut7]; exact h2 _ _ hb
    · rw [uc1, pany _ (by omega), h1]
      simp only [ua1]
      rw [if_pos (by decide), hsz]
  · have hj : j < (suf s q).data.toList.length := by
      rcases Nat.lt_or_ge j (suf s q).data.toList.length with h | h
      · exact h
      · rw [List.getElem?_eq_none h] at h2; cases h2
    rw [uf8, hsz] at hj
    refine ⟨q + j, by omega, by omega, fun i hi hn => ?_, .inr ⟨by omega, ?_⟩, ?_⟩
    · obtain ⟨b, hb⟩ := hget (i - q) (by omega)
      have := key _ _ hb
      rw [show q + (i - q) = i by omega] at this
      rw [this, ← ut7]; exact h4 _ _ (by omega) hb
    · rw [key _ _ h2, ← ut7]; exact h3
    · rw [uc1, pany _ (by omega), h1]
      simp only [ua1]
      rw [if_neg (by simp only [decide_eq_true_eq]; omega), show q + j - q = j by omega]
theorem v91 {s : ByteArray} (hs : s.size ≤ 60010) {q : Nat} (hq : q ≤ s.size) : ∃ e, q ≤ e ∧ e ≤ s.size ∧ (∀ i, q ≤ i → i < e → uw7 (bt s i) = true) ∧ (e = s.size ∨ (e < s.size ∧ uw7 (bt s e) = false)) ∧
    ub1 (.start s (q : Int)) = ub1 (.p15 s (q : Int) (e : Int) ub6 0) := by
  have : ∀ k e0 : Nat, e0 + k = s.size → q ≤ e0 → (∀ i, q ≤ i → i < e0 → uw7 (bt s i) = true) → ∃ e, e0 ≤ e ∧ e ≤ s.size ∧ (∀ i, q ≤ i → i < e → uw7 (bt s i) = true) ∧ (e = s.size ∨ (e < s.size ∧ uw7 (bt s e) = false)) ∧
      ub1 (.p56 s (q : Int) (e0 : Int) ub6 0) = ub1 (.p15 s (q : Int) (e : Int) ub6 0) := by
    intro k
    induction k with
    | zero =>
      intro e0 h1 h2 h3
      exact ⟨e0, Nat.le_refl _, by omega, h3, .inl (by omega), by rw [ub1, if_neg (by simp only [decide_eq_true_eq]; omega)]⟩
    | succ k ih =>
      intro e0 h1 h2 h3
      cases hb : uw7 (bt s e0) with
      | false => exact ⟨e0, Nat.le_refl _, by omega, h3, .inr ⟨by omega, hb⟩, by rw [ub1, if_pos (by simp only [decide_eq_true_eq]; omega), ue5 (by omega)]; simp only [ua1, rsgn, hb, Bool.false_eq_true, if_false]⟩
      | true =>
        obtain ⟨e, g1, g2, g3, g4, g5⟩ := ih (e0 + 1) (by omega) (by omega) fun i hi hi2 => by
          rcases Nat.lt_or_ge i e0 with h | h
          · exact h3 i hi h
          · rw [show i = e0 by omega]; exact hb
        refine ⟨e, by omega, g2, g3, g4, ?_⟩
        rw [← g5]
        conv => lhs; rw [ub1]
        rw [if_pos (by simp only [decide_eq_true_eq]; omega), ue5 (by omega)]
        simp only [ua1, rsgn, hb, if_true]
        rw [ut1 (by omega)]
  obtain ⟨e, g1, g2, g3, g4, g5⟩ := this (s.size - q) q (by omega) (Nat.le_refl _) (fun i h1 h2 => by omega)
  exact ⟨e, g1, g2, g3, g4, by rw [ub1]; exact g5⟩
section
variable {s : ByteArray} (hs : s.size ≤ 60010) {q n : Nat} (hq : q ≤ n) (hn : n ≤ s.size)
include hs hq hn
theorem vf9 : uc1 (.p15 (suf s q) ((n - q : Nat) : Int) ub6 0) = (if ok5 (s.extract q n) = true then some (((ub6, (natN (s.extract q n), ([], ()))), (suf s n, (true, ()))), ())
    else if (ui9 (s.extract q n)).2 = false then some (((ub6, (natN (s.extract q n), ([], ()))), (suf s n, (false, ()))), ())
    else if isN (s.extract q n) = true then (if n < s.size ∧ bt s n = 40 then uc1 (.p4088 (suf s (n + 1)) true (s.extract q n) 0 []) else uc1 (.p4088 (suf s n) false (s.extract q n) 0 []))
    else some (((ub6, (0, ([], ()))), (suf s n, (false, ()))), ())) := by
  have hsz := ug4 s (show q ≤ s.size by omega)
  have ew := vG3 s (p := q) (k := n - q) (by omega)
  rw [show q + (n - q) = n by omega] at ew
  have er := vd3 s (p := q) (k := n - q) (by omega)
  rw [show q + (n - q) = n by omega] at er
  have hw : (s.extract q n).size = n - q := un7 s hq hn
  conv => lhs; rw [uc1]
  rw [show (0 : Int) = ((0 : Nat) : Int) from rfl, us7 (by omega) (by omega), us7 (by omega) (Nat.le_refl _)]
  simp only [ua1]
  rw [ew, er]
  generalize s.extract q n = w at hw ⊢
  have ha : uT7 (w, ()) () = some ((natN w, ((ui9 w).2, ())), ()) := by
    unfold uT7 natN
    rw [show Nat.ble w.size 281474976710656 = true from Nat.ble_eq_true_of_le (by omega)]
    rfl
  rw [ha]
  simp only [ua1]
  cases hat : (ui9 w).2 with
  | false =>
    have hb := u72 hat
    have hi : uy4 (natN w, ()) () = some ((deci (natN w), ()), ()) := by
      unfold uy4 deci
      rw [if_pos hb]
    rw [if_pos (show (!false) = true by decide), hi, vs4 hat]
    simp only [ua1, u79]
    cases hsq : seq (deci (natN w)) w with
    | false => simp
    | true =>
      cases hd : decide (0 ≤ natN w ∧ natN w ≤ 99999) with
      | false => simp
      | true => simp
  | true =>
    have h5 : ok5 w = false := by
      cases h : ok5 w with
      | false => rfl
      | true => have := vf4 (uL7 h); rw [hat] at this; cases this
    rw [if_neg (show ¬ (!true) = true by decide), vY5 w (by unfold big; omega), h5]
    simp only [ua1, Bool.false_eq_true, if_false]
    cases hnm : isN w with
    | false => simp
    | true =>
      rw [if_neg (show ¬ (!true) = true by decide), cut1 hn 40]
      simp only [ua1, if_true]
      by_cases hc : n < s.size ∧ bt s n = 40
      · rw [if_pos hc]
        rw [show ((40 : UInt8).toNat : Int) = 40 from rfl, if_pos hc]
        rfl
      · rw [if_neg hc]
        rw [show ((40 : UInt8).toNat : Int) = 40 from rfl, if_neg hc]
        rfl
theorem vZ0 : ub1 (.p15 s (q : Int) (n : Int) ub6 0) = (if ok5 (s.extract q n) = true then some (((ub6, (natN (s.extract q n), ([], ()))), ((n : Int), ())), ())
    else if isN (s.extract q n) = true then (if n < s.size ∧ bt s n = 40 then ub1 (.p2044 s (n : Int) ub6 0 (s.extract q n) 0 []) else some (((s.extract q n, (0, ([], ()))), ((n : Int), ())), ()))
    else some (((ub6, (0, ([], ()))), ((-1 : Int), ())), ())) := by
  have hw : (s.extract q n).size = n - q := un7 s hq hn
  conv => lhs; rw [ub1]
  rw [us7 hq hn]
  simp only [ua1]
  generalize s.extract q n = w at hw ⊢
  obtain ⟨x, ok, e1, e2, e3⟩ := v88 w (by omega)
  have h251 : (if ok = true then ub1 (.p251 s (n : Int) w x (decide (x ≥ 0)) ub6 0) else ub1 (.p251 s (n : Int) w x false ub6 0)) = ub1 (.p251 s (n : Int) w x (ok5 w) ub6 0) := by
    rw [← e2]
    cases ok <;> simp
  rw [e1]
  simp only [ua1]
  rw [h251, ub1]
  cases h5 : ok5 w with
  | true => simp only [if_true]; rw [e3 h5]
  | false =>
    simp only [Bool.false_eq_true, if_false, vZ2, ua1]
    cases hnm : isN w with
    | false => rfl
    | true =>
      rw [if_neg (show ¬ (!true) = true by decide), if_pos rfl]
      by_cases hE : n = s.size
      · rw [if_pos (by simp only [beq_iff_eq]; omega), if_neg (fun h => by omega)]
      · rw [if_neg (by simp only [beq_iff_eq]; omega), ue5 (by omega)]
        simp only [ua1]
        by_cases h40 : bt s n = 40
        · rw [if_neg (by simp [h40]), if_pos ⟨by omega, h40⟩, ub1]
        · rw [if_pos (by simpa using h40), if_neg (fun h => h40 h.2)]
end
end
end Go.Proofs.YtaennkkcnhfglaaGreatDoor.Ev.F
