/- A part of the proof. -/
import Derived.Test.YtaennkkcnhfglaaGreatDoorOFF
import Derived.Test.YtaennkkcnhfglaaGreatDoorOFR
import Derived.Test.YtaennkkcnhfglaaGreatDoorOEvPure
set_option linter.unusedVariables false
set_option linter.unusedSimpArgs false
set_option linter.unnecessarySimpa false
namespace Go.Proofs.YtaennkkcnhfglaaGreatDoor.Ev.F
open Go.Proofs.YtaennkkcnhfglaaGreatDoor.Ev Go.Proofs
theorem vC9 : u06 .start = some ((true, ()), ()) :=
  vq1 200 .start _ (by kernel_rfl)
end Go.Proofs.YtaennkkcnhfglaaGreatDoor.Ev.F
namespace Go.Proofs.YtaennkkcnhfglaaGreatDoor.Ev.F
open Go.Proofs.YtaennkkcnhfglaaGreatDoor.Ev
theorem ug1 {a b c : Nat} (h : (a + b) * c ≤ 140737488355328) : fits a b c = true := Nat.ble_eq_true_of_le h
theorem ua7 {i n : Nat} (h : i < n) (hn : n ≤ 9223372036854775807) : IntKind.wrap .i64 ((i : Int) + 1) = ((i + 1 : Nat) : Int) := by
  rw [wrap_i64 (by omega) (by omega)]; rfl
theorem ui5 {i : Nat} (h : i ≤ 4611686018427387904) : IntKind.wrap .i64 ((i : Int) + 1) = ((i + 1 : Nat) : Int) := by
  rw [wrap_i64 (by omega) (by omega)]; rfl
theorem ua8 {α : Type} {l : List α} {i : Nat} (h : i < l.length) : l.drop i = l[i] :: l.drop (i + 1) := List.drop_eq_getElem_cons h
theorem ub0 {α : Type} (l : List α) {P : Nat → Prop} (h0 : P l.length) (hs : ∀ i, i < l.length → P (i + 1) → P i) : ∀ {i}, i ≤ l.length → P i := by
  intro i hi
  have : ∀ k i, i + k = l.length → P i := by
    intro k
    induction k with
    | zero => intro i h; obtain rfl : i = l.length := by omega
              exact h0
    | succ k ih => intro i h; exact hs i (by omega) (ih (i + 1) (by omega))
  exact this (l.length - i) i (by omega)
theorem lt_t {i n : Nat} (h : i < n) : decide ((i : Int) < (n : Int)) = true := by simpa using h
theorem lt_f (n : Nat) : decide ((n : Int) < (n : Int)) = false := by simp
theorem ua9 {α : Type} {l : List α} {i : Nat} (h : i < l.length) : idx l (i : Int) = some l[i] := by rw [uO8, List.getElem?_eq_getElem h]
theorem uh1 (a b : ByteArray) : seq a b = decide (a = b) := by
  cases a with | mk a => cases b with | mk b =>
  simp only [seq, ByteArray.mk.injEq]
  rw [Bool.eq_iff_iff]
  simp [Array.toList_inj]
def big : Nat := 9223372036854775807
theorem uG6 (n lo hi : Int) : uk6 (.start n lo hi) = some ((decide (lo ≤ n ∧ n ≤ hi), ()), ()) := by
  by_cases h : lo ≤ n <;> simp [uk6, h]
theorem u09 (n lo hi : Int) : uB4 (.start n lo hi) = some ((decide (lo ≤ n ∧ n ≤ hi), ()), ()) := by
  by_cases h : lo ≤ n <;> simp [uB4, h]
theorem ux3 (b : Bool) (e : Int) : uc2 (.start b e) = some ((if b = true then 0 else e, ()), ()) := by
  cases b <;> simp [uc2]
def ug4 : List Int → Int
 | [] => 0
 | e :: l => if e = 0 then ug4 l else e
theorem uK1 (l : List Int) (hl : l.length ≤ big) : uc8 (.start l) = some ((ug4 l, ()), ()) := by
  rw [uc8]
  have : ∀ {i}, i ≤ l.length → uc8 (.p52 l (List.length l : Int) (i : Int)) = some ((ug4 (l.drop i), ()), ()) := by
    refine ub0 l (P := fun i => uc8 (.p52 l (List.length l : Int) (i : Int)) = some ((ug4 (l.drop i), ()), ())) ?_ ?_
    · rw [uc8]; simp [ug4]
    · intro i hi ih
      rw [uc8]
      simp only [lt_t hi, if_true, ua9 hi, ua0]
      rw [ua7 hi hl, ih, ua8 hi]
      simp only [ug4]
      by_cases h0 : l[i] = 0 <;> simp [h0]
  simpa using this (Nat.zero_le _)
def ixAt {α : Type} (p : α → Bool) : Nat → List α → Int
 | _, [] => -1
 | i, a :: l => if p a = true then i else ixAt p (i + 1) l
def ix {α : Type} (p : α → Bool) (l : List α) : Int := ixAt p 0 l
theorem vf1 {α : Type} (p : α → Bool) : ∀ (l : List α) (i : Nat), (ixAt p i l = -1 ∧ ∀ a ∈ l, p a = false) ∨ (∃ j a, ixAt p i l = ((i + j : Nat) : Int) ∧ l[j]? = some a ∧ p a = true ∧ ∀ k b, k < j → l[k]? = some b → p b = false)
 | [], i => .inl ⟨rfl, by simp⟩
 | a :: l, i => by
   unfold ixAt
   cases h : p a with
   | true => exact .inr ⟨0, a, by simp, rfl, h, fun k b hk => absurd hk (Nat.not_lt_zero _)⟩
   | false =>
     simp only [Bool.false_eq_true, if_false]
     rcases vf1 p l (i + 1) with ⟨h1, h2⟩ | ⟨j, b, h1, h2, h3, h4⟩
     · refine .inl ⟨h1, fun x hx => ?_⟩
       rcases List.mem_cons.1 hx with rfl | hx
       · exact h
       · exact h2 x hx
     · refine .inr ⟨j + 1, b, by rw [h1]; congr 1; omega, by simpa using h2, h3, fun k c hk hc => ?_⟩
       cases k with
       | zero => simp at hc; subst hc; exact h
       | succ k => exact h4 k c (by omega) (by simpa using hc)
theorem uX7 {α : Type} (p : α → Bool) (l : List α) : (ix p l = -1 ∧ ∀ a ∈ l, p a = false) ∨ (∃ (j : Nat) (a : α), ix p l = (j : Int) ∧ l[j]? = some a ∧ p a = true ∧ ∀ k b, k < j → l[k]? = some b → p b = false) := by
  rcases vf1 p l 0 with h | ⟨j, a, h1, h2⟩
  · exact .inl h
  · exact .inr ⟨j, a, by simpa [ix] using h1, h2⟩
theorem wm5 {α : Type} (p : α → Bool) (l : List α) : decide (ix p l ≥ 0) = l.any p := by
  rcases uX7 p l with ⟨h1, h2⟩ | ⟨j, a, h1, h2, h3, _⟩
  · rw [h1, show l.any p = false from by simpa using h2]; rfl
  · rw [h1, List.any_eq_true.2 ⟨a, List.mem_of_getElem? h2, h3⟩]; simp
theorem v17 (l : List ByteArray) (s : ByteArray) (hl : l.length ≤ big) : ut6 (.start l s) = some ((ix (fun x => decide (s = x)) l, ()), ()) := by
  rw [ut6]
  have : ∀ {i}, i ≤ l.length → ut6 (.p52 l s (List.length l : Int) (i : Int)) = some ((ixAt (fun x => decide (s = x)) i (l.drop i), ()), ()) := by
    refine ub0 l (P := fun i => ut6 (.p52 l s (List.length l : Int) (i : Int)) = some ((ixAt (fun x => decide (s = x)) i (l.drop i), ()), ())) ?_ ?_
    · rw [ut6]; simp [ixAt]
    · intro i hi ih
      rw [ut6]
      simp only [lt_t hi, if_true, ua9 hi, ua0, uh1]
      rw [ua7 hi hl, ih, ua8 hi]
      simp only [ixAt]
      by_cases h0 : s = l[i] <;> simp [h0]
  exact this (Nat.zero_le _)
def has (l : List ByteArray) (s : ByteArray) : Bool := l.any fun x => decide (x = s)
theorem vH8 {l : List ByteArray} {s : ByteArray} : has l s = true ↔ s ∈ l := by simp [has]
theorem vg3 (l : List ByteArray) (s : ByteArray) (hl : l.length ≤ big) : u08 (.start l s) = some ((has l s, ()), ()) := by
  rw [u08, v17 l s hl]
  simp only [ua0, wm5]
  congr 3
  unfold has
  congr 1
  funext x
  exact decide_eq_decide.2 ⟨fun h => h.symm, fun h => h.symm⟩
theorem rhas (l : List ByteArray) (s : ByteArray) (hl : l.length ≤ big) : up8 (.start l s) = some ((has l s, ()), ()) := by
  rw [up8]
  have : ∀ {i}, i ≤ l.length → up8 (.p52 l s (i : Int)) = some ((has (l.drop i) s, ()), ()) := by
    refine ub0 l (P := fun i => up8 (.p52 l s (i : Int)) = some ((has (l.drop i) s, ()), ())) ?_ ?_
    · rw [up8]; simp [has]
    · intro i hi ih
      rw [up8]
      simp only [lt_t hi, if_true, ua9 hi, ua0, uh1]
      rw [ua7 hi hl, ih, ua8 hi]
      rw [show has (l[i] :: l.drop (i + 1)) s = (decide (l[i] = s) || has (l.drop (i + 1)) s) from rfl]
      by_cases h0 : l[i] = s <;> simp [h0]
  simpa using this (Nat.zero_le _)
theorem wn7 (l : List ua3) (ps : List ByteArray) (s : ByteArray) (hl : l.length ≤ big) : un7 (.start l s) = some ((ix (fun d => decide (d.Name = s)) l, ()), ((s, ()), ())) := by
  rw [un7]
  have : ∀ {i}, i ≤ l.length → un7 (.p52 l (List.length l : Int) (i : Int) s) = some ((ixAt (fun d => decide (d.Name = s)) i (l.drop i), ()), ((s, ()), ())) := by
    refine ub0 l (P := fun i => un7 (.p52 l (List.length l : Int) (i : Int) s) = some ((ixAt (fun d => decide (d.Name = s)) i (l.drop i), ()), ((s, ()), ()))) ?_ ?_
    · rw [un7]; simp [ixAt]
    · intro i hi ih
      rw [un7]
      simp only [lt_t hi, if_true, ua9 hi, ua0, uh1, uZ8]
      rw [ua7 hi hl, ih, ua8 hi]
      simp only [ixAt]
      by_cases h0 : l[i].Name = s <;> simp [h0]
  exact this (Nat.zero_le _)
def dat (l : List ua3) (s : ByteArray) : Option ua3 := l.find? fun d => decide (d.Name = s)
theorem uI9 (l : List ua3) (s : ByteArray) : (ix (fun d => decide (d.Name = s)) l = -1 ∧ dat l s = none) ∨ ∃ (j : Nat) (d : ua3), ix (fun d => decide (d.Name = s)) l = (j : Int) ∧ l[j]? = some d ∧ dat l s = some d ∧ d.Name = s := by
  rcases uX7 (fun d : ua3 => decide (d.Name = s)) l with ⟨h1, h2⟩ | ⟨j, a, h1, h2, h3, h4⟩
  · refine .inl ⟨h1, List.find?_eq_none.2 fun x hx => by simpa using h2 x hx⟩
  · refine .inr ⟨j, a, h1, h2, ?_, of_decide_eq_true h3⟩
    unfold dat
    rw [List.find?_eq_some_iff_getElem]
    obtain ⟨hj, rfl⟩ := List.getElem?_eq_some_iff.1 h2
    refine ⟨h3, j, hj, rfl, fun k hk => ?_⟩
    have := h4 k _ hk (List.getElem?_eq_getElem (Nat.lt_trans hk hj))
    simpa using this
theorem pdat (l : List ua3) (ps : List ByteArray) (s : ByteArray) (hl : l.length ≤ big) : uH0 (.start l ps s) = some (match dat l s with | some d => ((d.Name, (d.Params, (d.Constructors, ()))), (true, ())) | none => (((⟨#[]⟩ : ByteArray), ([], ([], ()))), (false, ())), ()) := by
  rw [uH0, wn7 l ps s hl]
  simp only [ua0]
  rcases uI9 l s with ⟨h1, h2⟩ | ⟨j, d, h1, h2, h3, _⟩
  · rw [h1, h2]; simp
  · rw [h1, h3, uO8, h2]; simp
theorem rdat (l : List ua3) (s : ByteArray) (hl : l.length ≤ big) : uo2 (.start l s) = some ((ix (fun d => decide (d.Name = s)) l, ()), ()) := by
  rw [uo2]
  have : ∀ {i}, i ≤ l.length → uo2 (.p52 l s (i : Int)) = some ((ixAt (fun d => decide (d.Name = s)) i (l.drop i), ()), ()) := by
    refine ub0 l (P := fun i => uo2 (.p52 l s (i : Int)) = some ((ixAt (fun d => decide (d.Name = s)) i (l.drop i), ()), ())) ?_ ?_
    · rw [uo2]; simp [ixAt]
    · intro i hi ih
      rw [uo2]
      simp only [lt_t hi, if_true, ua9 hi, ua0, uh1]
      rw [ua7 hi hl, ih, ua8 hi]
      simp only [ixAt]
      by_cases h0 : l[i].Name = s <;> simp [h0]
  exact this (Nat.zero_le _)
end Go.Proofs.YtaennkkcnhfglaaGreatDoor.Ev.F
namespace Go.Proofs.YtaennkkcnhfglaaGreatDoor.Ev.F
open Go.Proofs.YtaennkkcnhfglaaGreatDoor.Ev
def vI3 (c : Int) : Bool := (decide (97 ≤ c) && decide (c ≤ 122)) || (decide (65 ≤ c) && decide (c ≤ 90))
def okC (i : Nat) (c : Int) : Bool := vI3 c || (!(decide (i = 0)) && (decide (c = 95) || (decide (48 ≤ c) && decide (c ≤ 57))))
def uA6 : Nat → List Int → Bool
 | _, [] => true
 | i, c :: l => okC i c && uA6 (i + 1) l
def isN (s : ByteArray) : Bool := decide (1 ≤ s.size ∧ s.size ≤ 16) && uA6 0 (ub3 s)
theorem uj1 (s : ByteArray) : (ub3 s).length = s.size := by unfold ub3; rw [List.length_map, Array.length_toList]; rfl
theorem vX9 {s : ByteArray} {i : Nat} (h : i < (ub3 s).length) : sidx s (i : Int) = some (ub3 s)[i] := by
  unfold sidx ub3
  rw [if_pos (by omega), Int.toNat_natCast]
  have h' : i < s.data.toList.length := by unfold ub3 at h; simpa using h
  rw [List.getElem?_eq_getElem h']
  rw [Option.map_some]
  congr 1
  exact (List.getElem_map (f := fun c : UInt8 => (c.toNat : Int))).symm
theorem vW2 (s : ByteArray) (i : Nat) (c : Int) (b : Bool) (l : List Int) (n m : Int) : ug8 (.p3379 s (i : Int) c b l n m) = if (b || (!(decide (i = 0)) && (decide (c = 95) || (decide (48 ≤ c) && decide (c ≤ 57))))) = true then ug8 (.p52 s l n (IntKind.wrap .i64 (m + 1))) else some ((false, ()), ()) := by
  conv => lhs; rw [ug8]
  cases b with
  | true => simp
  | false =>
    by_cases hi : i = 0
    · subst hi; simp
    · by_cases h95 : c = 95
      · simp [hi, h95]
      · by_cases h1 : c < 48
        · simp [hi, h95, h1, show ¬ (48 ≤ c) by omega]
        · by_cases h2 : c > 57
          · simp [hi, h95, h1, h2, show ¬ (c ≤ 57) by omega]
          · simp [hi, h95, h1, h2, show (48 ≤ c) by omega, show (c ≤ 57) by omega]
theorem wv5 (s : ByteArray) (hs : s.size ≤ big) : ug8 (.start s) = some ((isN s, ()), ()) := by
  rw [ug8]
  have hl : (ub3 s).length ≤ big := by rw [uj1]; exact hs
  have : ∀ {i}, i ≤ (ub3 s).length → ug8 (.p52 s (ub3 s) (List.length (ub3 s) : Int) (i : Int)) = some ((uA6 i ((ub3 s).drop i) && decide (1 ≤ s.size ∧ s.size ≤ 16), ()), ()) := by
    refine ub0 (ub3 s) (P := fun i => ug8 (.p52 s (ub3 s) (List.length (ub3 s) : Int) (i : Int)) = some ((uA6 i ((ub3 s).drop i) && decide (1 ≤ s.size ∧ s.size ≤ 16), ()), ())) ?_ ?_
    · rw [ug8]
      simp only [lt_f, Bool.false_eq_true, if_false, uG6, ua0, List.drop_length, uA6, Bool.true_and]
      congr 3
      exact decide_eq_decide.2 (by omega)
    · intro i hi ih
      rw [ug8]
      simp only [lt_t hi, if_true, ua9 hi, ua0, vW2]
      rw [ua7 hi hl, ih, ua8 hi]
      rw [show uA6 i ((ub3 s)[i] :: (ub3 s).drop (i + 1)) = (okC i (ub3 s)[i] && uA6 (i + 1) ((ub3 s).drop (i + 1))) from rfl]
      generalize (ub3 s)[i] = c
      unfold okC vI3
      generalize ((!decide (i = 0)) && (decide (c = 95) || decide (48 ≤ c) && decide (c ≤ 57))) = q
      by_cases h1 : 97 ≤ c <;> by_cases h2 : c ≤ 122 <;> by_cases h3 : 65 ≤ c <;> by_cases h4 : c ≤ 90 <;> cases q <;> first | omega | simp [h1, h2, h3, h4]
  have h := this (Nat.zero_le _)
  rw [List.drop_zero] at h
  rw [show ((0 : Int)) = ((0 : Nat) : Int) from rfl, h]
  unfold isN
  rw [Bool.and_comm]
theorem vK4 (s : ByteArray) (i : Nat) (c : Int) (b : Bool) : ud6 (.p3731 s (i : Int) c b) = if (b || (!(decide (i = 0)) && (decide (c = 95) || (decide (48 ≤ c) && decide (c ≤ 57))))) = true then ud6 (.p116 s (IntKind.wrap .i64 ((i : Int) + 1))) else some ((false, ()), ()) := by
  conv => lhs; rw [ud6]
  cases b with
  | true => simp
  | false =>
    by_cases hi : i = 0
    · subst hi; simp
    · by_cases h95 : c = 95
      · simp [hi, h95]
      · by_cases h1 : c < 48
        · simp [hi, h95, h1, show ¬ (48 ≤ c) by omega]
        · by_cases h2 : c > 57
          · simp [hi, h95, h1, h2, show ¬ (c ≤ 57) by omega]
          · simp [hi, h95, h1, h2, show (48 ≤ c) by omega, show (c ≤ 57) by omega]
theorem vW8 (s : ByteArray) : ud6 (.start s) = some ((isN s, ()), ()) := by
  rw [ud6]
  unfold isN
  by_cases h1 : s.size < 1
  · simp [h1, show ¬ (1 ≤ s.size) by omega, show ((s.size : Int) < 1) by omega]
  · by_cases h2 : s.size > 16
    · simp [show ¬ (s.size ≤ 16) by omega, show ¬ ((s.size : Int) < 1) by omega, show ((s.size : Int) > 16) by omega]
    · have e1 : decide ((s.size : Int) < 1) = false := by simp; omega
      have e2 : decide ((s.size : Int) > 16) = false := by simp; omega
      simp only [e1, e2, Bool.false_eq_true, if_false]
      rw [ud6]
      have hz : decide (1 ≤ s.size ∧ s.size ≤ 16) = true := by simp; omega
      rw [hz, Bool.true_and]
      have hl : (ub3 s).length ≤ big := by rw [uj1]; unfold big; omega
      have : ∀ {i}, i ≤ (ub3 s).length → ud6 (.p116 s (i : Int)) = some ((uA6 i ((ub3 s).drop i), ()), ()) := by
        refine ub0 (ub3 s) (P := fun i => ud6 (.p116 s (i : Int)) = some ((uA6 i ((ub3 s).drop i), ()), ())) ?_ ?_
        · rw [ud6]
          rw [uj1]
          simp only [lt_f, Bool.false_eq_true, if_false]
          rw [List.drop_of_length_le (by rw [uj1]; exact Nat.le_refl _)]
          rfl
        · intro i hi ih
          rw [ud6]
          have hi' : i < s.size := by rw [← uj1]; exact hi
          simp only [lt_t hi', if_true, vX9 hi, ua0, vK4]
          rw [ua7 hi hl, ih, ua8 hi]
          rw [show uA6 i ((ub3 s)[i] :: (ub3 s).drop (i + 1)) = (okC i (ub3 s)[i] && uA6 (i + 1) ((ub3 s).drop (i + 1))) from rfl]
          generalize (ub3 s)[i] = c
          unfold okC vI3
          generalize ((!decide (i = 0)) && (decide (c = 95) || decide (48 ≤ c) && decide (c ≤ 57))) = q
          by_cases h1 : 97 ≤ c <;> by_cases h2 : c ≤ 122 <;> by_cases h3 : 65 ≤ c <;> by_cases h4 : c ≤ 90 <;> cases q <;> first | omega | simp [h1, h2, h3, h4]
      exact this (Nat.zero_le _)
def newE (s : ByteArray) (l : List ByteArray) : Int := if isN s = true then (if has l s = true then 5 else 0) else 4
theorem pnew (s : ByteArray) (l : List ByteArray) (hs : s.size ≤ big) (hl : l.length ≤ big) : uy6 (.start s l) = some ((newE s l, ()), ()) := by
  rw [uy6]
  simp only [wv5 s hs, vg3 l s hl, ux3, ua0]
  rw [uK1 _ (by simp [big])]
  unfold newE
  cases isN s <;> cases has l s <;> simp [ug4]
mutual
def tsz : ua1 → Nat
 | ⟨_, _, _, ps⟩ => 1 + tszs ps
def tszs : List ua1 → Nat
 | [] => 0
 | p :: l => tsz p + tszs l
end
mutual
def tdp : ua1 → Nat
 | ⟨_, _, _, ps⟩ => 1 + tdps ps
def tdps : List ua1 → Nat
 | [] => 0
 | p :: l => max (tdp p) (tdps l)
end
theorem vv7 : tszs [] = 0 := by rw [tszs]
theorem vY4 : tdps [] = 0 := by rw [tdps]
theorem u18 (p : ua1) (l : List ua1) : tszs (p :: l) = tsz p + tszs l := by rw [tszs]
theorem vM0 (p : ua1) (l : List ua1) : tdps (p :: l) = max (tdp p) (tdps l) := by rw [tdps]
def tree (t : ua1) : Bool := decide (tsz t ≤ 200 ∧ tdp t ≤ 40)
theorem vr1 (t : ua1) : 1 ≤ tsz t := by cases t; unfold tsz; omega
theorem vL9 (t : ua1) : 1 ≤ tdp t := by cases t; unfold tdp; omega
theorem uN1 (l : List ua1) : l.length ≤ tszs l := by
  induction l with
  | nil => simp [tszs]
  | cons a l ih => have := vr1 a; simp only [tszs, List.length_cons]; omega
theorem uQ7 {l : List ua1} {t : ua1} (h : t ∈ l) : tsz t ≤ tszs l := by
  induction l with
  | nil => cases h
  | cons a l ih =>
    unfold tszs
    rcases List.mem_cons.1 h with rfl | h
    · omega
    · have := ih h; omega
theorem uk9 {P : ua1 → Prop} (h : ∀ k v n ps, (∀ p ∈ ps, P p) → P ⟨k, v, n, ps⟩) (t : ua1) : P t := by
  generalize hn : tsz t = n
  induction n using Nat.strongRecOn generalizing t with
  | ind n ih =>
    obtain ⟨k, v, s, ps⟩ := t
    exact h k v s ps fun p hp => ih (tsz p) (by have := uQ7 hp; unfold tsz at hn; omega) p rfl
def vB5 (t : ua1) : Prop := ∀ d n : Nat, 1 ≤ d → d ≤ 41 → n ≤ 200 → ∃ r, uj7 (.start t.Kind t.Value t.Name t.Parts (d : Int) (n : Int)) = some r ∧ r.1.1 = decide (n + tsz t ≤ 200 ∧ d + tdp t ≤ 41) ∧ (r.1.1 = true → r.2.1.1 = ((n + tsz t : Nat) : Int))
theorem vl2 (ps : List ua1) (hps : ∀ p ∈ ps, vB5 p) (hl : ps.length ≤ big) (d : Nat) (h1 : 1 ≤ d) (h2 : d ≤ 40) : ∀ {i}, i ≤ ps.length → ∀ n : Nat, n ≤ 200 → ∃ r, uj7 (.p244 (d : Int) ps (List.length ps : Int) (i : Int) (n : Int)) = some r ∧ r.1.1 = decide (n + tszs (ps.drop i) ≤ 200 ∧ d + tdps (ps.drop i) ≤ 40) ∧ (r.1.1 = true → r.2.1.1 = ((n + tszs (ps.drop i) : Nat) : Int)) := by
  refine ub0 ps (P := fun i => ∀ n : Nat, n ≤ 200 → ∃ r, uj7 (.p244 (d : Int) ps (List.length ps : Int) (i : Int) (n : Int)) = some r ∧ r.1.1 = decide (n + tszs (ps.drop i) ≤ 200 ∧ d + tdps (ps.drop i) ≤ 40) ∧ (r.1.1 = true → r.2.1.1 = ((n + tszs (ps.drop i) : Nat) : Int))) ?_ ?_
  · intro n hn
    rw [uj7]
    refine ⟨_, by simp only [lt_f, Bool.false_eq_true, if_false]; rfl, ?_, ?_⟩
    · simp [tszs, tdps]; omega
    · simp [tszs]
  · intro i hi ih n hn
    rw [uj7]
    simp only [lt_t hi, if_true, ua9 hi, ua0]
    obtain ⟨r, e1, e2, e3⟩ := hps ps[i] (List.getElem_mem hi) (d + 1) n (by omega) (by omega) hn
    rw [ui5 (by omega), e1]
    simp only [ua0]
    rw [ua8 hi]
    simp only [tszs, tdps]
    cases hb : r.1.1 with
    | false =>
      rw [hb] at e2
      refine ⟨_, by simp only [Bool.not_false, if_true]; rfl, ?_, ?_⟩
      · simp only
        have := of_decide_eq_false e2.symm
        symm
        refine decide_eq_false ?_
        have := Nat.le_max_left (tdp ps[i]) (tdps (ps.drop (i + 1)))
        omega
      · intro h; cases h
    | true =>
      rw [hb] at e2
      have h3 := of_decide_eq_true e2.symm
      obtain ⟨r', f1, f2, f3⟩ := ih (n + tsz ps[i]) h3.1
      refine ⟨r', ?_, ?_, ?_⟩
      · simp only [Bool.not_true, Bool.false_eq_true, if_false]
        rw [e3 hb, ua7 hi hl]
        exact f1
      · rw [f2]
        refine decide_eq_decide.2 ?_
        have := Nat.le_max_left (tdp ps[i]) (tdps (ps.drop (i + 1)))
        have := Nat.le_max_right (tdp ps[i]) (tdps (ps.drop (i + 1)))
        have : max (tdp ps[i]) (tdps (ps.drop (i + 1))) = tdp ps[i] ∨ max (tdp ps[i]) (tdps (ps.drop (i + 1))) = tdps (ps.drop (i + 1)) := by omega
        omega
      · intro h
        rw [f3 h]
        congr 1
        omega
inductive lenOk : ua1 → Prop
 | mk (k v : Int) (n : ByteArray) (ps : List ua1) (h : ps.length ≤ big) (hs : ∀ p ∈ ps, lenOk p) : lenOk ⟨k, v, n, ps⟩
theorem wc7 : ∀ t, lenOk t → vB5 t := by
  refine uk9 fun k v s ps ih hok => ?_
  obtain ⟨_, _, _, _, hl, hs⟩ := hok
  intro d n h1 h2 hn
  rw [uj7]
  simp only
  rw [ui5 (by omega)]
  by_cases hc : n + 1 > 200
  · refine ⟨_, by rw [if_pos (by simp; omega)], ?_, ?_⟩
    · simp only
      symm
      refine decide_eq_false ?_
      have := vr1 ⟨k, v, s, ps⟩
      omega
    · intro h; cases h
  · rw [if_neg (by simp; omega)]
    by_cases hd : d > 40
    · refine ⟨_, by rw [if_pos (by simp; omega)], ?_, ?_⟩
      · simp only
        symm
        refine decide_eq_false ?_
        have := vL9 ⟨k, v, s, ps⟩
        omega
      · intro h; cases h
    · rw [if_neg (by simp; omega)]
      rw [uj7]
      simp only [uZ7, ua0]
      obtain ⟨r, e1, e2, e3⟩ := vl2 ps (fun p hp => ih p hp (hs p hp)) hl d h1 (by omega) (Nat.zero_le _) (n + 1) (by omega)
      refine ⟨r, e1, ?_, ?_⟩
      · rw [e2, List.drop_zero]
        refine decide_eq_decide.2 ?_
        unfold tsz tdp
        omega
      · intro h
        rw [e3 h, List.drop_zero]
        unfold tsz
        congr 1
        omega
theorem v18 (t : ua1) (h : lenOk t) : uG9 (.start t.Kind t.Value t.Name t.Parts) = some ((if tree t = true then 0 else 8, ()), ()) := by
  rw [uG9]
  obtain ⟨r, e1, e2, _⟩ := wc7 t h 1 0 (by omega) (by omega) (by omega)
  rw [show ((1 : Int)) = ((1 : Nat) : Int) from rfl, show ((0 : Int)) = ((0 : Nat) : Int) from rfl, e1]
  simp only [ua0, ux3]
  rw [e2]
  have : decide (0 + tsz t ≤ 200 ∧ 1 + tdp t ≤ 41) = tree t := decide_eq_decide.2 (by omega)
  rw [this]
  rfl
theorem we4 : ∀ (t : ua1) (d n : Nat), 1 ≤ d → d ≤ 41 → n ≤ 200 → ui9 (.start t.Kind t.Value t.Name t.Parts (d : Int) (n : Int)) = some (((if n + tsz t ≤ 200 ∧ d + tdp t ≤ 41 then ((n + tsz t : Nat) : Int) else 201), ()), ()) := by
  refine uk9 fun k v s ps ih d n h1 h2 hn => ?_
  rw [ui9]
  simp only
  by_cases hd : d > 40
  · rw [if_pos (by simp; omega), if_neg (by have := vL9 ⟨k, v, s, ps⟩; omega)]
  · rw [if_neg (by simp; omega), ui5 (by omega)]
    by_cases hc : n + 1 > 200
    · rw [if_pos (by simp; omega), if_neg (by have := vr1 ⟨k, v, s, ps⟩; omega)]
    · rw [if_neg (by simp; omega)]
      have hts : tsz ⟨k, v, s, ps⟩ = 1 + tszs ps := by rw [tsz]
      have htd : tdp ⟨k, v, s, ps⟩ = 1 + tdps ps := by rw [tdp]
      rw [hts, htd]
      by_cases hp : ps.length > 200
      · rw [if_pos (by simp; omega), if_neg (by have := uN1 ps; omega)]
      · rw [if_neg (by simp; omega), ui9]
        have loop : ∀ {i}, i ≤ ps.length → ∀ m : Nat, m ≤ 200 → ui9 (.p244 (d : Int) (m : Int) (i : Int) k v s ps) = some (((if m + tszs (ps.drop i) ≤ 200 ∧ d + tdps (ps.drop i) ≤ 40 then ((m + tszs (ps.drop i) : Nat) : Int) else 201), ()), ()) := by
          refine ub0 ps (P := fun i => ∀ m : Nat, m ≤ 200 → ui9 (.p244 (d : Int) (m : Int) (i : Int) k v s ps) = some (((if m + tszs (ps.drop i) ≤ 200 ∧ d + tdps (ps.drop i) ≤ 40 then ((m + tszs (ps.drop i) : Nat) : Int) else 201), ()), ())) ?_ ?_
          · intro m hm
            rw [ui9]
            simp only [lt_f, Bool.false_eq_true, if_false]
            rw [List.drop_length, vv7, vY4]
            rw [if_pos (by omega)]
            rfl
          · intro i hi ihl m hm
            rw [ui9]
            simp only [lt_t hi, if_true, show decide ((m : Int) ≤ 200) = true by simp; omega]
            rw [ui9]
            simp only [ua9 hi, ua0]
            rw [ui5 (by omega), ih ps[i] (List.getElem_mem hi) (d + 1) m (by omega) (by omega) hm]
            simp only [ua0]
            rw [ua7 hi (by omega), ua8 hi, u18, vM0]
            have m1 := Nat.le_max_left (tdp ps[i]) (tdps (ps.drop (i + 1)))
            have m2 := Nat.le_max_right (tdp ps[i]) (tdps (ps.drop (i + 1)))
            have m3 : max (tdp ps[i]) (tdps (ps.drop (i + 1))) = tdp ps[i] ∨ max (tdp ps[i]) (tdps (ps.drop (i + 1))) = tdps (ps.drop (i + 1)) := by omega
            by_cases hx : m + tsz ps[i] ≤ 200 ∧ d + 1 + tdp ps[i] ≤ 41
            · rw [if_pos hx, ihl _ hx.1]
              by_cases hy : m + tsz ps[i] + tszs (ps.drop (i + 1)) ≤ 200 ∧ d + tdps (ps.drop (i + 1)) ≤ 40
              · rw [if_pos hy, if_pos (by omega)]
                congr 4
                omega
              · rw [if_neg hy, if_neg (by omega)]
            · rw [if_neg hx]
              have hq : decide ((201 : Int) ≤ 200) = false := by decide
              rw [if_neg (by omega)]
              rw [ui9]
              by_cases hz : i + 1 < ps.length
              · simp only [lt_t hz, if_true, hq, Bool.false_eq_true, if_false]
              · have : i + 1 = ps.length := by omega
                rw [this]
                simp only [lt_f, Bool.false_eq_true, if_false]
        have := loop (Nat.zero_le _) (n + 1) (by omega)
        rw [List.drop_zero] at this
        rw [show ((0 : Int)) = ((0 : Nat) : Int) from rfl, this]
        by_cases hy : n + 1 + tszs ps ≤ 200 ∧ d + tdps ps ≤ 40
        · rw [if_pos hy, if_pos (by omega)]
          congr 4
          omega
        · rw [if_neg hy, if_neg (by omega)]
theorem we3 (t : ua1) : uQ3 (.start t.Kind t.Value t.Name t.Parts) = some ((tree t, ()), ()) := by
  rw [uQ3, show ((1 : Int)) = ((1 : Nat) : Int) from rfl, show ((0 : Int)) = ((0 : Nat) : Int) from rfl, we4 t 1 0 (by omega) (by omega) (by omega)]
  simp only [ua0]
  unfold tree
  by_cases h : tsz t ≤ 200 ∧ tdp t ≤ 40
  · rw [if_pos (by omega)]
    simp only [Nat.zero_add]
    rw [show decide (((tsz t : Nat) : Int) ≤ 200) = true by simp; omega, decide_eq_true h]
  · rw [if_neg (by omega), decide_eq_false h]
    rfl
end Go.Proofs.YtaennkkcnhfglaaGreatDoor.Ev.F
namespace Go.Proofs.YtaennkkcnhfglaaGreatDoor.Ev.F
open Go.Proofs.YtaennkkcnhfglaaGreatDoor.Ev
abbrev sBit : ByteArray := ⟨#[66, 105, 116]⟩
abbrev uE9 : ByteArray := ⟨#[66, 111, 111, 108]⟩
abbrev uM5 : ByteArray := ⟨#[73, 110, 116, 101, 103, 101, 114]⟩
abbrev us5 : ByteArray := ⟨#[70, 97, 108, 115, 101]⟩
abbrev uH5 : ByteArray := ⟨#[84, 114, 117, 101]⟩
def uz5 (l : List ua3) (ps : List ByteArray) (k : Int) (s : ByteArray) : Int × Int :=
  if k = 0 then (if has ps s = true then (0, 0) else (6, 0))
  else if k = 1 then (match dat l s with | some d => (0, (d.Params.length : Int)) | none => if s = sBit then (0, 1) else if s = uE9 then (0, 0) else (6, 0))
  else if k = 2 then (0, 0) else (15, 0)
mutual
def up5 (l : List ua3) (ps : List ByteArray) : ua1 → Int
 | ⟨k, v, s, ts⟩ => if (uz5 l ps k s).1 = 0 then (if (ts.length : Int) = (uz5 l ps k s).2 then (if k = 2 ∧ ¬ (0 ≤ v ∧ v ≤ 1000000000) then 2 else nodeEs l ps ts) else 10) else (uz5 l ps k s).1
def nodeEs (l : List ua3) (ps : List ByteArray) : List ua1 → Int
 | [] => 0
 | t :: r => if up5 l ps t = 0 then nodeEs l ps r else up5 l ps t
end
theorem u91 (l : List ua3) (ps : List ByteArray) (k v : Int) (s : ByteArray) (ts : List ua1) : up5 l ps ⟨k, v, s, ts⟩ = if (uz5 l ps k s).1 = 0 then (if (ts.length : Int) = (uz5 l ps k s).2 then (if k = 2 ∧ ¬ (0 ≤ v ∧ v ≤ 1000000000) then 2 else nodeEs l ps ts) else 10) else (uz5 l ps k s).1 := by rw [up5]
theorem uP3 (l : List ua3) (ps : List ByteArray) : nodeEs l ps [] = 0 := by rw [nodeEs]
theorem uG3 (l : List ua3) (ps : List ByteArray) (t : ua1) (r : List ua1) : nodeEs l ps (t :: r) = if up5 l ps t = 0 then nodeEs l ps r else up5 l ps t := by rw [nodeEs]
theorem u62 : ∀ t, tsz t ≤ big → lenOk t := by
  refine uk9 fun k v s ps ih h => ?_
  have hs : tsz ⟨k, v, s, ps⟩ = 1 + tszs ps := by rw [tsz]
  rw [hs] at h
  exact .mk k v s ps (by have := uN1 ps; omega) fun p hp => ih p hp (by have := uQ7 hp; omega)
theorem vJ4 {l : List ua3} {ps : List ByteArray} (k v : Int) (s : ByteArray) (ts : List ua1) (hl : ts.length ≤ big)
    (ih : ∀ t ∈ ts, run_z21 (.start l ps t.Kind t.Value t.Name t.Parts) = some ((up5 l ps t, ()), ())) :
    run_z21 (.p63 l ps k v s ts) = some ((nodeEs l ps ts, ()), ()) := by
  rw [run_z21, run_z22]
  have loop : ∀ {i}, i ≤ ts.length → ∃ j : Int, run_z22 (.p52 ts (List.length ts : Int) (i : Int) l ps) = some ((j, (nodeEs l ps (ts.drop i), ())), ((l, (ps, ())), ())) := by
    refine ub0 ts (P := fun i => ∃ j : Int, run_z22 (.p52 ts (List.length ts : Int) (i : Int) l ps) = some ((j, (nodeEs l ps (ts.drop i), ())), ((l, (ps, ())), ()))) ?_ ?_
    · rw [run_z22]
      simp only [lt_f, Bool.false_eq_true, if_false]
      rw [List.drop_length, uP3]
      exact ⟨0, rfl⟩
    · intro i hi ⟨j, hj⟩
      rw [run_z22]
      simp only [lt_t hi, if_true, ua9 hi, ua0]
      rw [uP9]
      simp only [ih _ (List.getElem_mem hi), ua0]
      rw [ua8 hi, uG3]
      by_cases h0 : up5 l ps ts[i] = 0
      · rw [h0, if_neg (by simp), if_pos rfl, ua7 hi hl]
        exact ⟨j, hj⟩
      · rw [if_pos (by simpa using h0), if_neg h0]
        exact ⟨_, rfl⟩
  obtain ⟨j, hj⟩ := loop (Nat.zero_le _)
  rw [show ((0 : Int)) = ((0 : Nat) : Int) from rfl, hj]
  simp only [ua0, List.drop_zero]
theorem wc8 {l : List ua3} {ps : List ByteArray} (n k v : Int) (s : ByteArray) (ts : List ua1) (hl : ts.length ≤ big)
    (ih : ∀ t ∈ ts, run_z21 (.start l ps t.Kind t.Value t.Name t.Parts) = some ((up5 l ps t, ()), ())) :
    run_z21 (.p15 n l ps k v s ts) = some ((if (ts.length : Int) = n then (if k = 2 ∧ ¬ (0 ≤ v ∧ v ≤ 1000000000) then 2 else nodeEs l ps ts) else 10, ()), ()) := by
  rw [run_z21]
  by_cases hn : (ts.length : Int) = n
  · rw [if_neg (by simpa using hn), if_pos hn]
    by_cases hk : k = 2
    · rw [if_pos (by simpa using hk)]
      simp only [uG6, ua0, vJ4 _ _ _ _ hl ih]
      by_cases hv : 0 ≤ v ∧ v ≤ 1000000000
      · rw [if_neg (by simp [hv]), if_neg (by simp [hv])]
      · rw [if_pos (by rw [decide_eq_false hv]; rfl), if_pos ⟨hk, hv⟩]
    · rw [if_neg (by simpa using hk), if_neg (by simp [hk]), vJ4 _ _ _ _ hl ih]
  · rw [if_pos (by simpa using hn), if_neg hn]
theorem wv6 {l : List ua3} {ps : List ByteArray} (hl : l.length ≤ big) (hps : ps.length ≤ big) : ∀ t, lenOk t → run_z21 (.start l ps t.Kind t.Value t.Name t.Parts) = some ((up5 l ps t, ()), ()) := by
  refine uk9 fun k v s ts ih hok => ?_
  obtain ⟨_, _, _, _, hlen, hs⟩ := hok
  have ih' := fun t ht => ih t ht (hs t ht)
  rw [run_z21, u91]
  simp only [vg3 _ _ hps, pdat _ _ _ hl, ua0, uh1, wc8 _ _ _ _ _ hlen ih']
  unfold uz5
  by_cases h0 : k = 0
  · subst h0
    cases has ps s <;> simp
  · by_cases h1 : k = 1
    · subst h1
      cases hd : dat l s with
      | some d => simp
      | none =>
        by_cases hb : s = sBit
        · subst hb; simp
        · by_cases hb2 : s = uE9
          · subst hb2; simp
          · simp [hb, hb2]
    · by_cases h2 : k = 2
      · subst h2; simp
      · simp [h0, h1, h2]
def ug6 (l : List ua3) : Prop := ∀ d ∈ l, d.Name ≠ sBit ∧ d.Name ≠ uE9
theorem uD1 {l : List ua3} (h : ug6 l) {s : ByteArray} (hs : s = sBit ∨ s = uE9) : dat l s = none := by
  rcases uI9 l s with ⟨_, h2⟩ | ⟨j, d, _, h2, _, h4⟩
  · exact h2
  · have := h d (List.mem_of_getElem? h2)
    rw [h4] at this
    rcases hs with rfl | rfl
    · exact absurd rfl this.1
    · exact absurd rfl this.2
theorem we2 {l : List ua3} {ps : List ByteArray} (n k v : Int) (s : ByteArray) (ts : List ua1) (hl : ts.length ≤ big)
    (ih : ∀ t ∈ ts, ud2 (.start l ps t.Kind t.Value t.Name t.Parts) = some ((up5 l ps t, ()), ())) :
    ud2 (.p63 l ps n k v s ts) = some ((if (ts.length : Int) = n then (if k = 2 ∧ ¬ (0 ≤ v ∧ v ≤ 1000000000) then 2 else nodeEs l ps ts) else 10, ()), ()) := by
  have loop : ∀ {i}, i ≤ ts.length → ud2 (.p4084 l ps (i : Int) k v s ts) = some ((nodeEs l ps (ts.drop i), ()), ()) := by
    refine ub0 ts (P := fun i => ud2 (.p4084 l ps (i : Int) k v s ts) = some ((nodeEs l ps (ts.drop i), ()), ())) ?_ ?_
    · rw [ud2]
      simp only [lt_f, Bool.false_eq_true, if_false]
      rw [List.drop_length, uP3]
    · intro i hi hj
      rw [ud2]
      simp only [lt_t hi, if_true, ua9 hi, ua0, ih _ (List.getElem_mem hi)]
      rw [ua8 hi, uG3]
      by_cases h0 : up5 l ps ts[i] = 0
      · rw [h0, if_neg (by simp), if_pos rfl, ua7 hi hl]
        exact hj
      · rw [if_pos (by simpa using h0), if_neg h0]
  have h255 : ud2 (.p255 l ps k v s ts) = some ((nodeEs l ps ts, ()), ()) := by
    rw [ud2]
    exact loop (Nat.zero_le _)
  rw [ud2]
  by_cases hn : (ts.length : Int) = n
  · rw [if_neg (by simpa using hn), if_pos hn]
    by_cases hk : k = 2
    · rw [if_pos (by simpa using hk)]
      simp only [u09, ua0, h255]
      by_cases hv : 0 ≤ v ∧ v ≤ 1000000000
      · rw [if_neg (by simp [hv]), if_neg (by simp [hv])]
      · rw [if_pos (by rw [decide_eq_false hv]; rfl), if_pos ⟨hk, hv⟩]
    · rw [if_neg (by simpa using hk), if_neg (by simp [hk]), h255]
  · rw [if_pos (by simpa using hn), if_neg hn]
theorem ww3 {l : List ua3} {ps : List ByteArray} (hl : l.length ≤ big) (hps : ps.length ≤ big) (hp : ug6 l) : ∀ t, lenOk t → ud2 (.start l ps t.Kind t.Value t.Name t.Parts) = some ((up5 l ps t, ()), ()) := by
  refine uk9 fun k v s ts ih hok => ?_
  obtain ⟨_, _, _, _, hlen, hs⟩ := hok
  have ih' := fun t ht => ih t ht (hs t ht)
  have h31 : ud2 (.p31 l ps 0 k v s ts) = some ((if k = 1 then (match dat l s with | some d => (if (ts.length : Int) = (d.Params.length : Int) then (if k = 2 ∧ ¬ (0 ≤ v ∧ v ≤ 1000000000) then 2 else nodeEs l ps ts) else 10) | none => if s = sBit then (if (ts.length : Int) = 1 then (if k = 2 ∧ ¬ (0 ≤ v ∧ v ≤ 1000000000) then 2 else nodeEs l ps ts) else 10) else if s = uE9 then (if (ts.length : Int) = 0 then (if k = 2 ∧ ¬ (0 ≤ v ∧ v ≤ 1000000000) then 2 else nodeEs l ps ts) else 10) else 6) else (if (ts.length : Int) = 0 then (if k = 2 ∧ ¬ (0 ≤ v ∧ v ≤ 1000000000) then 2 else nodeEs l ps ts) else 10), ()), ()) := by
    rw [ud2]
    simp only [rdat _ _ hl, ua0, uh1, we2 _ _ _ _ _ hlen ih']
    by_cases h1 : k = 1
    · rw [if_pos (by simpa using h1), if_pos h1]
      by_cases hb : s = sBit
      · rw [if_pos (by simpa using hb), uD1 hp (.inl hb)]
        simp only
        rw [if_pos hb]
      · rw [if_neg (by simpa using hb)]
        by_cases hb2 : s = uE9
        · rw [if_pos (by simpa using hb2), uD1 hp (.inr hb2)]
          simp only
          rw [if_neg hb, if_pos hb2]
        · rw [if_neg (by simpa using hb2)]
          rcases uI9 l s with ⟨e1, e2⟩ | ⟨j, d, e1, e2, e3, e4⟩
          · rw [e1, e2]
            simp [hb, hb2]
          · rw [e1, e3, if_pos (by simp), uO8, e2]
            simp only [ua0]
    · rw [if_neg (by simpa using h1), if_neg h1]
  rw [ud2, u91]
  simp only [u09, rhas _ _ hps, ua0, h31]
  unfold uz5
  by_cases h0 : k = 0
  · subst h0
    cases has ps s <;> simp
  · by_cases h1 : k = 1
    · subst h1
      cases hd : dat l s with
      | some d => simp
      | none =>
        by_cases hb : s = sBit
        · subst hb; simp
        · by_cases hb2 : s = uE9
          · subst hb2; simp
          · simp [hb, hb2]
    · by_cases h2 : k = 2
      · subst h2; simp
      · have : ¬ (0 ≤ k ∧ k ≤ 2) := by omega
        simp [h0, h1, h2, this]
def uq0 (l : List ua3) (ps : List ByteArray) (t : ua1) : Int := if tree t = true then up5 l ps t else 8
theorem v22 {l : List ua3} {ps : List ByteArray} (hl : l.length ≤ big) (hps : ps.length ≤ big) (t : ua1) (ht : lenOk t) : uH1 (.start l ps t.Kind t.Value t.Name t.Parts) = some ((uq0 l ps t, ()), ()) := by
  rw [uH1]
  simp only [v18 t ht, ua0, wv6 hl hps t ht]
  unfold uq0
  cases tree t <;> simp
theorem v26 {l : List ua3} {ps : List ByteArray} (hl : l.length ≤ big) (hps : ps.length ≤ big) (hp : ug6 l) (t : ua1) (ht : lenOk t) : u07 (.start l ps t.Kind t.Value t.Name t.Parts) = some ((uq0 l ps t, ()), ()) := by
  rw [u07]
  simp only [we3 t, ua0, ww3 hl hps hp t ht]
  unfold uq0
  cases tree t <;> simp
end Go.Proofs.YtaennkkcnhfglaaGreatDoor.Ev.F
namespace Go.Proofs.YtaennkkcnhfglaaGreatDoor.Ev.F
open Go.Proofs.YtaennkkcnhfglaaGreatDoor.Ev
def uf2 : List ByteArray → List ByteArray → Int
 | _, [] => 0
 | known, p :: r => if newE p known = 0 then uf2 (known ++ [p]) r else newE p known
def ud1 (l : List ua3) (ps : List ByteArray) : List ByteArray → List ua6 → Int
 | _, [] => 0
 | known, f :: r => if newE f.Name known = 0 then (if uq0 l ps f.Type_ = 0 then ud1 l ps (known ++ [f.Name]) r else uq0 l ps f.Type_) else newE f.Name known
def uu0 (l : List ua3) (ps : List ByteArray) : List ByteArray → List ua2 → Int
 | _, [] => 0
 | known, c :: r => if newE c.Name known = 0 then (if c.Fields.length ≤ 8 then (if ud1 l ps [] c.Fields = 0 then uu0 l ps (known ++ [c.Name]) r else ud1 l ps [] c.Fields) else 8) else newE c.Name known
def vy6 (names : List ByteArray) (d : ua3) : Int := ug4 [newE d.Name (names ++ [sBit, uE9, uM5]), if d.Params.length ≤ 4 ∧ d.Constructors.length ≤ 16 then 0 else 8, if 0 < d.Constructors.length then 0 else 10]
def us9 (names cons : List ByteArray) (l : List ua3) (d : ua3) : Int :=
  if vy6 names d = 0 then (if uf2 [] d.Params = 0 then uu0 l d.Params (cons ++ [us5, uH5]) d.Constructors else uf2 [] d.Params) else vy6 names d
structure uV0 (f : ua6) : Prop where
  name : f.Name.size ≤ big
  tree : tree f.Type_ = true
structure v32 (c : ua2) : Prop where
  name : c.Name.size ≤ big
  len : c.Fields.length ≤ 12
  fs : ∀ f ∈ c.Fields, uV0 f
structure uh8 (d : ua3) : Prop where
  name : d.Name.size ≤ big
  plen : d.Params.length ≤ 12
  ps : ∀ p ∈ d.Params, p.size ≤ big
  clen : d.Constructors.length ≤ 20
  cs : ∀ c ∈ d.Constructors, v32 c
theorem up9 {t : ua1} (h : tree t = true) : tsz t ≤ 200 ∧ tdp t ≤ 40 := of_decide_eq_true h
theorem uV0.lenOk {f : ua6} (h : uV0 f) : lenOk f.Type_ := u62 _ (by have := up9 h.tree; unfold big; omega)
theorem uD0 {α : Type} (l : List α) (i : Nat) : cut l (0, i) = l.take i := by simp [cut]
theorem uv2 {n i : Nat} (h : i ≤ n) : span n 0 (i : Int) = some (0, i) := by
  unfold span
  rw [if_pos ⟨by omega, by omega, by omega⟩]
  rfl
theorem uc1 {α : Type} {l : List α} {i : Nat} (h : i < l.length) : l.take (i + 1) = l.take i ++ [l[i]] := by
  rw [List.take_add_one, List.getElem?_eq_getElem h]; rfl
theorem wc9 (d : ua3) (hd : uh8 d) : ∃ j : Int, un6 (.start d.Params d.Name d.Params d.Constructors) = some ((j, (uf2 [] d.Params, ())), ((d.Name, (d.Params, (d.Constructors, ()))), ())) := by
  rw [un6]
  have hb : d.Params.length ≤ big := by have := hd.plen; unfold big; omega
  have loop : ∀ {i}, i ≤ d.Params.length → ∃ j : Int, un6 (.p52 d.Params (List.length d.Params : Int) (i : Int) d.Name d.Params d.Constructors) = some ((j, (uf2 (d.Params.take i) (d.Params.drop i), ())), ((d.Name, (d.Params, (d.Constructors, ()))), ())) := by
    refine ub0 d.Params (P := fun i => ∃ j : Int, un6 (.p52 d.Params (List.length d.Params : Int) (i : Int) d.Name d.Params d.Constructors) = some ((j, (uf2 (d.Params.take i) (d.Params.drop i), ())), ((d.Name, (d.Params, (d.Constructors, ()))), ()))) ?_ ?_
    · rw [un6]
      simp only [lt_f, Bool.false_eq_true, if_false]
      rw [List.drop_length]
      exact ⟨0, rfl⟩
    · intro i hi ⟨j, hj⟩
      rw [un6]
      simp only [lt_t hi, if_true, ua9 hi, ua0, uZ6]
      rw [uv2 (Nat.le_of_lt hi)]
      simp only [ua0, uD0]
      rw [pnew _ _ (hd.ps _ (List.getElem_mem hi)) (by rw [List.length_take]; omega)]
      simp only [ua0]
      rw [ua8 hi]
      rw [show uf2 (d.Params.take i) (d.Params[i] :: d.Params.drop (i + 1)) = if newE d.Params[i] (d.Params.take i) = 0 then uf2 (d.Params.take i ++ [d.Params[i]]) (d.Params.drop (i + 1)) else newE d.Params[i] (d.Params.take i) from rfl]
      by_cases h0 : newE d.Params[i] (d.Params.take i) = 0
      · rw [h0, if_neg (by simp), if_pos rfl, ua7 hi hb, ← uc1 hi]
        exact ⟨j, hj⟩
      · rw [if_pos (by simpa using h0), if_neg h0]
        exact ⟨_, rfl⟩
  obtain ⟨j, hj⟩ := loop (Nat.zero_le _)
  exact ⟨j, hj⟩
theorem wc6 {l : List ua3} {ps : List ByteArray} (hl : l.length ≤ big) (hps : ps.length ≤ big) (fs : List ua6) (hfl : fs.length ≤ 12) (hf : ∀ f ∈ fs, uV0 f) : ∃ (j : Int) (kn : List ByteArray), un8 (.start fs l ps) = some ((j, (ud1 l ps [] fs, ())), (((), ()), ((l, (ps, ())), (kn, ())))) := by
  rw [un8]
  have hb : fs.length ≤ big := by unfold big; omega
  have loop : ∀ {i}, i ≤ fs.length → ∃ (j : Int) (kn : List ByteArray), un8 (.p52 fs (List.length fs : Int) (i : Int) l ps ((fs.take i).map ua6.Name)) = some ((j, (ud1 l ps ((fs.take i).map ua6.Name) (fs.drop i), ())), (((), ()), ((l, (ps, ())), (kn, ())))) := by
    refine ub0 fs (P := fun i => ∃ (j : Int) (kn : List ByteArray), un8 (.p52 fs (List.length fs : Int) (i : Int) l ps ((fs.take i).map ua6.Name)) = some ((j, (ud1 l ps ((fs.take i).map ua6.Name) (fs.drop i), ())), (((), ()), ((l, (ps, ())), (kn, ()))))) ?_ ?_
    · rw [un8]
      simp only [lt_f, Bool.false_eq_true, if_false]
      rw [List.drop_length]
      exact ⟨0, _, rfl⟩
    · intro i hi ⟨j, kn, hj⟩
      rw [un8]
      simp only [lt_t hi, if_true, ua9 hi, ua0, uZ9]
      have hfi := hf _ (List.getElem_mem hi)
      have hlen : ((fs.take i).map ua6.Name).length ≤ 12 := by rw [List.length_map, List.length_take]; omega
      rw [pnew _ _ hfi.name (by unfold big; omega)]
      simp only [ua0]
      rw [ua8 hi]
      rw [show ud1 l ps ((fs.take i).map ua6.Name) (fs[i] :: fs.drop (i + 1)) = if newE fs[i].Name ((fs.take i).map ua6.Name) = 0 then (if uq0 l ps fs[i].Type_ = 0 then ud1 l ps ((fs.take i).map ua6.Name ++ [fs[i].Name]) (fs.drop (i + 1)) else uq0 l ps fs[i].Type_) else newE fs[i].Name ((fs.take i).map ua6.Name) from rfl]
      by_cases h0 : newE fs[i].Name ((fs.take i).map ua6.Name) = 0
      · rw [h0]
        rw [if_neg (by simp), if_pos rfl, if_pos (ug1 (by simp only [List.length_singleton]; omega)), v22 hl hps _ hfi.lenOk]
        simp only [ua0]
        by_cases h1 : uq0 l ps fs[i].Type_ = 0
        · rw [h1, if_neg (by simp), if_pos rfl, ua7 hi hb]
          rw [uc1 hi, List.map_append] at hj
          exact ⟨j, kn, hj⟩
        · rw [if_pos (by simpa using h1), if_neg h1]
          exact ⟨_, _, rfl⟩
      · rw [if_neg h0, if_pos (by simpa using h0)]
        simp only [ua0]
        rw [if_pos (by simpa using h0)]
        exact ⟨_, _, rfl⟩
  obtain ⟨j, kn, hj⟩ := loop (Nat.zero_le _)
  exact ⟨j, kn, hj⟩
theorem wv3 {l : List ua3} {ps : List ByteArray} (hl : l.length ≤ big) (hps : ps.length ≤ big) (kn : List ByteArray) (hk : kn.length ≤ 1000000) (cs : List ua2) (hcl : cs.length ≤ 20) (hc : ∀ c ∈ cs, v32 c) : ∃ (j : Int) (kn' : List ByteArray), un9 (.start cs l ps kn) = some ((j, (uu0 l ps kn cs, ())), (((), ()), ((l, (ps, ())), (kn', ())))) := by
  rw [un9]
  have hb : cs.length ≤ big := by unfold big; omega
  have loop : ∀ {i}, i ≤ cs.length → ∃ (j : Int) (kn' : List ByteArray), un9 (.p52 cs (List.length cs : Int) (i : Int) l ps (kn ++ (cs.take i).map ua2.Name)) = some ((j, (uu0 l ps (kn ++ (cs.take i).map ua2.Name) (cs.drop i), ())), (((), ()), ((l, (ps, ())), (kn', ())))) := by
    refine ub0 cs (P := fun i => ∃ (j : Int) (kn' : List ByteArray), un9 (.p52 cs (List.length cs : Int) (i : Int) l ps (kn ++ (cs.take i).map ua2.Name)) = some ((j, (uu0 l ps (kn ++ (cs.take i).map ua2.Name) (cs.drop i), ())), (((), ()), ((l, (ps, ())), (kn', ()))))) ?_ ?_
    · rw [un9]
      simp only [lt_f, Bool.false_eq_true, if_false]
      rw [List.drop_length]
      exact ⟨0, _, rfl⟩
    · intro i hi ⟨j, kn', hj⟩
      rw [un9]
      simp only [lt_t hi, if_true, ua9 hi, ua0, u00]
      have hci := hc _ (List.getElem_mem hi)
      have hlen : (kn ++ (cs.take i).map ua2.Name).length ≤ 1000020 := by rw [List.length_append, List.length_map, List.length_take]; omega
      rw [pnew _ _ hci.name (by unfold big; omega)]
      simp only [ua0, ux3]
      rw [uK1 _ (by simp [big])]
      simp only [ua0]
      rw [ua8 hi]
      generalize hg : kn ++ (cs.take i).map ua2.Name = g at hj hlen ⊢
      rw [show uu0 l ps g (cs[i] :: cs.drop (i + 1)) = if newE cs[i].Name g = 0 then (if cs[i].Fields.length ≤ 8 then (if ud1 l ps [] cs[i].Fields = 0 then uu0 l ps (g ++ [cs[i].Name]) (cs.drop (i + 1)) else ud1 l ps [] cs[i].Fields) else 8) else newE cs[i].Name g from rfl]
      by_cases h0 : newE cs[i].Name g = 0
      · rw [h0, if_pos rfl]
        by_cases h8 : cs[i].Fields.length ≤ 8
        · have e8 : decide ((List.length cs[i].Fields : Int) ≤ 8) = true := decide_eq_true (by omega)
          rw [e8, if_pos h8]
          simp only [if_true]
          rw [show ug4 [0, 0] = 0 from rfl, if_neg (by simp), if_pos (ug1 (by simp only [List.length_singleton]; omega))]
          obtain ⟨j2, k2, e2⟩ := wc6 hl hps cs[i].Fields hci.len hci.fs
          rw [e2]
          simp only [ua0]
          by_cases h1 : ud1 l ps [] cs[i].Fields = 0
          · rw [h1, if_neg (by simp), if_pos rfl, ua7 hi hb]
            rw [uc1 hi, List.map_append, ← List.append_assoc, hg] at hj
            exact ⟨j, kn', hj⟩
          · rw [if_pos (by simpa using h1), if_neg h1]
            exact ⟨_, _, rfl⟩
        · have e8 : decide ((List.length cs[i].Fields : Int) ≤ 8) = false := decide_eq_false (by omega)
          rw [e8, if_neg h8]
          simp only [Bool.false_eq_true, if_false]
          rw [show ug4 [0, 8] = 8 from rfl, if_pos (by decide)]
          simp only [ua0]
          rw [if_pos (by decide)]
          exact ⟨_, _, rfl⟩
      · rw [if_neg h0]
        rw [show ug4 [newE cs[i].Name g, if decide ((List.length cs[i].Fields : Int) ≤ 8) = true then 0 else 8] = newE cs[i].Name g by simp only [ug4]; rw [if_neg h0]]
        rw [if_pos (by simpa using h0)]
        simp only [ua0]
        rw [if_pos (by simpa using h0)]
        exact ⟨_, _, rfl⟩
  obtain ⟨j, kn', hj⟩ := loop (Nat.zero_le _)
  rw [List.take_zero, List.map_nil, List.append_nil, List.drop_zero] at hj
  exact ⟨j, kn', hj⟩
theorem wv4 {names cons : List ByteArray} (hn : names.length ≤ 1000) (hc : cons.length ≤ 1000) {l : List ua3} (hl : l.length ≤ big) {d : ua3} (hd : uh8 d) : us1 (.start l [] d.Name d.Params d.Constructors names cons) = some ((us9 names cons l d, ()), ()) := by
  have h7 : ∀ e, us1 (.p7 cons e l [] d.Name d.Params d.Constructors) = some ((if e = 0 then (if uf2 [] d.Params = 0 then uu0 l d.Params (cons ++ [us5, uH5]) d.Constructors else uf2 [] d.Params) else e, ()), ()) := by
    intro e
    rw [us1]
    by_cases h0 : e = 0
    · subst h0
      rw [if_neg (by simp), if_pos rfl]
      obtain ⟨j, ej⟩ := wc9 d hd
      rw [ej]
      simp only [ua0]
      by_cases h1 : uf2 [] d.Params = 0
      · rw [h1, if_neg (by simp), if_pos rfl, if_pos (ug1 (by simp only [List.length_cons, List.length_nil]; omega))]
        obtain ⟨j2, k2, e2⟩ := wv3 (l := l) (ps := d.Params) hl (by have := hd.plen; unfold big; omega) (cons ++ [us5, uH5]) (by simp only [List.length_append, List.length_cons, List.length_nil]; omega) d.Constructors hd.clen hd.cs
        rw [e2]
        simp only [ua0]
      · rw [if_pos (by simpa using h1), if_neg h1]
    · rw [if_pos (by simpa using h0), if_neg h0]
  rw [us1]
  rw [if_pos (ug1 (by simp only [List.length_cons, List.length_nil]; omega))]
  rw [pnew _ _ hd.name (by simp only [List.length_append, List.length_cons, List.length_nil]; unfold big; omega)]
  simp only [ua0, ux3, h7]
  unfold us9 vy6
  have e3 : (if decide ((List.length d.Constructors : Int) > 0) = true then (0 : Int) else 10) = if 0 < d.Constructors.length then 0 else 10 := by
    by_cases h : 0 < d.Constructors.length
    · rw [if_pos h, if_pos (decide_eq_true (by omega))]
    · rw [if_neg h, decide_eq_false (by omega), if_neg (by simp)]
  by_cases h4 : d.Params.length ≤ 4
  · rw [if_pos (decide_eq_true (by omega))]
    rw [uK1 _ (by simp [big])]
    have e2 : (if decide ((List.length d.Constructors : Int) ≤ 16) = true then (0 : Int) else 8) = if d.Params.length ≤ 4 ∧ d.Constructors.length ≤ 16 then 0 else 8 := by
      by_cases h : d.Constructors.length ≤ 16
      · rw [if_pos (decide_eq_true (by omega)), if_pos ⟨h4, h⟩]
      · have hn2 : ¬ (d.Params.length ≤ 4 ∧ d.Constructors.length ≤ 16) := fun hh => h hh.2
        rw [decide_eq_false (by omega), if_neg hn2, if_neg (by simp)]
    rw [e2, e3]
    simp only [ua0]
  · rw [decide_eq_false (by omega), if_neg (by simp)]
    rw [uK1 _ (by simp [big])]
    simp only [ua0, Bool.false_eq_true, if_false]
    have hn2 : ¬ (d.Params.length ≤ 4 ∧ d.Constructors.length ≤ 16) := fun hh => h4 hh.1
    rw [if_neg hn2, e3]
def names (l : List ua3) : List ByteArray := l.map ua3.Name
def ub1 (l : List ua3) : List ByteArray := l.flatMap fun d => d.Constructors.map ua2.Name
def chk (l : List ua3) : Nat → List ua3 → Int × Int
 | _, [] => (0, 0)
 | i, d :: r => if us9 (names (l.take i)) (ub1 (l.take i)) (l.take i) d = 0 then chk l (i + 1) r else ((i : Int), us9 (names (l.take i)) (ub1 (l.take i)) (l.take i) d)
def uz4 (l : List ua3) : Int × Int := if l.length > 20 then (0, 8) else chk l 0 l
theorem uW3 (a b : List ua3) : ub1 (a ++ b) = ub1 a ++ ub1 b := by simp [ub1]
theorem ve2 {l : List ua3} (hl : ∀ d ∈ l, uh8 d) : (ub1 l).length ≤ 20 * l.length := by
  induction l with
  | nil => simp [ub1]
  | cons d l ih =>
    have h1 := ih fun x hx => hl x (List.mem_cons_of_mem _ hx)
    have h2 := (hl d (List.mem_cons_self ..)).clen
    rw [show ub1 (d :: l) = d.Constructors.map ua2.Name ++ ub1 l by simp [ub1], List.length_append, List.length_map, List.length_cons]
    omega
theorem wv2 (l : List ByteArray) : u02 (.start l) = some ((l, ()), ()) := by
  rw [u02]
  simp only [decide_true, cond_true]
  rw [uv2 (Nat.le_refl _)]
  simp only [ua0, uD0, List.take_length]
theorem wc3 {l : List ua3} (i : Nat) (hi : i ≤ l.length) (hl : l.length ≤ 1000) {d : ua3} (hd : uh8 d) {nm cn : List ByteArray} (hn : nm.length ≤ 1000) (hc : cn.length ≤ 900) :
    uo0 (.start (i : Int) d.Name d.Params d.Constructors l nm cn) = some ((us9 nm cn (l.take i) d, ()), ((l, ()), (((), ()), (((), ()), (nm ++ [d.Name], (cn ++ d.Constructors.map ua2.Name, ())))))) := by
  have loop : ∀ e nm', ∀ {k}, k ≤ d.Constructors.length → uo0 (.p244 e d.Constructors (List.length d.Constructors : Int) (k : Int) l nm' (cn ++ (d.Constructors.take k).map ua2.Name)) = some ((e, ()), ((l, ()), (((), ()), (((), ()), (nm', (cn ++ d.Constructors.map ua2.Name, ())))))) := by
    intro e nm' k
    have hcl := hd.clen
    refine ub0 d.Constructors (P := fun k => uo0 (.p244 e d.Constructors (List.length d.Constructors : Int) (k : Int) l nm' (cn ++ (d.Constructors.take k).map ua2.Name)) = some ((e, ()), ((l, ()), (((), ()), (((), ()), (nm', (cn ++ d.Constructors.map ua2.Name, ()))))))) ?_ ?_
    · rw [uo0]
      simp only [lt_f, Bool.false_eq_true, if_false, List.take_length]
    · intro k hk ih
      rw [uo0]
      simp only [lt_t hk, if_true, ua9 hk, ua0]
      rw [if_pos (ug1 (by simp only [List.length_cons, List.length_nil, List.length_append, List.length_map, List.length_take]; omega)), ua7 hk (by omega)]
      rw [uc1 hk, List.map_append, ← List.append_assoc] at ih
      exact ih
  rw [uo0]
  rw [uv2 hi]
  simp only [ua0, wv2, uD0]
  rw [wv4 hn (by omega) (by rw [List.length_take]; unfold big; omega) hd]
  simp only [ua0]
  rw [if_pos (ug1 (by simp only [List.length_cons, List.length_nil]; omega))]
  have := loop (us9 nm cn (l.take i) d) (nm ++ [d.Name]) (Nat.zero_le _)
  rw [List.take_zero, List.map_nil, List.append_nil] at this
  exact this
theorem wn1 (l : List ua3) (hl : l.length ≤ 24) (hd : ∀ d ∈ l, uh8 d) : uQ0 (.start l) = some (((uz4 l).1, ((uz4 l).2, ())), ()) := by
  rw [uQ0]
  unfold uz4
  by_cases h20 : l.length > 20
  · rw [if_pos (decide_eq_true (by omega)), if_pos h20]
  · rw [decide_eq_false (by omega), if_neg (by simp), if_neg h20, up6]
    have loop : ∀ {i}, i ≤ l.length → ∃ bx, up6 (.p52 l (List.length l : Int) (i : Int) l (names (l.take i)) (ub1 (l.take i))) = some (((chk l i (l.drop i)).1, ((chk l i (l.drop i)).2, ())), bx) := by
      refine ub0 l (P := fun i => ∃ bx, up6 (.p52 l (List.length l : Int) (i : Int) l (names (l.take i)) (ub1 (l.take i))) = some (((chk l i (l.drop i)).1, ((chk l i (l.drop i)).2, ())), bx)) ?_ ?_
      · rw [up6]
        simp only [lt_f, Bool.false_eq_true, if_false]
        rw [List.drop_length]
        exact ⟨_, rfl⟩
      · intro i hi ⟨bx, hb⟩
        rw [up6]
        simp only [lt_t hi, if_true, ua9 hi, ua0]
        have hcn := ve2 (l := l.take i) fun d h => hd d (List.mem_of_mem_take h)
        rw [List.length_take] at hcn
        rw [wc3 i (Nat.le_of_lt hi) (by omega) (hd _ (List.getElem_mem hi)) (by unfold names; rw [List.length_map, List.length_take]; omega) (by omega)]
        simp only [ua0]
        rw [ua8 hi]
        rw [show chk l i (l[i] :: l.drop (i + 1)) = if us9 (names (l.take i)) (ub1 (l.take i)) (l.take i) l[i] = 0 then chk l (i + 1) (l.drop (i + 1)) else ((i : Int), us9 (names (l.take i)) (ub1 (l.take i)) (l.take i) l[i]) from rfl]
        by_cases h0 : us9 (names (l.take i)) (ub1 (l.take i)) (l.take i) l[i] = 0
        · rw [h0, if_neg (by simp), if_pos rfl, ua7 hi (by omega)]
          have e1 : names (l.take i) ++ [l[i].Name] = names (l.take (i + 1)) := by rw [uc1 hi]; simp only [names, List.map_append, List.map_cons, List.map_nil]
          have e2 : ub1 (l.take i) ++ l[i].Constructors.map ua2.Name = ub1 (l.take (i + 1)) := by rw [uc1 hi, uW3]; simp [ub1]
          rw [e1, e2]
          exact ⟨bx, hb⟩
        · rw [if_pos (by simpa using h0), if_neg h0]
          exact ⟨_, rfl⟩
    obtain ⟨bx, hb⟩ := loop (Nat.zero_le _)
    rw [show names (l.take 0) = [] by simp [names], show ub1 (l.take 0) = [] by simp [ub1], List.drop_zero] at hb
    rw [show ((0 : Int)) = ((0 : Nat) : Int) from rfl, hb]
    simp only [ua0]
end Go.Proofs.YtaennkkcnhfglaaGreatDoor.Ev.F
namespace Go.Proofs.YtaennkkcnhfglaaGreatDoor.Ev.F
open Go.Proofs.YtaennkkcnhfglaaGreatDoor.Ev
theorem uw9 (a : ByteArray) (l : List ByteArray) (s : ByteArray) : has (a :: l) s = (decide (a = s) || has l s) := rfl
theorem uD2 (a b : List ByteArray) (s : ByteArray) : has (a ++ b) s = (has a s || has b s) := by simp [has]
theorem v23 (l : List ua3) (hl : l.length ≤ 1000) (hc : ∀ d ∈ l, d.Constructors.length ≤ 1000) (s : ByteArray) : ui3 (.start l s) = some ((has (ub1 l) s, ()), ()) := by
  rw [ui3]
  have loop : ∀ {i}, i ≤ l.length → ui3 (.p52 l s (i : Int)) = some ((has (ub1 (l.drop i)) s, ()), ()) := by
    refine ub0 l (P := fun i => ui3 (.p52 l s (i : Int)) = some ((has (ub1 (l.drop i)) s, ()), ())) ?_ ?_
    · rw [ui3]
      simp only [lt_f, Bool.false_eq_true, if_false]
      rw [List.drop_length]; rfl
    · intro i hi ih
      rw [ui3]
      simp only [lt_t hi, if_true]
      have hcl := hc _ (List.getElem_mem hi)
      have inner : ∀ {k}, k ≤ l[i].Constructors.length → ui3 (.p3364 l s (i : Int) (k : Int)) = some ((has ((l[i].Constructors.drop k).map ua2.Name) s || has (ub1 (l.drop (i + 1))) s, ()), ()) := by
        refine ub0 l[i].Constructors (P := fun k => ui3 (.p3364 l s (i : Int) (k : Int)) = some ((has ((l[i].Constructors.drop k).map ua2.Name) s || has (ub1 (l.drop (i + 1))) s, ()), ())) ?_ ?_
        · rw [ui3]
          simp only [ua9 hi, ua0, lt_f, Bool.false_eq_true, if_false]
          rw [ua7 hi (by omega), ih, List.drop_length]; rfl
        · intro k hk ihk
          rw [ui3]
          simp only [ua9 hi, ua0, lt_t hk, if_true, ua9 hk, uh1]
          rw [ua7 hk (by omega), ihk, ua8 hk, List.map_cons, uw9]
          by_cases h0 : l[i].Constructors[k].Name = s <;> simp [h0]
      rw [show ((0 : Int)) = ((0 : Nat) : Int) from rfl, inner (Nat.zero_le _), List.drop_zero, ua8 hi]
      rw [show ub1 (l[i] :: l.drop (i + 1)) = l[i].Constructors.map ua2.Name ++ ub1 (l.drop (i + 1)) by simp only [ub1, List.flatMap_cons], uD2]
  have := loop (Nat.zero_le _)
  rw [List.drop_zero] at this
  exact this
theorem uT5 {s : ByteArray} {l : List ByteArray} (h : isN s = false) : newE s l = 4 := by simp [newE, h]
theorem u90 {s : ByteArray} {l : List ByteArray} (h : isN s = true) : newE s l = if has l s = true then 5 else 0 := by simp [newE, h]
theorem we0 (d : ua3) (c : ua2) (hc : v32 c) {l : List ua3} (hl : l.length ≤ big) (hps : d.Params.length ≤ big) (hp : ug6 l) :
    uj0 (.start d.Name d.Params d.Constructors c.Name c.Fields l) = some ((if c.Fields.length ≤ 8 then ud1 l d.Params [] c.Fields else 8, ()), ()) := by
  rw [uj0]
  have hlen := hc.len
  by_cases h8 : c.Fields.length ≤ 8
  · rw [decide_eq_false (by omega), if_neg (by simp), if_pos h8]
    generalize hfs : c.Fields = fs at hlen
    have hf : ∀ f ∈ fs, uV0 f := by rw [← hfs]; exact hc.fs
    have loop : ∀ {i}, i ≤ fs.length → uj0 (.p116 l (i : Int) d.Name d.Params d.Constructors c.Name fs) = some ((ud1 l d.Params ((fs.take i).map ua6.Name) (fs.drop i), ()), ()) := by
      refine ub0 fs (P := fun i => uj0 (.p116 l (i : Int) d.Name d.Params d.Constructors c.Name fs) = some ((ud1 l d.Params ((fs.take i).map ua6.Name) (fs.drop i), ()), ())) ?_ ?_
      · rw [uj0]
        simp only [lt_f, Bool.false_eq_true, if_false]
        rw [List.drop_length]; rfl
      · intro i hi ih
        rw [uj0]
        simp only [lt_t hi, if_true, ua9 hi, ua0, vW8]
        have hfi := hf _ (List.getElem_mem hi)
        rw [ua8 hi]
        rw [show ud1 l d.Params ((fs.take i).map ua6.Name) (fs[i] :: fs.drop (i + 1)) = if newE fs[i].Name ((fs.take i).map ua6.Name) = 0 then (if uq0 l d.Params fs[i].Type_ = 0 then ud1 l d.Params ((fs.take i).map ua6.Name ++ [fs[i].Name]) (fs.drop (i + 1)) else uq0 l d.Params fs[i].Type_) else newE fs[i].Name ((fs.take i).map ua6.Name) from rfl]
        cases hN : isN fs[i].Name with
        | false => rw [uT5 hN]; rfl
        | true =>
          rw [u90 hN]
          simp only [Bool.not_true, Bool.false_eq_true, if_false]
          have tl : (fs.take i).length = i := by rw [List.length_take]; omega
          have inner : ∀ {k}, k ≤ (fs.take i).length → uj0 (.p59700 l (i : Int) (k : Int) d.Name d.Params d.Constructors c.Name fs fs[i].Name fs[i].Type_.Kind fs[i].Type_.Value fs[i].Type_.Name fs[i].Type_.Parts) = some ((if has (((fs.take i).drop k).map ua6.Name) fs[i].Name = true then 5 else (if uq0 l d.Params fs[i].Type_ = 0 then ud1 l d.Params ((fs.take i).map ua6.Name ++ [fs[i].Name]) (fs.drop (i + 1)) else uq0 l d.Params fs[i].Type_), ()), ()) := by
            refine ub0 (fs.take i) (P := fun k => uj0 (.p59700 l (i : Int) (k : Int) d.Name d.Params d.Constructors c.Name fs fs[i].Name fs[i].Type_.Kind fs[i].Type_.Value fs[i].Type_.Name fs[i].Type_.Parts) = some ((if has (((fs.take i).drop k).map ua6.Name) fs[i].Name = true then 5 else (if uq0 l d.Params fs[i].Type_ = 0 then ud1 l d.Params ((fs.take i).map ua6.Name ++ [fs[i].Name]) (fs.drop (i + 1)) else uq0 l d.Params fs[i].Type_), ()), ())) ?_ ?_
            · rw [uj0]
              rw [tl]
              simp only [lt_f, Bool.false_eq_true, if_false]
              rw [v26 hl hps hp _ hfi.lenOk, List.drop_of_length_le (by omega)]
              simp only [ua0, List.map_nil, show has [] fs[i].Name = false from rfl, Bool.false_eq_true, if_false]
              by_cases h1 : uq0 l d.Params fs[i].Type_ = 0
              · rw [h1, if_neg (by simp), if_pos rfl, ua7 hi (by omega), ih, uc1 hi, List.map_append]; rfl
              · rw [if_pos (by simpa using h1), if_neg h1]
            · intro k hk ihk
              have hki : k < i := by omega
              have hkf : k < fs.length := by omega
              rw [uj0]
              simp only [lt_t hki, if_true, ua9 hkf, ua0, uh1]
              rw [ua7 hk (by omega), ihk, ua8 hk, List.map_cons, uw9, List.getElem_take]
              by_cases h0 : fs[k].Name = fs[i].Name <;> simp [h0]
          rw [show ((0 : Int)) = ((0 : Nat) : Int) from rfl, inner (Nat.zero_le _), List.drop_zero]
          cases has ((fs.take i).map ua6.Name) fs[i].Name <;> simp
    exact loop (Nat.zero_le _)
  · rw [decide_eq_true (by omega), if_pos rfl, if_neg h8]
theorem ww0 {l : List ua3} (hl : l.length ≤ 1000) (hok : ∀ d ∈ l, uh8 d) (hp : ug6 l) {d : ua3} (hd : uh8 d) : ud7 (.start d.Name d.Params d.Constructors l) = some ((us9 (names l) (ub1 l) l d, ()), ()) := by
  have hlb : l.length ≤ big := by unfold big; omega
  have hpl := hd.plen
  have hcl := hd.clen
  have hpb : d.Params.length ≤ big := by unfold big; omega
  have hcons : ∀ {i}, i ≤ d.Constructors.length → ud7 (.p2036 l (i : Int) d.Name d.Params d.Constructors) = some ((uu0 l d.Params (ub1 l ++ [us5, uH5] ++ (d.Constructors.take i).map ua2.Name) (d.Constructors.drop i), ()), ()) := by
    refine ub0 d.Constructors (P := fun i => ud7 (.p2036 l (i : Int) d.Name d.Params d.Constructors) = some ((uu0 l d.Params (ub1 l ++ [us5, uH5] ++ (d.Constructors.take i).map ua2.Name) (d.Constructors.drop i), ()), ())) ?_ ?_
    · rw [ud7]
      simp only [lt_f, Bool.false_eq_true, if_false]
      rw [List.drop_length]; rfl
    · intro i hi ih
      rw [ud7]
      simp only [lt_t hi, if_true, ua9 hi, ua0, vW8]
      rw [uv2 (Nat.le_of_lt hi)]
      simp only [ua0, uD0, uh1]
      have hci := hd.cs _ (List.getElem_mem hi)
      rw [v23 l hl (fun x hx => by have := (hok x hx).clen; omega)]
      rw [v23 [⟨⟨#[]⟩, [], d.Constructors.take i⟩] (by simp) (fun x hx => by simp only [List.mem_singleton] at hx; subst hx; simp only [List.length_take]; omega)]
      simp only [ua0]
      rw [show ub1 [(⟨⟨#[]⟩, [], d.Constructors.take i⟩ : ua3)] = (d.Constructors.take i).map ua2.Name by simp [ub1]]
      rw [ua8 hi]
      generalize hg : ub1 l ++ [us5, uH5] ++ (d.Constructors.take i).map ua2.Name = g at ih ⊢
      rw [show uu0 l d.Params g (d.Constructors[i] :: d.Constructors.drop (i + 1)) = if newE d.Constructors[i].Name g = 0 then (if d.Constructors[i].Fields.length ≤ 8 then (if ud1 l d.Params [] d.Constructors[i].Fields = 0 then uu0 l d.Params (g ++ [d.Constructors[i].Name]) (d.Constructors.drop (i + 1)) else ud1 l d.Params [] d.Constructors[i].Fields) else 8) else newE d.Constructors[i].Name g from rfl]
      have h343 : ud7 (.p130343 l (i : Int) d.Name d.Params d.Constructors d.Constructors[i].Name d.Constructors[i].Fields) = some ((if d.Constructors[i].Fields.length ≤ 8 then (if ud1 l d.Params [] d.Constructors[i].Fields = 0 then uu0 l d.Params (g ++ [d.Constructors[i].Name]) (d.Constructors.drop (i + 1)) else ud1 l d.Params [] d.Constructors[i].Fields) else 8, ()), ()) := by
        rw [ud7, we0 d d.Constructors[i] hci hlb hpb hp]
        simp only [ua0]
        by_cases h8 : d.Constructors[i].Fields.length ≤ 8
        · rw [if_pos h8, if_pos h8]
          by_cases h1 : ud1 l d.Params [] d.Constructors[i].Fields = 0
          · rw [h1, if_neg (by simp), if_pos rfl, ua7 hi (by unfold big at *; omega), ← hg]
            rw [ud7] at ih ⊢
            rw [uc1 hi, List.map_append, ← List.append_assoc] at ih
            exact ih
          · rw [if_pos (by simpa using h1), if_neg h1]
        · rw [if_neg h8, if_pos (by decide), if_neg h8]
      cases hN : isN d.Constructors[i].Name with
      | false => rw [uT5 hN]; rfl
      | true =>
        rw [u90 hN, ← hg, uD2, uD2, uw9, uw9]
        rw [hg, h343, show has [] d.Constructors[i].Name = false from rfl, Bool.or_false]
        rw [show decide (us5 = d.Constructors[i].Name) = decide (d.Constructors[i].Name = us5) from decide_eq_decide.2 ⟨Eq.symm, Eq.symm⟩, show decide (uH5 = d.Constructors[i].Name) = decide (d.Constructors[i].Name = uH5) from decide_eq_decide.2 ⟨Eq.symm, Eq.symm⟩]
        generalize decide (d.Constructors[i].Name = us5) = p
        generalize decide (d.Constructors[i].Name = uH5) = q
        cases has (ub1 l) d.Constructors[i].Name <;> cases has ((d.Constructors.take i).map ua2.Name) d.Constructors[i].Name <;> cases p <;> cases q <;> rfl
  have hpar : ∀ {i}, i ≤ d.Params.length → ud7 (.p1012 l (i : Int) d.Name d.Params d.Constructors) = some ((if uf2 (d.Params.take i) (d.Params.drop i) = 0 then uu0 l d.Params (ub1 l ++ [us5, uH5]) d.Constructors else uf2 (d.Params.take i) (d.Params.drop i), ()), ()) := by
    refine ub0 d.Params (P := fun i => ud7 (.p1012 l (i : Int) d.Name d.Params d.Constructors) = some ((if uf2 (d.Params.take i) (d.Params.drop i) = 0 then uu0 l d.Params (ub1 l ++ [us5, uH5]) d.Constructors else uf2 (d.Params.take i) (d.Params.drop i), ()), ())) ?_ ?_
    · rw [ud7]
      simp only [lt_f, Bool.false_eq_true, if_false]
      rw [List.drop_length, show uf2 (d.Params.take d.Params.length) [] = 0 from rfl, if_pos rfl]
      have := hcons (Nat.zero_le _)
      rw [List.take_zero, List.map_nil, List.append_nil, List.drop_zero] at this
      exact this
    · intro i hi ih
      rw [ud7]
      simp only [lt_t hi, if_true, ua9 hi, ua0, vW8]
      rw [uv2 (Nat.le_of_lt hi)]
      simp only [ua0, uD0]
      rw [rhas _ _ (by rw [List.length_take]; omega), ua8 hi]
      rw [show uf2 (d.Params.take i) (d.Params[i] :: d.Params.drop (i + 1)) = if newE d.Params[i] (d.Params.take i) = 0 then uf2 (d.Params.take i ++ [d.Params[i]]) (d.Params.drop (i + 1)) else newE d.Params[i] (d.Params.take i) from rfl]
      simp only [ua0]
      cases hN : isN d.Params[i] with
      | false => rw [uT5 hN]; rfl
      | true =>
        rw [u90 hN, ua7 hi hpb, ih, uc1 hi]
        cases has (d.Params.take i) d.Params[i] <;> rfl
  have h31 : ud7 (.p15 l d.Name d.Params d.Constructors) = some ((if d.Params.length ≤ 4 ∧ d.Constructors.length ≤ 16 then (if 0 < d.Constructors.length then (if uf2 [] d.Params = 0 then uu0 l d.Params (ub1 l ++ [us5, uH5]) d.Constructors else uf2 [] d.Params) else 10) else 8, ()), ()) := by
    rw [ud7]
    by_cases h4 : d.Params.length ≤ 4
    · rw [decide_eq_false (by omega), if_neg (by simp)]
      by_cases h16 : d.Constructors.length ≤ 16
      · rw [decide_eq_false (by omega), if_neg (by simp), if_pos ⟨h4, h16⟩, ud7]
        by_cases h0 : 0 < d.Constructors.length
        · have e0 : ((List.length d.Constructors : Int) == 0) = false := by simp; intro h; rw [h] at h0; simp at h0
          rw [e0, if_neg (by simp), if_pos h0]
          have := hpar (Nat.zero_le _)
          rw [List.take_zero, List.drop_zero] at this
          exact this
        · have e0 : ((List.length d.Constructors : Int) == 0) = true := by simp; cases hh : d.Constructors with | nil => rfl | cons => rw [hh] at h0; simp at h0
          rw [e0, if_pos rfl, if_neg h0]
      · rw [decide_eq_true (by omega), if_pos rfl, if_neg (fun h => h16 h.2)]
    · rw [decide_eq_true (by omega), if_pos rfl, if_neg (fun h => h4 h.1)]
  rw [ud7]
  simp only [vW8, ua0, rdat l _ hlb, uh1, h31, wm5]
  unfold us9 vy6
  cases hN : isN d.Name with
  | false => rw [uT5 hN]; rfl
  | true =>
    rw [u90 hN, uD2, uw9, uw9, uw9]
    rw [show has [] d.Name = false from rfl, Bool.or_false]
    rw [show decide (sBit = d.Name) = decide (d.Name = sBit) from decide_eq_decide.2 ⟨Eq.symm, Eq.symm⟩, show decide (uE9 = d.Name) = decide (d.Name = uE9) from decide_eq_decide.2 ⟨Eq.symm, Eq.symm⟩, show decide (uM5 = d.Name) = decide (d.Name = uM5) from decide_eq_decide.2 ⟨Eq.symm, Eq.symm⟩]
    rw [show (l.any fun x => decide (x.Name = d.Name)) = has (names l) d.Name by simp only [has, names, List.any_map]; rfl]
    generalize decide (d.Name = sBit) = p
    generalize decide (d.Name = uE9) = q
    generalize decide (d.Name = uM5) = r
    by_cases hA : d.Params.length ≤ 4 ∧ d.Constructors.length ≤ 16
    · rw [if_pos hA, if_pos hA]
      by_cases hB : 0 < d.Constructors.length
      · rw [if_pos hB, if_pos hB]
        cases has (names l) d.Name <;> cases p <;> cases q <;> cases r <;> rfl
      · rw [if_neg hB, if_neg hB]
        cases has (names l) d.Name <;> cases p <;> cases q <;> cases r <;> rfl
    · rw [if_neg hA, if_neg hA]
      cases has (names l) d.Name <;> cases p <;> cases q <;> cases r <;> rfl
theorem uc7 {e : Int} {l : List Int} (h : ug4 (e :: l) = 0) : e = 0 ∧ ug4 l = 0 := by
  unfold ug4 at h
  by_cases h0 : e = 0
  · rw [if_pos h0] at h; exact ⟨h0, h⟩
  · rw [if_neg h0] at h; exact absurd h h0
theorem uJ8 {s : ByteArray} {l : List ByteArray} (h : newE s l = 0) : isN s = true ∧ s ∉ l := by
  unfold newE at h
  cases hN : isN s with
  | false => rw [hN] at h; simp at h
  | true =>
    rw [hN] at h
    cases hh : has l s with
    | true => rw [hh] at h; simp at h
    | false => exact ⟨rfl, fun hm => by rw [vH8.2 hm] at hh; cases hh⟩
theorem ur1 {nm cn : List ByteArray} {l : List ua3} {d : ua3} (h : us9 nm cn l d = 0) : newE d.Name (nm ++ [sBit, uE9, uM5]) = 0 ∧ (d.Params.length ≤ 4 ∧ d.Constructors.length ≤ 16) ∧ 0 < d.Constructors.length ∧ uf2 [] d.Params = 0 ∧ uu0 l d.Params (cn ++ [us5, uH5]) d.Constructors = 0 := by
  unfold us9 at h
  by_cases h0 : vy6 nm d = 0
  · rw [if_pos h0] at h
    by_cases h1 : uf2 [] d.Params = 0
    · rw [if_pos h1] at h
      unfold vy6 at h0
      obtain ⟨a, h0⟩ := uc7 h0
      obtain ⟨b, h0⟩ := uc7 h0
      obtain ⟨c, h0⟩ := uc7 h0
      refine ⟨a, ?_, ?_, h1, h⟩
      · by_cases hh : d.Params.length ≤ 4 ∧ d.Constructors.length ≤ 16
        · exact hh
        · rw [if_neg hh] at b; cases b
      · by_cases hh : 0 < d.Constructors.length
        · exact hh
        · rw [if_neg hh] at c; cases c
    · rw [if_neg h1] at h; exact absurd h h1
  · rw [if_neg h0] at h; exact absurd h h0
theorem wo1 (l : List ua3) (hl : l.length ≤ 24) (hd : ∀ d ∈ l, uh8 d) : us2 (.start l) = some (((uz4 l).1, ((uz4 l).2, ())), ()) := by
  rw [us2]
  unfold uz4
  by_cases h20 : l.length > 20
  · rw [decide_eq_true (by omega), if_pos rfl, if_pos h20]
  · rw [decide_eq_false (by omega), if_neg (by simp), if_neg h20]
    have loop : ∀ {i}, i ≤ l.length → ug6 (l.take i) → us2 (.p116 l (i : Int)) = some (((chk l i (l.drop i)).1, ((chk l i (l.drop i)).2, ())), ()) := by
      refine ub0 l (P := fun i => ug6 (l.take i) → us2 (.p116 l (i : Int)) = some (((chk l i (l.drop i)).1, ((chk l i (l.drop i)).2, ())), ())) ?_ ?_
      · intro _
        rw [us2]
        simp only [lt_f, Bool.false_eq_true, if_false]
        rw [List.drop_length]; rfl
      · intro i hi ih hp
        rw [us2]
        simp only [lt_t hi, if_true, ua9 hi, ua0]
        rw [uv2 (Nat.le_of_lt hi)]
        simp only [ua0, uD0]
        rw [ww0 (by rw [List.length_take]; omega) (fun x hx => hd x (List.mem_of_mem_take hx)) hp (hd _ (List.getElem_mem hi))]
        simp only [ua0]
        rw [ua8 hi]
        rw [show chk l i (l[i] :: l.drop (i + 1)) = if us9 (names (l.take i)) (ub1 (l.take i)) (l.take i) l[i] = 0 then chk l (i + 1) (l.drop (i + 1)) else ((i : Int), us9 (names (l.take i)) (ub1 (l.take i)) (l.take i) l[i]) from rfl]
        by_cases h0 : us9 (names (l.take i)) (ub1 (l.take i)) (l.take i) l[i] = 0
        · have h1 := (uJ8 (ur1 h0).1).2
          rw [h0, if_neg (by simp), if_pos rfl, ua7 hi (by omega)]
          refine ih ?_
          rw [uc1 hi]
          intro x hx
          rcases List.mem_append.1 hx with hx | hx
          · exact hp x hx
          · obtain rfl := List.mem_singleton.1 hx
            exact ⟨fun e => h1 (by rw [e]; simp), fun e => h1 (by rw [e]; simp)⟩
        · rw [if_pos (by simpa using h0), if_neg h0]
    exact loop (Nat.zero_le _) (by rw [List.take_zero]; intro d hd; cases hd)
end Go.Proofs.YtaennkkcnhfglaaGreatDoor.Ev.F
namespace Go.Proofs.YtaennkkcnhfglaaGreatDoor.Ev.F
open Go.Proofs.YtaennkkcnhfglaaGreatDoor.Ev
structure um3 (d : ua3) : Prop where
  plen : d.Params.length ≤ 12
  clen : d.Constructors.length ≤ 20
  cs : ∀ c ∈ d.Constructors, c.Fields.length ≤ 12 ∧ ∀ f ∈ c.Fields, tree f.Type_ = true
theorem wo7 (l : List ua3) : ∃ b, ue2 (.start l) = some ((b, ()), ()) ∧ (b = true → l.length ≤ 24 ∧ ∀ d ∈ l, um3 d) := by
  rw [ue2]
  by_cases h24 : l.length > 24
  · rw [decide_eq_true (by omega), if_pos rfl]
    exact ⟨false, rfl, fun h => by cases h⟩
  · rw [decide_eq_false (by omega), if_neg (by simp)]
    have loop : ∀ {i}, i ≤ l.length → ∃ b, ue2 (.p116 l (i : Int)) = some ((b, ()), ()) ∧ (b = true → ∀ d ∈ l.drop i, um3 d) := by
      refine ub0 l (P := fun i => ∃ b, ue2 (.p116 l (i : Int)) = some ((b, ()), ()) ∧ (b = true → ∀ d ∈ l.drop i, um3 d)) ?_ ?_
      · rw [ue2]
        simp only [lt_f, Bool.false_eq_true, if_false]
        exact ⟨true, rfl, fun _ d hd => by rw [List.drop_length] at hd; cases hd⟩
      · intro i hi ⟨b, hb, hb2⟩
        rw [ue2]
        simp only [lt_t hi, if_true, ua9 hi, ua0]
        by_cases h20 : l[i].Constructors.length > 20
        · rw [decide_eq_true (by omega), if_pos rfl]
          exact ⟨false, rfl, fun h => by cases h⟩
        · rw [decide_eq_false (by omega), if_neg (by simp)]
          by_cases h12 : l[i].Params.length > 12
          · rw [decide_eq_true (by omega), if_pos rfl]
            exact ⟨false, rfl, fun h => by cases h⟩
          · rw [decide_eq_false (by omega), if_neg (by simp), ue2]
            have inner : ∀ {k}, k ≤ l[i].Constructors.length → ∃ b, ue2 (.p14924 l (i : Int) (k : Int)) = some ((b, ()), ()) ∧ (b = true → (∀ c ∈ l[i].Constructors.drop k, c.Fields.length ≤ 12 ∧ ∀ f ∈ c.Fields, tree f.Type_ = true) ∧ ∀ d ∈ l.drop (i + 1), um3 d) := by
              refine ub0 l[i].Constructors (P := fun k => ∃ b, ue2 (.p14924 l (i : Int) (k : Int)) = some ((b, ()), ()) ∧ (b = true → (∀ c ∈ l[i].Constructors.drop k, c.Fields.length ≤ 12 ∧ ∀ f ∈ c.Fields, tree f.Type_ = true) ∧ ∀ d ∈ l.drop (i + 1), um3 d)) ?_ ?_
              · rw [ue2]
                simp only [ua9 hi, ua0, lt_f, Bool.false_eq_true, if_false]
                rw [ua7 hi (by omega)]
                exact ⟨b, hb, fun h => ⟨fun c hc => (by rw [List.drop_length] at hc; cases hc), hb2 h⟩⟩
              · intro k hk ⟨b, hb, hb2⟩
                rw [ue2]
                simp only [ua9 hi, ua0, lt_t hk, if_true, ua9 hk]
                by_cases hf12 : l[i].Constructors[k].Fields.length > 12
                · rw [decide_eq_true (by omega), if_pos rfl]
                  exact ⟨false, rfl, fun h => by cases h⟩
                · rw [decide_eq_false (by omega), if_neg (by simp)]
                  generalize hfs : l[i].Constructors[k].Fields = fs at hf12
                  have inn2 : ∀ {j}, j ≤ fs.length → ∃ b, ue2 (.p3820700 l (i : Int) (k : Int) fs (j : Int)) = some ((b, ()), ()) ∧ (b = true → (∀ f ∈ fs.drop j, tree f.Type_ = true) ∧ (∀ c ∈ l[i].Constructors.drop (k + 1), c.Fields.length ≤ 12 ∧ ∀ f ∈ c.Fields, tree f.Type_ = true) ∧ ∀ d ∈ l.drop (i + 1), um3 d) := by
                    refine ub0 fs (P := fun j => ∃ b, ue2 (.p3820700 l (i : Int) (k : Int) fs (j : Int)) = some ((b, ()), ()) ∧ (b = true → (∀ f ∈ fs.drop j, tree f.Type_ = true) ∧ (∀ c ∈ l[i].Constructors.drop (k + 1), c.Fields.length ≤ 12 ∧ ∀ f ∈ c.Fields, tree f.Type_ = true) ∧ ∀ d ∈ l.drop (i + 1), um3 d)) ?_ ?_
                    · rw [ue2]
                      simp only [lt_f, Bool.false_eq_true, if_false]
                      rw [ua7 hk (by omega)]
                      exact ⟨b, hb, fun h => ⟨fun f hf => (by rw [List.drop_length] at hf; cases hf), hb2 h⟩⟩
                    · intro j hj ⟨b, hb, hb2⟩
                      rw [ue2]
                      simp only [lt_t hj, if_true, ua9 hj, ua0, we3]
                      cases ht : tree fs[j].Type_ with
                      | false => exact ⟨false, rfl, fun h => by cases h⟩
                      | true =>
                        simp only [Bool.not_true, Bool.false_eq_true, if_false]
                        rw [ua7 hj (by omega)]
                        refine ⟨b, hb, fun h => ⟨fun f hf => ?_, (hb2 h).2⟩⟩
                        rw [ua8 hj] at hf
                        rcases List.mem_cons.1 hf with rfl | hf
                        · exact ht
                        · exact (hb2 h).1 f hf
                  obtain ⟨b, hb, hb2⟩ := inn2 (Nat.zero_le _)
                  refine ⟨b, hb, fun h => ⟨fun c hc => ?_, (hb2 h).2.2⟩⟩
                  rw [ua8 hk] at hc
                  rcases List.mem_cons.1 hc with rfl | hc
                  · rw [hfs]
                    have := (hb2 h).1
                    rw [List.drop_zero] at this
                    exact ⟨by omega, this⟩
                  · exact (hb2 h).2.1 c hc
            obtain ⟨b, hb, hb2⟩ := inner (Nat.zero_le _)
            refine ⟨b, hb, fun h d hd => ?_⟩
            rw [ua8 hi] at hd
            rcases List.mem_cons.1 hd with rfl | hd
            · have := (hb2 h).1
              rw [List.drop_zero] at this
              exact ⟨by omega, by omega, this⟩
            · exact (hb2 h).2 d hd
    obtain ⟨b, hb, hb2⟩ := loop (Nat.zero_le _)
    rw [List.drop_zero] at hb2
    exact ⟨b, hb, fun h => ⟨by omega, hb2 h⟩⟩
theorem ur0 (t : ua1) : (⟨t.Kind, t.Value, t.Name, t.Parts⟩ : ua1) = t := by cases t; rfl
theorem vh0 : ∀ t, tsz t ≤ 1000000 → uo3 (.start t.Kind t.Value t.Name t.Parts) = some (((t.Kind, (t.Value, (t.Name, (t.Parts, ())))), ()), ()) := by
  refine uk9 fun k v s ps ih hsz => ?_
  have hts : tsz ⟨k, v, s, ps⟩ = 1 + tszs ps := by rw [tsz]
  have hlen := uN1 ps
  rw [uo3]
  have loop : ∀ {i}, i ≤ ps.length → uo3 (.p244 (i : Int) k v s ps 0 0 (⟨#[]⟩ : ByteArray) k v s (ps.take i)) = some (((k, (v, (s, (ps, ())))), ()), ()) := by
    refine ub0 ps (P := fun i => uo3 (.p244 (i : Int) k v s ps 0 0 (⟨#[]⟩ : ByteArray) k v s (ps.take i)) = some (((k, (v, (s, (ps, ())))), ()), ())) ?_ ?_
    · rw [uo3]
      simp only [lt_f, Bool.false_eq_true, if_false, List.take_length]
    · intro i hi ihl
      rw [uo3]
      have hm := uQ7 (List.getElem_mem hi)
      simp only [lt_t hi, if_true, ua9 hi, ua0, ih _ (List.getElem_mem hi) (by omega), ur0]
      rw [if_pos (ug1 (by simp only [List.length_take, List.length_cons, List.length_nil]; omega)), ua7 hi (by omega), ← uc1 hi]
      exact ihl
  exact loop (Nat.zero_le _)
theorem vl5 (fs : List ua6) (hl : fs.length ≤ 12) (hf : ∀ f ∈ fs, tree f.Type_ = true) : us4 (.start fs) = some (((), ()), (fs, ())) := by
  rw [us4]
  have loop : ∀ {i}, i ≤ fs.length → us4 (.p116 fs (i : Int) (fs.take i)) = some (((), ()), (fs, ())) := by
    refine ub0 fs (P := fun i => us4 (.p116 fs (i : Int) (fs.take i)) = some (((), ()), (fs, ()))) ?_ ?_
    · rw [us4]
      simp only [lt_f, Bool.false_eq_true, if_false, List.take_length]
    · intro i hi ih
      rw [us4]
      have := up9 (hf _ (List.getElem_mem hi))
      simp only [lt_t hi, if_true, ua9 hi, ua0, vh0 _ (show tsz fs[i].Type_ ≤ 1000000 by omega), ur0]
      rw [if_pos (ug1 (by simp only [List.length_take, List.length_cons, List.length_nil]; omega)), ua7 hi (by omega), ← uc1 hi]
      exact ih
  exact loop (Nat.zero_le _)
theorem ur9 (l : List ua3) (hl : l.length ≤ 24) (hd : ∀ d ∈ l, um3 d) : ub4 (.start l) = some (((), ()), (l, ())) := by
  rw [ub4]
  have loop : ∀ {i}, i ≤ l.length → ub4 (.p116 l (i : Int) (l.take i)) = some (((), ()), (l, ())) := by
    refine ub0 l (P := fun i => ub4 (.p116 l (i : Int) (l.take i)) = some (((), ()), (l, ()))) ?_ ?_
    · rw [ub4]
      simp only [lt_f, Bool.false_eq_true, if_false, List.take_length]
    · intro i hi ih
      rw [ub4]
      have hdi := hd _ (List.getElem_mem hi)
      have h1 := hdi.plen
      have h2 := hdi.clen
      simp only [lt_t hi, if_true, ua9 hi, ua0]
      rw [vq4, if_pos (ug1 (by simp only [List.length_nil]; omega))]
      simp only [ua0, List.nil_append]
      have inner : ∀ {k}, k ≤ l[i].Constructors.length → ub4 (.p29844 l (i : Int) (k : Int) (l.take i) l[i].Name l[i].Params (l[i].Constructors.take k)) = some (((), ()), (l, ())) := by
        refine ub0 l[i].Constructors (P := fun k => ub4 (.p29844 l (i : Int) (k : Int) (l.take i) l[i].Name l[i].Params (l[i].Constructors.take k)) = some (((), ()), (l, ()))) ?_ ?_
        · rw [ub4]
          simp only [ua9 hi, ua0, lt_f, Bool.false_eq_true, if_false, List.take_length]
          rw [if_pos (ug1 (by simp only [List.length_take, List.length_cons, List.length_nil]; omega)), ua7 hi (by omega)]
          rw [show (⟨l[i].Name, l[i].Params, l[i].Constructors⟩ : ua3) = l[i] from rfl, ← uc1 hi]
          exact ih
        · intro k hk ihk
          rw [ub4]
          have hc := hdi.cs _ (List.getElem_mem hk)
          simp only [ua9 hi, ua0, lt_t hk, if_true, ua9 hk, vl5 _ hc.1 hc.2]
          rw [if_pos (ug1 (by simp only [List.length_take, List.length_cons, List.length_nil]; omega)), ua7 hk (by omega)]
          rw [show (⟨l[i].Constructors[k].Name, l[i].Constructors[k].Fields⟩ : ua2) = l[i].Constructors[k] from rfl, ← uc1 hk]
          exact ihk
      exact inner (Nat.zero_le _)
  exact loop (Nat.zero_le _)
def repV (ps : List ByteArray) (args : List ua1) (s : ByteArray) : Option ua1 := if 0 ≤ ix (fun x => decide (s = x)) ps then args[(ix (fun x => decide (s = x)) ps).toNat]? else none
mutual
def rep (ps : List ByteArray) (args : List ua1) : ua1 → ua1
 | ⟨k, v, s, ts⟩ => match (if k = 0 then repV ps args s else none) with
   | some a => a
   | none => ⟨k, v, s, reps ps args ts⟩
def reps (ps : List ByteArray) (args : List ua1) : List ua1 → List ua1
 | [] => []
 | t :: r => rep ps args t :: reps ps args r
end
theorem vh1 (ps : List ByteArray) (args : List ua1) (k v : Int) (s : ByteArray) (ts : List ua1) : rep ps args ⟨k, v, s, ts⟩ = match (if k = 0 then repV ps args s else none) with | some a => a | none => ⟨k, v, s, reps ps args ts⟩ := by rw [rep]
theorem ux5 (ps : List ByteArray) (args : List ua1) (l : List ua1) : reps ps args l = l.map (rep ps args) := by
  induction l with
  | nil => rw [reps]; rfl
  | cons t l ih => rw [reps, ih]; rfl
theorem wb6 {α : Type} (p : α → Bool) (l : List α) : ix p l < l.length := by
  rcases uX7 p l with ⟨h, _⟩ | ⟨j, a, h, h2, _⟩
  · rw [h]; omega
  · rw [h]
    have := (List.getElem?_eq_some_iff.1 h2).1
    omega
theorem wd7 : ∀ t, rep [] [] t = t := by
  refine uk9 fun k v s ts ih => ?_
  rw [vh1]
  have : (if k = 0 then repV [] [] s else none) = none := by
    by_cases h : k = 0
    · rw [if_pos h]; rfl
    · rw [if_neg h]
  rw [this]
  simp only
  rw [ux5]
  congr 1
  exact (List.map_congr_left ih).trans (List.map_id _)
theorem vg7 {ps : List ByteArray} {args : List ua1} (hps : ps.length ≤ big) (hlen : ps.length = args.length) (H : ∀ a ∈ args, uf3 (.start a.Kind a.Value a.Name a.Parts [] []) = some (((a.Kind, (a.Value, (a.Name, (a.Parts, ())))), ()), ())) : ∀ t, tsz t ≤ 1000000 →
    uf3 (.start t.Kind t.Value t.Name t.Parts ps args) = some ((((rep ps args t).Kind, ((rep ps args t).Value, ((rep ps args t).Name, ((rep ps args t).Parts, ())))), ()), ()) := by
  refine uk9 fun k v s ts ih hsz => ?_
  have hts : tsz ⟨k, v, s, ts⟩ = 1 + tszs ts := by rw [tsz]
  have hl := uN1 ts
  have loop : ∀ {i}, i ≤ ts.length → uf3 (.p500 ps args ts (List.length ts : Int) (i : Int) 0 0 (⟨#[]⟩ : ByteArray) k v s ((ts.take i).map (rep ps args))) = some (((k, (v, (s, (ts.map (rep ps args), ())))), ()), ()) := by
    refine ub0 ts (P := fun i => uf3 (.p500 ps args ts (List.length ts : Int) (i : Int) 0 0 (⟨#[]⟩ : ByteArray) k v s ((ts.take i).map (rep ps args))) = some (((k, (v, (s, (ts.map (rep ps args), ())))), ()), ())) ?_ ?_
    · rw [uf3]
      simp only [lt_f, Bool.false_eq_true, if_false, List.take_length]
    · intro i hi ihl
      rw [uf3]
      have hm := uQ7 (List.getElem_mem hi)
      simp only [lt_t hi, if_true, ua9 hi, ua0, ih _ (List.getElem_mem hi) (by omega), ur0]
      rw [if_pos (ug1 (by simp only [List.length_map, List.length_take, List.length_cons, List.length_nil]; omega)), ua7 hi (by unfold big at *; omega)]
      rw [uc1 hi, List.map_append] at ihl
      exact ihl
  have h0 := loop (Nat.zero_le _)
  rw [List.take_zero, List.map_nil] at h0
  rw [uf3, v17 _ _ hps]
  simp only [ua0]
  rw [vh1]
  unfold repV
  by_cases hk : k = 0
  · subst hk
    rw [if_pos (by rfl), if_pos rfl, uf3]
    by_cases hj : 0 ≤ ix (fun x => decide (s = x)) ps
    · rw [decide_eq_true (by omega), if_pos rfl, if_pos hj]
      have hlt := wb6 (fun x => decide (s = x)) ps
      have hj2 : (ix (fun x => decide (s = x)) ps).toNat < args.length := by omega
      rw [show ix (fun x => decide (s = x)) ps = ((ix (fun x => decide (s = x)) ps).toNat : Int) by omega, ua9 hj2]
      simp only [ua0, Int.toNat_natCast]
      rw [List.getElem?_eq_getElem hj2]
      simp only [H _ (List.getElem_mem hj2), ua0]
    · rw [decide_eq_false (by omega), if_neg (by simp), if_neg hj]
      simp only
      rw [ux5]
      exact h0
  · rw [if_neg (by simpa using hk), if_neg hk, uf3, if_neg (by simp)]
    simp only
    rw [ux5]
    exact h0
theorem vz7 (t : ua1) (h : tsz t ≤ 1000000) : uf3 (.start t.Kind t.Value t.Name t.Parts [] []) = some (((t.Kind, (t.Value, (t.Name, (t.Parts, ())))), ()), ()) := by
  have := vg7 (ps := []) (args := []) (by simp) rfl (fun a ha => by cases ha) t h
  rw [wd7] at this
  exact this
theorem vz6 {ps : List ByteArray} {args : List ua1} (hps : ps.length ≤ big) (hlen : ps.length = args.length) (H : ∀ a ∈ args, tsz a ≤ 1000000) (t : ua1) (ht : tsz t ≤ 1000000) :
    uf3 (.start t.Kind t.Value t.Name t.Parts ps args) = some ((((rep ps args t).Kind, ((rep ps args t).Value, ((rep ps args t).Name, ((rep ps args t).Parts, ())))), ()), ()) :=
  vg7 hps hlen (fun a ha => vz7 a (H a ha)) t ht
theorem vK7 {ps : List ByteArray} {args : List ua1} (hps : ps.length ≤ big) (hlen : ps.length = args.length) (H : ∀ a ∈ args, tsz a ≤ 1000000) : ∀ t, tsz t ≤ 1000000 →
    uf4 (.start t.Kind t.Value t.Name t.Parts ps args) = some ((((rep ps args t).Kind, ((rep ps args t).Value, ((rep ps args t).Name, ((rep ps args t).Parts, ())))), ()), ()) := by
  refine uk9 fun k v s ts ih hsz => ?_
  have hts : tsz ⟨k, v, s, ts⟩ = 1 + tszs ts := by rw [tsz]
  have hl := uN1 ts
  have loop : ∀ {i}, i ≤ ts.length → uf4 (.p500 ps args (i : Int) k v s ts 0 0 (⟨#[]⟩ : ByteArray) k v s ((ts.take i).map (rep ps args))) = some (((k, (v, (s, (ts.map (rep ps args), ())))), ()), ()) := by
    refine ub0 ts (P := fun i => uf4 (.p500 ps args (i : Int) k v s ts 0 0 (⟨#[]⟩ : ByteArray) k v s ((ts.take i).map (rep ps args))) = some (((k, (v, (s, (ts.map (rep ps args), ())))), ()), ())) ?_ ?_
    · rw [uf4]
      simp only [lt_f, Bool.false_eq_true, if_false, List.take_length]
    · intro i hi ihl
      rw [uf4]
      have hm := uQ7 (List.getElem_mem hi)
      simp only [lt_t hi, if_true, ua9 hi, ua0, ih _ (List.getElem_mem hi) (by omega), ur0]
      rw [if_pos (ug1 (by simp only [List.length_map, List.length_take, List.length_cons, List.length_nil]; omega)), ua7 hi (by unfold big at *; omega)]
      rw [uc1 hi, List.map_append] at ihl
      exact ihl
  have h7 : uf4 (.p7 ps args k v s ts 0 0 (⟨#[]⟩ : ByteArray)) = some (((k, (v, (s, (ts.map (rep ps args), ())))), ()), ()) := by
    rw [uf4]
    have h0 := loop (Nat.zero_le _)
    rw [List.take_zero, List.map_nil] at h0
    exact h0
  rw [uf4, vh1]
  by_cases hk : k = 0
  · subst hk
    rw [if_pos (by rfl), if_pos rfl]
    have find : ∀ {i}, i ≤ ps.length → uf4 (.p212 ps args (i : Int) 0 v s ts 0 0 (⟨#[]⟩ : ByteArray)) = (if 0 ≤ ixAt (fun x => decide (s = x)) i (ps.drop i) then (match args[(ixAt (fun x => decide (s = x)) i (ps.drop i)).toNat]? with | some a => some (((a.Kind, (a.Value, (a.Name, (a.Parts, ())))), ()), ()) | none => none) else some (((0, (v, (s, (ts.map (rep ps args), ())))), ()), ())) := by
      refine ub0 ps (P := fun i => uf4 (.p212 ps args (i : Int) 0 v s ts 0 0 (⟨#[]⟩ : ByteArray)) = (if 0 ≤ ixAt (fun x => decide (s = x)) i (ps.drop i) then (match args[(ixAt (fun x => decide (s = x)) i (ps.drop i)).toNat]? with | some a => some (((a.Kind, (a.Value, (a.Name, (a.Parts, ())))), ()), ()) | none => none) else some (((0, (v, (s, (ts.map (rep ps args), ())))), ()), ()))) ?_ ?_
      · rw [uf4]
        simp only [lt_f, Bool.false_eq_true, if_false, h7]
        rw [List.drop_length]
        rfl
      · intro i hi ihl
        rw [uf4]
        simp only [lt_t hi, if_true, ua9 hi, ua0, uh1]
        rw [ua8 hi]
        rw [show ixAt (fun x => decide (s = x)) i (ps[i] :: ps.drop (i + 1)) = if decide (s = ps[i]) = true then (i : Int) else ixAt (fun x => decide (s = x)) (i + 1) (ps.drop (i + 1)) from rfl]
        by_cases he : s = ps[i]
        · have hi2 : i < args.length := by omega
          have := H _ (List.getElem_mem hi2)
          rw [decide_eq_true he, decide_eq_true he.symm, if_pos rfl, ua9 hi2, if_pos rfl, if_pos (by omega)]
          simp only [ua0, vh0 _ this, Int.toNat_natCast]
          rw [List.getElem?_eq_getElem hi2]
        · rw [decide_eq_false he, decide_eq_false (fun h => he h.symm), if_neg (by simp), ua7 hi hps, ihl]
          simp only [Bool.false_eq_true, if_false]
    have hf := find (Nat.zero_le _)
    rw [List.drop_zero] at hf
    refine hf.trans ?_
    unfold repV ix
    by_cases hj : 0 ≤ ixAt (fun x => decide (s = x)) 0 ps
    · rw [if_pos hj, if_pos hj]
      have hlt := wb6 (fun x => decide (s = x)) ps
      unfold ix at hlt
      have hj2 : (ixAt (fun x => decide (s = x)) 0 ps).toNat < args.length := by omega
      rw [List.getElem?_eq_getElem hj2]
    · rw [if_neg hj, if_neg hj]
      simp only
      rw [ux5]
  · rw [if_neg (by simpa using hk), if_neg hk, h7]
    simp only
    rw [ux5]
end Go.Proofs.YtaennkkcnhfglaaGreatDoor.Ev.F
namespace Go.Proofs.YtaennkkcnhfglaaGreatDoor.Ev.F
open Go.Proofs.YtaennkkcnhfglaaGreatDoor.Ev
def ub9 (l : List ua3) (t : ua1) : List ua2 := match dat l t.Name with
 | some d => d.Constructors.map fun c => ⟨c.Name, c.Fields.map fun f => ⟨f.Name, rep d.Params t.Parts f.Type_⟩⟩
 | none => [⟨us5, []⟩, ⟨uH5, []⟩]
def rawV (c : ua2) : data_variant := ⟨c.Name, c.Fields, none⟩
theorem uW6 {l : List ua3} {s : ByteArray} {d : ua3} (h : dat l s = some d) : d ∈ l ∧ d.Name = s := by
  rcases uI9 l s with ⟨_, h2⟩ | ⟨j, d', _, h2, h3, h4⟩
  · rw [h] at h2; cases h2
  · rw [h] at h3; obtain rfl := Option.some.inj h3; exact ⟨List.mem_of_getElem? h2, h4⟩
theorem wc5 {l : List ua3} (hl : l.length ≤ big) (hd : ∀ d ∈ l, um3 d) (k v : Int) (s : ByteArray) (ts : List ua1) (hlen : ∀ d, dat l s = some d → d.Params.length = ts.length) (H : ∀ a ∈ ts, tsz a ≤ 1000000) :
    uh7 (.start l [] k v s ts) = some (((), ()), ((ub9 l ⟨k, v, s, ts⟩).map rawV, ())) := by
  rw [uh7, pdat _ _ _ hl]
  simp only [ua0]
  unfold ub9
  simp only
  cases hdt : dat l s with
  | none => rfl
  | some d =>
    simp only [Bool.not_true, Bool.false_eq_true, if_false]
    obtain ⟨hm, _⟩ := uW6 hdt
    have hli := hd d hm
    have h1 := hli.plen
    have h2 := hli.clen
    let g : ua2 → data_variant := fun c => rawV ⟨c.Name, c.Fields.map fun f => ⟨f.Name, rep d.Params ts f.Type_⟩⟩
    have loop : ∀ {i}, i ≤ d.Constructors.length → uh7 (.p500 d.Constructors (List.length d.Constructors : Int) (i : Int) k v s ts d.Name d.Params d.Constructors ((d.Constructors.take i).map g)) = some (((), ()), (d.Constructors.map g, ())) := by
      refine ub0 d.Constructors (P := fun i => uh7 (.p500 d.Constructors (List.length d.Constructors : Int) (i : Int) k v s ts d.Name d.Params d.Constructors ((d.Constructors.take i).map g)) = some (((), ()), (d.Constructors.map g, ()))) ?_ ?_
      · rw [uh7]
        simp only [lt_f, Bool.false_eq_true, if_false, List.take_length]
      · intro i hi ih
        rw [uh7]
        simp only [lt_t hi, if_true, ua9 hi, ua0]
        have hci := hli.cs _ (List.getElem_mem hi)
        generalize hc : d.Constructors[i] = c at hci
        have hfl := hci.1
        let gf : ua6 → ua6 := fun f => ⟨f.Name, rep d.Params ts f.Type_⟩
        have inner : ∀ {j}, j ≤ c.Fields.length → uh7 (.p512820 d.Constructors (List.length d.Constructors : Int) (i : Int) c.Fields (List.length c.Fields : Int) (j : Int) k v s ts d.Name d.Params d.Constructors ((d.Constructors.take i).map g) c.Name ((c.Fields.take j).map gf)) = some (((), ()), (d.Constructors.map g, ())) := by
          refine ub0 c.Fields (P := fun j => uh7 (.p512820 d.Constructors (List.length d.Constructors : Int) (i : Int) c.Fields (List.length c.Fields : Int) (j : Int) k v s ts d.Name d.Params d.Constructors ((d.Constructors.take i).map g) c.Name ((c.Fields.take j).map gf)) = some (((), ()), (d.Constructors.map g, ()))) ?_ ?_
          · rw [uh7]
            simp only [lt_f, Bool.false_eq_true, if_false, List.take_length]
            rw [if_pos (ug1 (by simp only [List.length_map, List.length_take, List.length_cons, List.length_nil]; omega)), ua7 hi (by omega)]
            rw [uc1 hi, List.map_append, hc] at ih
            exact ih
          · intro j hj ihj
            rw [uh7]
            have := up9 (hci.2 _ (List.getElem_mem hj))
            simp only [lt_t hj, if_true, ua9 hj, ua0, vz6 (show d.Params.length ≤ big by unfold big; omega) (hlen d hdt) H c.Fields[j].Type_ (by omega), ur0]
            rw [if_pos (ug1 (by simp only [List.length_map, List.length_take, List.length_cons, List.length_nil]; omega)), ua7 hj (by omega)]
            rw [uc1 hj, List.map_append] at ihj
            exact ihj
        exact inner (Nat.zero_le _)
    have h := loop (Nat.zero_le _)
    rw [List.take_zero, List.map_nil] at h
    rw [show ((0 : Int)) = ((0 : Nat) : Int) from rfl, h, List.map_map]
    rfl
theorem vK0 {l : List ua3} (hl : l.length ≤ big) (hp : ug6 l) (hd : ∀ d ∈ l, um3 d) (k v : Int) (s : ByteArray) (ts : List ua1) (hlen : ∀ d, dat l s = some d → d.Params.length = ts.length) (H : ∀ a ∈ ts, tsz a ≤ 1000000) (hs : s ≠ uE9 → dat l s ≠ none) :
    ug2 (.start l k v s ts) = some ((ub9 l ⟨k, v, s, ts⟩, ()), ()) := by
  rw [ug2]
  simp only [uh1]
  unfold ub9
  simp only
  by_cases hb : s = uE9
  · rw [if_pos (by simpa using hb), uD1 hp (.inr hb)]
  · rw [if_neg (by simpa using hb), rdat _ _ hl]
    simp only [ua0]
    rcases uI9 l s with ⟨_, h2⟩ | ⟨j0, d, e1, e2, hdt, _⟩
    · exact absurd h2 (hs hb)
    rw [e1, hdt, uO8, e2]
    simp only [ua0]
    obtain ⟨hm, _⟩ := uW6 hdt
    have hli := hd d hm
    have h1 := hli.plen
    have h2 := hli.clen
    let g : ua2 → ua2 := fun c => ⟨c.Name, c.Fields.map fun f => ⟨f.Name, rep d.Params ts f.Type_⟩⟩
    have loop : ∀ {i}, i ≤ d.Constructors.length → ug2 (.p500 (i : Int) k v s ts d.Name d.Params d.Constructors ((d.Constructors.take i).map g)) = some ((d.Constructors.map g, ()), ()) := by
      refine ub0 d.Constructors (P := fun i => ug2 (.p500 (i : Int) k v s ts d.Name d.Params d.Constructors ((d.Constructors.take i).map g)) = some ((d.Constructors.map g, ()), ())) ?_ ?_
      · rw [ug2]
        simp only [lt_f, Bool.false_eq_true, if_false, List.take_length]
      · intro i hi ih
        rw [ug2]
        simp only [lt_t hi, if_true, ua9 hi, ua0]
        have hci := hli.cs _ (List.getElem_mem hi)
        have hfl := hci.1
        let gf : ua6 → ua6 := fun f => ⟨f.Name, rep d.Params ts f.Type_⟩
        have inner : ∀ {j}, j ≤ d.Constructors[i].Fields.length → ug2 (.p128148 (i : Int) (j : Int) k v s ts d.Name d.Params d.Constructors ((d.Constructors.take i).map g) d.Constructors[i].Name ((d.Constructors[i].Fields.take j).map gf)) = some ((d.Constructors.map g, ()), ()) := by
          refine ub0 d.Constructors[i].Fields (P := fun j => ug2 (.p128148 (i : Int) (j : Int) k v s ts d.Name d.Params d.Constructors ((d.Constructors.take i).map g) d.Constructors[i].Name ((d.Constructors[i].Fields.take j).map gf)) = some ((d.Constructors.map g, ()), ())) ?_ ?_
          · rw [ug2]
            simp only [ua9 hi, ua0, lt_f, Bool.false_eq_true, if_false, List.take_length]
            rw [if_pos (ug1 (by simp only [List.length_map, List.length_take, List.length_cons, List.length_nil]; omega)), ua7 hi (by omega)]
            rw [uc1 hi, List.map_append] at ih
            exact ih
          · intro j hj ihj
            rw [ug2]
            have := up9 (hci.2 _ (List.getElem_mem hj))
            simp only [ua9 hi, lt_t hj, if_true, ua9 hj, ua0, vK7 (show d.Params.length ≤ big by unfold big; omega) (hlen d hdt) H d.Constructors[i].Fields[j].Type_ (by omega), ur0]
            rw [if_pos (ug1 (by simp only [List.length_map, List.length_take, List.length_cons, List.length_nil]; omega)), ua7 hj (by omega)]
            rw [uc1 hj, List.map_append] at ihj
            exact ihj
        exact inner (Nat.zero_le _)
    have h := loop (Nat.zero_le _)
    rw [List.take_zero, List.map_nil] at h
    exact h
theorem uG4 {l : List ua3} {ps : List ByteArray} : ∀ {ts : List ua1}, nodeEs l ps ts = 0 ↔ ∀ t ∈ ts, up5 l ps t = 0
 | [] => by rw [uP3]; simp
 | t :: r => by
   rw [uG3]
   constructor
   · intro h
     by_cases h0 : up5 l ps t = 0
     · rw [if_pos h0] at h
       intro x hx
       rcases List.mem_cons.1 hx with rfl | hx
       · exact h0
       · exact uG4.1 h x hx
     · rw [if_neg h0] at h; exact absurd h h0
   · intro h
     rw [if_pos (h t (List.mem_cons_self ..))]
     exact uG4.2 fun x hx => h x (List.mem_cons_of_mem _ hx)
theorem uD5 {l : List ua3} {ps : List ByteArray} {k v : Int} {s : ByteArray} {ts : List ua1} : up5 l ps ⟨k, v, s, ts⟩ = 0 ↔ (uz5 l ps k s).1 = 0 ∧ (ts.length : Int) = (uz5 l ps k s).2 ∧ ¬ (k = 2 ∧ ¬ (0 ≤ v ∧ v ≤ 1000000000)) ∧ ∀ t ∈ ts, up5 l ps t = 0 := by
  rw [u91]
  by_cases h1 : (uz5 l ps k s).1 = 0
  · rw [if_pos h1]
    by_cases h2 : (ts.length : Int) = (uz5 l ps k s).2
    · rw [if_pos h2]
      by_cases h3 : k = 2 ∧ ¬ (0 ≤ v ∧ v ≤ 1000000000)
      · rw [if_pos h3]
        exact ⟨fun h => (by cases h), fun h => absurd h3 h.2.2.1⟩
      · rw [if_neg h3, uG4]
        exact ⟨fun h => ⟨h1, h2, h3, h⟩, fun h => h.2.2.2⟩
    · rw [if_neg h2]
      exact ⟨fun h => (by cases h), fun h => absurd h.2.1 h2⟩
  · rw [if_neg h1]
    exact ⟨fun h => absurd h h1, fun h => absurd h.1 h1⟩
def vB3 (l0 l : List ua3) : Prop := ∀ s d, dat l0 s = some d → dat l s = some d
theorem vK2 {l0 l : List ua3} (hb : vB3 l0 l) (hp : ug6 l) {ps : List ByteArray} {args : List ua1} (hlen : ps.length = args.length) (ha : ∀ a ∈ args, up5 l [] a = 0) : ∀ t, up5 l0 ps t = 0 → up5 l [] (rep ps args t) = 0 := by
  refine uk9 fun k v s ts ih h => ?_
  rw [uD5] at h
  obtain ⟨h1, h2, h3, h4⟩ := h
  rw [vh1]
  by_cases hk : k = 0
  · subst hk
    rw [if_pos rfl]
    have hs : has ps s = true := by
      unfold uz5 at h1
      rw [if_pos rfl] at h1
      cases hh : has ps s with
      | true => rfl
      | false => rw [hh] at h1; cases h1
    obtain ⟨j, hj⟩ : ∃ j : Nat, ix (fun x => decide (s = x)) ps = (j : Int) := by
      rcases uX7 (fun x => decide (s = x)) ps with ⟨_, e2⟩ | ⟨j, a, e1, _⟩
      · have := e2 s (vH8.1 hs)
        simp at this
      · exact ⟨j, e1⟩
    have hlt := wb6 (fun x => decide (s = x)) ps
    unfold repV
    rw [hj] at hlt ⊢
    rw [if_pos (by omega), Int.toNat_natCast, List.getElem?_eq_getElem (by omega)]
    exact ha _ (List.getElem_mem _)
  · rw [if_neg hk]
    simp only
    rw [uD5, ux5, List.length_map]
    have hC : uz5 l [] k s = uz5 l0 ps k s := by
      unfold uz5 at h1 ⊢
      rw [if_neg hk] at h1 ⊢
      rw [if_neg hk]
      by_cases hk1 : k = 1
      · rw [if_pos hk1] at h1 ⊢
        rw [if_pos hk1]
        cases hd : dat l0 s with
        | some d => rw [hb s d hd]
        | none =>
          rw [hd] at h1
          simp only at h1 ⊢
          by_cases e1 : s = sBit
          · rw [uD1 hp (.inl e1)]
          · by_cases e2 : s = uE9
            · rw [uD1 hp (.inr e2)]
            · rw [if_neg e1, if_neg e2] at h1; cases h1
      · rw [if_neg hk1] at h1 ⊢
        rw [if_neg hk1]
    rw [hC]
    refine ⟨h1, h2, h3, fun t ht => ?_⟩
    obtain ⟨t0, ht0, rfl⟩ := List.mem_map.1 ht
    exact ih t0 ht0 (h4 t0 ht0)
theorem u19 {f : ua1 → ua1} {M : Nat} : ∀ {ts : List ua1}, (∀ t ∈ ts, tsz (f t) ≤ tsz t * M) → tszs (ts.map f) ≤ tszs ts * M
 | [], _ => by rw [List.map_nil, vv7]; exact Nat.zero_le _
 | t :: r, h => by
   rw [List.map_cons, u18, u18, Nat.add_mul]
   exact Nat.add_le_add (h t (List.mem_cons_self ..)) (u19 fun x hx => h x (List.mem_cons_of_mem _ hx))
theorem wo2 {ps : List ByteArray} {args : List ua1} {M : Nat} (hM : 1 ≤ M) (ha : ∀ a ∈ args, tsz a ≤ M) : ∀ t, tsz (rep ps args t) ≤ tsz t * M := by
  refine uk9 fun k v s ts ih => ?_
  have hts : tsz ⟨k, v, s, ts⟩ = 1 + tszs ts := by rw [tsz]
  rw [vh1, hts]
  have h1 := u19 (f := rep ps args) (M := M) ih
  cases hv : (if k = 0 then repV ps args s else none) with
  | none =>
    simp only
    rw [tsz, ux5, Nat.add_mul]
    omega
  | some a =>
    simp only
    have : a ∈ args := by
      by_cases hk : k = 0
      · rw [if_pos hk] at hv
        unfold repV at hv
        split at hv
        · exact List.mem_of_getElem? hv
        · cases hv
      · rw [if_neg hk] at hv; cases hv
    have h2 := ha a this
    have h3 : 1 * M ≤ (1 + tszs ts) * M := Nat.mul_le_mul_right _ (by omega)
    omega
structure uq2 (l : List ua3) : Prop where
  len : l.length ≤ 20
  light : ∀ d ∈ l, um3 d
  plain : ug6 l
  cons : ∀ d ∈ l, 0 < d.Constructors.length ∧ d.Constructors.length ≤ 16 ∧ d.Params.length ≤ 4
  fields : ∀ d ∈ l, ∃ l0, vB3 l0 l ∧ ∀ c ∈ d.Constructors, c.Fields.length ≤ 8 ∧ ∀ f ∈ c.Fields, tree f.Type_ = true ∧ up5 l0 d.Params f.Type_ = 0
  known : ∀ d ∈ l, ∀ (i j : Nat) (c c' : ua2), d.Constructors[i]? = some c → d.Constructors[j]? = some c' → c.Name = c'.Name → i = j
theorem uE4 {l : List ua3} {ps : List ByteArray} {t : ua1} (h : uq0 l ps t = 0) : tree t = true ∧ up5 l ps t = 0 := by
  unfold uq0 at h
  cases ht : tree t with
  | true => rw [ht, if_pos rfl] at h; exact ⟨rfl, h⟩
  | false => rw [ht] at h; simp at h
theorem uR5 {l : List ua3} {ps : List ByteArray} : ∀ {fs : List ua6} {kn : List ByteArray}, ud1 l ps kn fs = 0 → ∀ f ∈ fs, uq0 l ps f.Type_ = 0
 | [], _, _ => fun f hf => by cases hf
 | f :: r, kn, h => by
   unfold ud1 at h
   by_cases h0 : newE f.Name kn = 0
   · rw [if_pos h0] at h
     by_cases h1 : uq0 l ps f.Type_ = 0
     · rw [if_pos h1] at h
       intro x hx
       rcases List.mem_cons.1 hx with rfl | hx
       · exact h1
       · exact uR5 h x hx
     · rw [if_neg h1] at h; exact absurd h h1
   · rw [if_neg h0] at h; exact absurd h h0
theorem uO1 {l : List ua3} {ps : List ByteArray} : ∀ {cs : List ua2} {kn : List ByteArray}, uu0 l ps kn cs = 0 → (∀ c ∈ cs, c.Name ∉ kn ∧ c.Fields.length ≤ 8 ∧ ud1 l ps [] c.Fields = 0) ∧ ∀ (i j : Nat) (c c' : ua2), cs[i]? = some c → cs[j]? = some c' → c.Name = c'.Name → i = j
 | [], _, _ => ⟨fun c hc => (by cases hc), fun i j c c' hi => by simp at hi⟩
 | c :: r, kn, h => by
   unfold uu0 at h
   by_cases h0 : newE c.Name kn = 0
   · rw [if_pos h0] at h
     by_cases h8 : c.Fields.length ≤ 8
     · rw [if_pos h8] at h
       by_cases h1 : ud1 l ps [] c.Fields = 0
       · rw [if_pos h1] at h
         obtain ⟨k1, k2⟩ := uO1 h
         refine ⟨fun x hx => ?_, fun i j x y hi hj e => ?_⟩
         · rcases List.mem_cons.1 hx with rfl | hx
           · exact ⟨(uJ8 h0).2, h8, h1⟩
           · obtain ⟨m1, m2⟩ := k1 x hx
             exact ⟨fun hm => m1 (List.mem_append_left _ hm), m2⟩
         · cases i with
           | zero =>
             cases j with
             | zero => rfl
             | succ j =>
               simp at hi hj
               subst hi
               exact absurd (by rw [← e]; simp) (k1 y (List.mem_of_getElem? hj)).1
           | succ i =>
             cases j with
             | zero =>
               simp at hi hj
               subst hj
               exact absurd (by rw [e]; simp) (k1 x (List.mem_of_getElem? hi)).1
             | succ j =>
               simp at hi hj
               rw [k2 i j x y hi hj e]
       · rw [if_neg h1] at h; exact absurd h h1
     · rw [if_neg h8] at h; cases h
   · rw [if_neg h0] at h; exact absurd h h0
theorem vs9 (l : List ua3) : ∀ {i}, i ≤ l.length → (chk l i (l.drop i)).2 = 0 → ∀ j (h : j < l.length), i ≤ j → us9 (names (l.take j)) (ub1 (l.take j)) (l.take j) l[j] = 0 := by
  refine ub0 l (P := fun i => (chk l i (l.drop i)).2 = 0 → ∀ j (h : j < l.length), i ≤ j → us9 (names (l.take j)) (ub1 (l.take j)) (l.take j) l[j] = 0) ?_ ?_
  · intro _ j h1 h2; omega
  · intro i hi ih h j hj hij
    rw [ua8 hi] at h
    rw [show chk l i (l[i] :: l.drop (i + 1)) = if us9 (names (l.take i)) (ub1 (l.take i)) (l.take i) l[i] = 0 then chk l (i + 1) (l.drop (i + 1)) else ((i : Int), us9 (names (l.take i)) (ub1 (l.take i)) (l.take i) l[i]) from rfl] at h
    by_cases h0 : us9 (names (l.take i)) (ub1 (l.take i)) (l.take i) l[i] = 0
    · rw [if_pos h0] at h
      by_cases e : j = i
      · subst e; exact h0
      · exact ih h j hj (by omega)
    · rw [if_neg h0] at h; exact absurd h h0
theorem vj0 (l : List ua3) (i : Nat) : vB3 (l.take i) l := by
  intro s d h
  unfold dat at h ⊢
  conv => lhs; rw [← List.take_append_drop i l]
  rw [List.find?_append, h]; rfl
theorem vc9 {l : List ua3} (hl : ∀ d ∈ l, um3 d) (h : (uz4 l).2 = 0) : uq2 l := by
  unfold uz4 at h
  by_cases h20 : l.length > 20
  · rw [if_pos h20] at h; cases h
  · rw [if_neg h20] at h
    have hz := vs9 l (Nat.zero_le _) (by rw [List.drop_zero]; exact h)
    have hz' : ∀ d ∈ l, ∃ j, us9 (names (l.take j)) (ub1 (l.take j)) (l.take j) d = 0 := by
      intro d hd
      obtain ⟨j, hj, rfl⟩ := List.getElem_of_mem hd
      exact ⟨j, hz j hj (Nat.zero_le _)⟩
    refine ⟨by omega, hl, fun d hd => ?_, fun d hd => ?_, fun d hd => ?_, fun d hd => ?_⟩
    · obtain ⟨j, hj⟩ := hz' d hd
      have h1 := (uJ8 (ur1 hj).1).2
      exact ⟨fun e => h1 (by rw [e]; simp), fun e => h1 (by rw [e]; simp)⟩
    · obtain ⟨j, hj⟩ := hz' d hd
      obtain ⟨_, h2, h3, _⟩ := ur1 hj
      exact ⟨h3, h2.2, h2.1⟩
    · obtain ⟨j, hj⟩ := hz' d hd
      obtain ⟨_, _, _, _, h5⟩ := ur1 hj
      refine ⟨l.take j, vj0 l j, fun c hc => ?_⟩
      obtain ⟨_, m1, m2⟩ := (uO1 h5).1 c hc
      exact ⟨m1, fun f hf => uE4 (uR5 m2 f hf)⟩
    · obtain ⟨j, hj⟩ := hz' d hd
      obtain ⟨_, _, _, _, h5⟩ := ur1 hj
      exact (uO1 h5).2
end Go.Proofs.YtaennkkcnhfglaaGreatDoor.Ev.F
