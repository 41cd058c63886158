/- A part of the proof. -/
import Derived.Test.YtjededkgblbamaaGreatDoorIPP2
set_option linter.unusedVariables false
set_option linter.unusedSimpArgs false
set_option linter.unnecessarySimpa false
set_option maxRecDepth 100000
namespace Go.Proofs.YtjededkgblbamaaGreatDoor.Ev.F
open Go.Proofs.YtjededkgblbamaaGreatDoor.Ev
def apV (x : ua2) (a lv : List Int) : Int :=
  if x.Op = 0 then x.Value else
  if x.Op = 1 then (idx lv x.Value).getD 0 else
  if x.Op = 2 then IntKind.wrap .i64 (IntKind.wrap .i64 (pw x.Width - 1) - a.getD 0 0) else
  if x.Op = 3 then bits .and .i64 (a.getD 0 0) (a.getD 1 0) else
  if x.Op = 4 then bits .or .i64 (a.getD 0 0) (a.getD 1 0) else
  if x.Op = 6 then Int.tmod (IntKind.wrap .i64 (a.getD 0 0 + a.getD 1 0)) (pw x.Width) else
  if x.Op = 7 then Int.tmod (IntKind.wrap .i64 (IntKind.wrap .i64 (a.getD 0 0 - a.getD 1 0) + pw x.Width)) (pw x.Width) else
  if x.Op = 9 then (if a.getD 0 0 = a.getD 1 0 then 1 else 0) else
  if x.Op = 12 then (if a.getD 0 0 = 1 then a.getD 1 0 else a.getD 2 0) else
  Int.tmod (IntKind.wrap .i64 (Int.tdiv (a.getD 0 0) (pw x.Value))) (pw x.Width)
def okN (x : ua2) (i : Nat) : Bool :=
  (decide (1 ≤ x.Width) && decide (x.Width ≤ 16)) && (x.Args.all (fun a => decide (0 ≤ a) && decide (a < (i : Int))) &&
  ((x.Op == 0 && Nat.beq x.Args.length 0) || ((x.Op == 1 && (Nat.beq x.Args.length 0 && (decide (0 ≤ x.Value) && decide (x.Value < 16)))) || ((x.Op == 2 && Nat.beq x.Args.length 1) ||
   (((x.Op == 3 || (x.Op == 4 || (x.Op == 6 || (x.Op == 7 || x.Op == 9)))) && Nat.beq x.Args.length 2) || ((x.Op == 12 && Nat.beq x.Args.length 3) || (x.Op == 14 && (Nat.beq x.Args.length 1 && (decide (0 ≤ x.Value) && decide (x.Value ≤ 15))))))))))
theorem wf4 {w : Int} (h0 : 0 ≤ w) (h1 : w ≤ 32) : uk0 (.start w) = some ((pw w, ()), ()) := by
  rw [uk0]
  simp only [show decide ((0 : Int) ≤ w) = true by simpa using h0, if_true, wU1 (show w ≤ 62 by omega)]
theorem xY9 (b : Bool) : uu9 (.start b) = some ((if b = true then 1 else 0, ()), ()) := by
  rw [uu9]
  cases b <;> rfl
theorem len1 {α : Type} {l : List α} (h : l.length = 1) : ∃ a, l = [a] := by match l, h with | [a], _ => exact ⟨a, rfl⟩
theorem len2 {α : Type} {l : List α} (h : l.length = 2) : ∃ a b, l = [a, b] := by match l, h with | [a, b], _ => exact ⟨a, b, rfl⟩
theorem len3 {α : Type} {l : List α} (h : l.length = 3) : ∃ a b c, l = [a, b, c] := by match l, h with | [a, b, c], _ => exact ⟨a, b, c, rfl⟩
theorem xH1 (w : Int) : (!(pw w == 0)) = true := by
  have := wf6 w
  simp; omega
theorem xp4 {x : ua2} {i : Nat} (h : okN x i = true) {a w lv : List Int} (ha : a.length = x.Args.length) (hlv : lv.length = 16) : uD6 (.start x.Op x.Width x.Args x.Value a w lv) = some ((apV x a lv, ()), ()) := by
  unfold okN at h
  simp only [Bool.and_eq_true, decide_eq_true_eq] at h
  obtain ⟨⟨hw0, hw1⟩, _, h⟩ := h
  rw [uD6, wf4 (by omega) (by omega)]
  simp only [ua4]
  have i0 : ∀ {a b : Int} {l : List Int}, idx (a :: b :: l) 1 = some b := rfl
  have i1 : ∀ {a : Int} {l : List Int}, idx (a :: l) 0 = some a := rfl
  have i2 : ∀ {a b c : Int} {l : List Int}, idx (a :: b :: c :: l) 2 = some c := rfl
  simp only [Bool.or_eq_true, Bool.and_eq_true, beq_iff_eq, decide_eq_true_eq] at h
  rcases h with ⟨ho, hl⟩ | ⟨ho, hl, hv0, hv1⟩ | ⟨ho, hl⟩ | ⟨ho, hl⟩ | ⟨ho, hl⟩ | ⟨ho, hl, hv0, hv1⟩
  · simp [ho, apV]
  · have hlt : x.Value.toNat < lv.length := by omega
    have : idx lv x.Value = some lv[x.Value.toNat] := by
      unfold idx
      rw [if_pos hv0, List.getElem?_eq_getElem hlt]
    simp [ho, apV, this, ua4]
  · obtain ⟨a0, rfl⟩ := len1 (ha.trans (Nat.eq_of_beq_eq_true hl))
    simp [ho, apV, i1, ua4]
  · obtain ⟨a0, a1, rfl⟩ := len2 (ha.trans (Nat.eq_of_beq_eq_true hl))
    rcases ho with ho | ho | ho | ho | ho
    · simp [ho, apV, i1, i0, ua4]
    · simp [ho, apV, i1, i0, ua4]
    · simp only [ho, apV, i1, i0, ua4, xH1, if_true]; rfl
    · simp only [ho, apV, i1, i0, ua4, xH1, if_true]; rfl
    · simp only [ho, apV, i1, i0, ua4, xY9]
      simp
  · obtain ⟨a0, a1, a2, rfl⟩ := len3 (ha.trans (Nat.eq_of_beq_eq_true hl))
    simp only [ho, apV, i1, i0, i2, ua4]
    by_cases h1 : a0 = 1 <;> simp [h1]
  · obtain ⟨a0, rfl⟩ := len1 (ha.trans (Nat.eq_of_beq_eq_true hl))
    simp only [ho, apV, i1, ua4, wf4 hv0 (show x.Value ≤ 32 by omega), xH1, if_true]; rfl
def nv (lv : List Int) : List ua2 → List Int → List Int
 | [], acc => acc
 | x :: xs, acc => nv lv xs (acc ++ [apV x (x.Args.map fun k => acc.getD k.toNat 0) lv])
theorem xe0 {nodes : List ua2} {lv B : List Int} {i : Nat} {x : ua2} {acc : List Int} (hn : nodes.length ≤ 400) (hx : nodes[i]? = some x) (hi : i < nodes.length) (hB : ∀ k : Int, 0 ≤ k → k < (i : Int) → B[k.toNat]? = some (acc.getD k.toNat 0)) (hbl : B.length = nodes.length)
    (ha : ∀ a ∈ x.Args, 0 ≤ a ∧ a < (i : Int)) (hl : x.Args.length ≤ 3) : ∀ (m k : Nat) (B1 B2 : List Int), k + m = x.Args.length → B1.length = k → B2.length = k →
    ∃ B2', ue6 (.p29844 nodes lv (i : Int) (k : Int) B B1 B2) = ue6 (.p29844 nodes lv (i : Int) (x.Args.length : Int) B (B1 ++ (x.Args.drop k).map fun k => acc.getD k.toNat 0) B2')
 | 0, k, B1, B2, h, h1, h2 => ⟨B2, by rw [List.drop_of_length_le (by omega)]; simp [show k = x.Args.length by omega]⟩
 | m + 1, k, B1, B2, h, h1, h2 => by
   have hk : k < x.Args.length := by omega
   have hak := ha x.Args[k] (List.getElem_mem hk)
   have hbk := hB _ hak.1 hak.2
   have hidx : idx B x.Args[k] = some (acc.getD x.Args[k].toNat 0) := by unfold idx; rw [if_pos hak.1, hbk]
   have hnk : x.Args[k].toNat < nodes.length := by omega
   have hnidx : idx nodes x.Args[k] = some nodes[x.Args[k].toNat] := by unfold idx; rw [if_pos hak.1, List.getElem?_eq_getElem hnk]
   obtain ⟨B2', hB2⟩ := xe0 (lv := lv) (B := B) (acc := acc) hn hx hi hB hbl ha hl m (k + 1) (B1 ++ [acc.getD x.Args[k].toNat 0]) (B2 ++ [nodes[x.Args[k].toNat].Width]) (by omega) (by simp [h1]) (by simp [h2])
   refine ⟨B2', ?_⟩
   conv => lhs; rw [ue6]
   have hcond : (decide ((0 : Int) ≤ x.Args[k]) && decide (x.Args[k] < (List.length B : Int))) = true := by simp; omega
   simp only [uh8, hx, ua4, show (decide ((k : Int) < (List.length x.Args : Int))) = true by simpa using hk, if_true, List.getElem?_eq_getElem hk, hcond, hidx, hnidx]
   rw [if_pos (uy0 (by simp; omega)), if_pos (uy0 (by simp; omega)), ui4 hk (by omega), hB2, u78 (l := x.Args) (i := k) hk, List.map_cons, List.append_assoc, List.singleton_append]
theorem x17 {nodes : List ua2} {lv : List Int} (hn : nodes.length ≤ 400) (hlv : lv.length = 16) (hok : ∀ i x, nodes[i]? = some x → okN x i = true) : ∀ (m i : Nat) (acc : List Int), i + m = nodes.length → acc.length = i →
    ue6 (.p116 nodes lv (i : Int) (acc ++ List.replicate m 0)) = some (((), ()), (nv lv (nodes.drop i) acc, ()))
 | 0, i, acc, h, ha => by
   rw [ue6, List.drop_of_length_le (by omega)]
   simp [show ¬ i < nodes.length by omega, nv]
 | m + 1, i, acc, h, ha => by
   have hi : i < nodes.length := by omega
   have hx := List.getElem?_eq_getElem hi
   have hoki := hok i _ hx
   have hargs : ∀ a ∈ nodes[i].Args, 0 ≤ a ∧ a < (i : Int) := fun a hm => by
     unfold okN at hoki
     simp only [Bool.and_eq_true] at hoki
     have := List.all_eq_true.1 hoki.2.1 a hm
     simpa using this
   have hl3 : nodes[i].Args.length ≤ 3 := by
     unfold okN at hoki
     simp only [Bool.and_eq_true, Bool.or_eq_true] at hoki
     obtain ⟨_, _, h⟩ := hoki
     rcases h with ⟨_, hl⟩ | ⟨_, hl, _⟩ | ⟨_, hl⟩ | ⟨_, hl⟩ | ⟨_, hl⟩ | ⟨_, hl, _⟩ <;> (have := Nat.eq_of_beq_eq_true hl; omega)
   obtain ⟨B2', hb⟩ := xe0 (lv := lv) (B := acc ++ List.replicate (m + 1) 0) (acc := acc) hn hx hi (fun k h0 h1 => by
       rw [List.getElem?_append_left (by omega), List.getD_eq_getElem?_getD, List.getElem?_eq_getElem (show k.toNat < acc.length by omega)]; rfl) (by simp; omega) hargs hl3 nodes[i].Args.length 0 [] [] (by omega) rfl rfl
   rw [ue6.eq_2]
   simp only [show (decide ((i : Int) < (List.length nodes : Int))) = true by simpa using hi, if_true]
   rw [show ((0 : Nat) : Int) = 0 from rfl] at hb
   rw [hb, ue6.eq_3]
   have hset : (acc ++ List.replicate (m + 1) (0 : Int)).set i (apV nodes[i] (nodes[i].Args.map fun k => acc.getD k.toNat 0) lv) = (acc ++ [apV nodes[i] (nodes[i].Args.map fun k => acc.getD k.toNat 0) lv]) ++ List.replicate m 0 := by
     rw [List.set_append_right _ _ (by omega), show i - acc.length = 0 by omega, List.replicate_succ]
     simp
   have hcond : (decide ((0 : Int) ≤ (i : Int)) && decide ((i : Int) < (List.length (acc ++ List.replicate (m + 1) (0 : Int)) : Int))) = true := by simp; omega
   have hget : ∃ v, (acc ++ List.replicate (m + 1) (0 : Int))[i]? = some v := ⟨_, List.getElem?_eq_getElem (by simp; omega)⟩
   obtain ⟨v, hv⟩ := hget
   simp only [uh8, hx, ua4, Int.lt_irrefl, decide_false, Bool.false_eq_true, if_false, List.nil_append, List.drop_zero, xp4 hoki (a := nodes[i].Args.map fun k => acc.getD k.toNat 0) (w := B2') (lv := lv) (by simp) hlv]
   rw [if_pos hcond]
   simp only [hv, ua4, Int.toNat_natCast, hset]
   rw [ui4 hi (by omega), x17 hn hlv hok m (i + 1) _ (by omega) (by simp; omega), u78 hi]
   rfl
theorem x47 {nodes : List ua2} {lv : List Int} (hn : nodes.length ≤ 400) (hlv : lv.length = 16) (hok : ∀ i x, nodes[i]? = some x → okN x i = true) : ue6 (.start nodes lv) = some (((), ()), (nv lv nodes [], ())) := by
  rw [ue6.eq_1]
  have hf : uz7 (List.length nodes : Int) (List.length nodes : Int) 8 = true := by
    unfold uz7
    simp only [Bool.and_eq_true, decide_eq_true_eq]
    exact ⟨by omega, Int.le_refl _, Nat.ble_eq_true_of_le (by simp; omega)⟩
  rw [if_pos hf]
  have := x17 hn hlv hok nodes.length 0 [] (by omega) rfl
  simpa using this
theorem wL0 (lv : List Int) : ∀ (l : List ua2) (acc : List Int), (nv lv l acc).length = acc.length + l.length
 | [], acc => by simp [nv]
 | x :: xs, acc => by rw [nv, wL0 lv xs]; simp; omega
theorem xa1 (lv : List Int) : ∀ (l : List ua2) (acc : List Int) (k : Nat), k < acc.length → (nv lv l acc)[k]? = acc[k]?
 | [], acc, k, h => rfl
 | x :: xs, acc, k, h => by rw [nv, xa1 lv xs _ k (by simp; omega), List.getElem?_append_left h]
theorem xC8 {lv : List Int} : ∀ (l : List ua2) (acc : List Int) (j : Nat) (x : ua2), l[j]? = some x → okN x (acc.length + j) = true → (nv lv l acc)[acc.length + j]? = some (apV x (x.Args.map fun k => (nv lv l acc).getD k.toNat 0) lv)
 | [], _, _, _, h, _ => by simp at h
 | y :: ys, acc, 0, x, h, ho => by
   simp at h
   subst h
   have hp : (nv lv (y :: ys) acc)[acc.length]? = some (apV y (y.Args.map fun k => acc.getD k.toNat 0) lv) := by
     rw [nv, xa1 lv ys _ acc.length (by simp)]
     simp
   rw [Nat.add_zero, hp]
   congr 2
   refine List.map_congr_left fun a ha => ?_
   have hargs : 0 ≤ a ∧ a < (acc.length : Int) := by
     unfold okN at ho
     simp only [Bool.and_eq_true] at ho
     have := List.all_eq_true.1 ho.2.1 a ha
     simpa using this
   rw [List.getD_eq_getElem?_getD, List.getD_eq_getElem?_getD, xa1 lv _ acc a.toNat (by omega)]
 | y :: ys, acc, j + 1, x, h, ho => by
   simp at h
   have := xC8 (lv := lv) ys (acc ++ [apV y (y.Args.map fun k => acc.getD k.toNat 0) lv]) j x h (by simpa [Nat.add_assoc, Nat.add_comm 1] using ho)
   simp only [List.length_append, List.length_cons, List.length_nil] at this
   rw [show acc.length + (j + 1) = acc.length + (0 + 1) + j by omega]
   exact this
end Go.Proofs.YtjededkgblbamaaGreatDoor.Ev.F
