/- A part of the proof. -/
import Derived.Test.YtjededkgblbamaaGreatDoorIPP0
import Derived.Test.YtjededkgblbamaaGreatDoorIPVal
set_option linter.unusedVariables false
set_option linter.unusedSimpArgs false
set_option maxRecDepth 100000
namespace Go.Proofs.YtjededkgblbamaaGreatDoor.Ev.F
open Go.Proofs.YtjededkgblbamaaGreatDoor.Ev
noncomputable section
def ul6 : List Int := [4, 1, 1, 16, 8, 8, 8, 8, 8, 8, 8, 8, 8, 8, 8, 8]
def okE : Option wS4 → Bool
 | some ((.ofNat 0, ()), ()) => true
 | _ => false
theorem xA4 {x : Option wS4} (h : okE x = true) : x = some ((0, ()), ()) := by
  unfold okE at h
  split at h
  · rfl
  · cases h
theorem xr1 (W : Nat → Int) : (List.range 17).all (fun i => okE (up7 20 (.start ul6 (ub9 W) (i : Int)))) = true := by kernel_rfl
theorem xl6 (W : Nat → Int) : (List.range 129).all (fun i => okE (up7 20 (.start ul6 (ub9 W) ((i + 33 : Nat) : Int)))) = true := by kernel_rfl
theorem uu1 (W : Nat → Int) : (ub9 W).length = 162 := rfl
theorem x29 (W M : Nat → Int) : uj4 100 (.p2036 0 uc1 [] (pEls M) (ub9 W) [ub7, uc2] [] []) = some ((0, (0, ())), ()) := by kernel_rfl
structure ElOk (x : ua1) : Prop where
  name : ue3 (.start x.Name) = some ((true, ()), ())
  kind : uh7 x.Kind 0 1 = true
  width : uh7 x.Width 1 16 = true
  init : uh7 x.Init 0 (pw x.Width - 1) = true
  clock : uh7 x.Clock 0 3 = true
theorem v22 {l : List ua1} {i : Nat} (hi : i < l.length) (hn : l.length ≤ 1000) (hd : ∀ j (h : j < i), seq (l[j]'(by omega)).Name l[i].Name = false) : ∀ (k j : Nat), j + k = i → ud7 (.p29844 [] l (i : Int) (j : Int)) = ud7 (.p59700 [] l (i : Int) 0)
 | 0, j, h => by
   conv => lhs; rw [ud7]
   simp [show ¬ j < i by omega]
 | k + 1, j, h => by
   have hj : j < i := by omega
   have hj2 : j < l.length := by omega
   conv => lhs; rw [ud7]
   simp only [show (decide ((j : Int) < (i : Int))) = true by simpa using hj, if_true, uh8, List.getElem?_eq_getElem hi, List.getElem?_eq_getElem hj2, ua4, hd j hj, Bool.false_eq_true, if_false]
   rw [ui4 hj2 (by omega)]
   exact v22 hi hn hd k (j + 1) (by omega)
theorem xM2 {l : List ua1} {i : Nat} (hi : i < l.length) (hn : l.length ≤ 1000) (h : ElOk l[i]) : ud7 (.p59700 [] l (i : Int) 0) = ud7 (.p116 [] l ((i + 1 : Nat) : Int)) := by
  have hw := uq7.1 h.width
  conv => lhs; rw [ud7]
  simp only [List.length_nil, show decide ((0 : Int) < ((0 : Nat) : Int)) = false from rfl, Bool.false_eq_true, if_false, uh8, List.getElem?_eq_getElem hi, ua4, vl1, h.kind, Bool.not_true, ux2, h.width, xN7 (n := l[i].Init) (show 0 ≤ l[i].Width by omega) (by omega), h.init, h.clock]
  rw [ui4 hi (by omega)]
theorem xy1 {l : List ua1} (hn : l.length ≤ 40) (ho : ∀ i (h : i < l.length), ElOk l[i]) (hd : ∀ i j (h : j < i) (h2 : i < l.length), seq (l[j]'(by omega)).Name l[i].Name = false) : ∀ (k i : Nat), i + k = l.length → ud7 (.p116 [] l (i : Int)) = some ((0, (0, ())), ())
 | 0, i, h => by
   rw [ud7]
   simp [show ¬ i < l.length by omega]
 | k + 1, i, h => by
   have hi : i < l.length := by omega
   rw [ud7]
   simp only [show (decide ((i : Int) < (List.length l : Int))) = true by simpa using hi, if_true, uh8, List.getElem?_eq_getElem hi, ua4, (ho i hi).name, Bool.not_true, Bool.false_eq_true, if_false]
   have h1 := v22 hi (by omega) (fun j hj => hd i j hj hi) i 0 (by omega)
   rw [show ((0 : Nat) : Int) = 0 from rfl] at h1
   rw [h1, xM2 hi (by omega) (ho i hi)]
   exact xy1 hn ho hd k (i + 1) (by omega)
theorem xZ6 {l : List ua1} (hn : l.length ≤ 40) (ho : ∀ i (h : i < l.length), ElOk l[i]) (hd : ∀ i j (h : j < i) (h2 : i < l.length), seq (l[j]'(by omega)).Name l[i].Name = false) : ud7 (.start [] l) = some ((0, (0, ())), ()) := by
  rw [ud7]
  have e : IntKind.wrap .i64 ((List.length ([] : List ub2) : Int) + (List.length l : Int)) = (List.length l : Int) := by
    rw [List.length_nil, wrap_i64 (by omega) (by omega)]; simp
  have : decide ((IntKind.wrap .i64 ((List.length ([] : List ub2) : Int) + (List.length l : Int))) > (40 : Int)) = false := by
    simp only [e]
    simp; omega
  simp only [this, Bool.false_eq_true, if_false]
  exact xy1 hn ho hd l.length 0 (by omega)
theorem v27 {lv : List Int} {l : List ua2} (hn : l.length ≤ 400) (h : ∀ i, i < l.length → uj6 (.start lv l (i : Int)) = some ((0, ()), ())) : ∀ (k i : Nat), i + k = l.length → ul7 (.p116 lv l (i : Int)) = some ((0, (0, ())), ())
 | 0, i, hk => by
   rw [ul7]
   simp [show ¬ i < l.length by omega]
 | k + 1, i, hk => by
   have hi : i < l.length := by omega
   rw [ul7]
   simp only [show (decide ((i : Int) < (List.length l : Int))) = true by simpa using hi, if_true, h i hi, ua4, bne_self_eq_false, Bool.false_eq_true, if_false]
   rw [ui4 hi (by omega)]
   exact v27 hn h k (i + 1) (by omega)
theorem xi8 {lv : List Int} {l : List ua2} (hn : l.length ≤ 400) (h : ∀ i, i < l.length → uj6 (.start lv l (i : Int)) = some ((0, ()), ())) : ul7 (.start lv l) = some ((0, (0, ())), ()) := by
  rw [ul7]
  have : decide ((List.length l : Int) > 400) = false := by simp; omega
  simp only [this, Bool.false_eq_true, if_false]
  exact v27 hn h l.length 0 (by omega)
theorem xi1 {lv : List Int} {l : List ua2} {i : Nat} {w v : Int} (hi : l[i]? = some ⟨0, w, [], v⟩) (hw : uh7 w 1 16 = true) (hv : uh7 v 0 (pw w - 1) = true) : uj6 (.start lv l (i : Int)) = some ((0, ()), ()) := by
  have hw' := uq7.1 hw
  rw [uj6]
  have e1 : uh7 0 0 18 = true := by decide
  have e2 : um6 (.start 0) = some ((0, ()), ()) := uY4 5 _ _ (by kernel_rfl)
  simp only [uh8, hi, ua4, vl1, e1, Bool.not_true, Bool.false_eq_true, if_false, ux2, hw, e2, List.length_nil, show (((0 : Nat) : Int) != 0) = false from rfl]
  rw [uj6]
  simp only [List.length_nil, show decide ((0 : Int) < ((0 : Nat) : Int)) = false from rfl, Bool.false_eq_true, if_false, show ((0 : Int) == 0) = true from rfl, if_true, xN7 (n := v) (show 0 ≤ w by omega) (by omega), ua4, hv, Bool.not_true]
theorem xG6 (W : Nat → Int) : ∀ k, k < 16 → (ub9 W)[17 + k]? = some ⟨0, 16, [], W k⟩
 | 0, _ => rfl | 1, _ => rfl | 2, _ => rfl | 3, _ => rfl | 4, _ => rfl | 5, _ => rfl | 6, _ => rfl | 7, _ => rfl | 8, _ => rfl | 9, _ => rfl | 10, _ => rfl | 11, _ => rfl | 12, _ => rfl | 13, _ => rfl | 14, _ => rfl | 15, _ => rfl
 | n + 16, h => by omega
theorem wM2 {W : Nat → Int} (hW : ∀ k, k < 16 → 0 ≤ W k ∧ W k ≤ 65535) : ul7 (.start ul6 (ub9 W)) = some ((0, (0, ())), ()) := by
  refine xi8 (by rw [uu1]; omega) fun i hi => ?_
  rw [uu1] at hi
  by_cases h1 : i < 17
  · exact uI9 20 _ _ (xA4 (List.all_eq_true.1 (xr1 W) i (List.mem_range.2 h1)))
  · by_cases h2 : i < 33
    · have := xG6 W (i - 17) (by omega)
      rw [show 17 + (i - 17) = i by omega] at this
      have hb := hW (i - 17) (by omega)
      refine xi1 this (by decide) (uq7.2 ?_)
      have : pw 16 = 65536 := rfl
      omega
    · have := xA4 (List.all_eq_true.1 (xl6 W) (i - 33) (List.mem_range.2 (by omega)))
      rw [show i - 33 + 33 = i by omega] at this
      exact uI9 20 _ _ this
theorem xP0 (M : Nat → Int) : ∀ i (h : i < (pEls M).length), ue3 (.start ((pEls M)[i]).Name) = some ((true, ()), ()) := by
  intro i h
  have h : i < 16 := h
  have key : (List.range 16).all (fun i => match (pEls M)[i]? with | some x => (match ue5 20 (.start x.Name) with | some ((true, ()), ()) => true | _ => false) | none => false) = true := by kernel_rfl
  have := List.all_eq_true.1 key i (List.mem_range.2 h)
  rw [List.getElem?_eq_getElem (by exact h)] at this
  simp only at this
  split at this
  · rename_i hx
    exact um9 20 _ _ hx
  · cases this
theorem xN0 {M : Nat → Int} (hM : ∀ k, k < 8 → 0 ≤ M k ∧ M k ≤ 255) : ud7 (.start [] (pEls M)) = some ((0, (0, ())), ()) := by
  refine xZ6 (show (16 : Nat) ≤ 40 by decide) (fun i h => ?_) fun i j h h2 => ?_
  · have hlt : i < 16 := h
    have p8 : pw 8 = 256 := rfl
    refine ⟨xP0 M i h, ?_, ?_, ?_, ?_⟩
    · match i, h with
      | 0, _ => rfl | 1, _ => rfl | 2, _ => rfl | 3, _ => rfl | 4, _ => rfl | 5, _ => rfl | 6, _ => rfl | 7, _ => rfl | 8, _ => rfl | 9, _ => rfl | 10, _ => rfl | 11, _ => rfl | 12, _ => rfl | 13, _ => rfl | 14, _ => rfl | 15, _ => rfl | n + 16, h => exact absurd hlt (by omega)
    · match i, h with
      | 0, _ => rfl | 1, _ => rfl | 2, _ => rfl | 3, _ => rfl | 4, _ => rfl | 5, _ => rfl | 6, _ => rfl | 7, _ => rfl | 8, _ => rfl | 9, _ => rfl | 10, _ => rfl | 11, _ => rfl | 12, _ => rfl | 13, _ => rfl | 14, _ => rfl | 15, _ => rfl | n + 16, h => exact absurd hlt (by omega)
    · have hm : ∀ k, k < 8 → uh7 (M k) 0 (pw 8 - 1) = true := fun k hk => uq7.2 (by have := hM k hk; omega)
      match i, h with
      | 0, _ => rfl | 1, _ => rfl | 2, _ => rfl | 3, _ => rfl | 4, _ => rfl | 5, _ => rfl | 6, _ => rfl | 7, _ => rfl
      | 8, _ => exact hm 0 (by omega) | 9, _ => exact hm 1 (by omega) | 10, _ => exact hm 2 (by omega) | 11, _ => exact hm 3 (by omega) | 12, _ => exact hm 4 (by omega) | 13, _ => exact hm 5 (by omega) | 14, _ => exact hm 6 (by omega) | 15, _ => exact hm 7 (by omega) | n + 16, h => exact absurd hlt (by omega)
    · match i, h with
      | 0, _ => rfl | 1, _ => rfl | 2, _ => rfl | 3, _ => rfl | 4, _ => rfl | 5, _ => rfl | 6, _ => rfl | 7, _ => rfl | 8, _ => rfl | 9, _ => rfl | 10, _ => rfl | 11, _ => rfl | 12, _ => rfl | 13, _ => rfl | 14, _ => rfl | 15, _ => rfl | n + 16, h => exact absurd hlt (by omega)
  · have key : (List.range 16).all (fun i => (List.range i).all fun j => match (pEls M)[i]?, (pEls M)[j]? with | some x, some y => !seq y.Name x.Name | _, _ => false) = true := by kernel_rfl
    have h16 : i < 16 := h2
    have := List.all_eq_true.1 (List.all_eq_true.1 key i (List.mem_range.2 h16)) j (List.mem_range.2 h)
    rw [List.getElem?_eq_getElem (by exact h2), List.getElem?_eq_getElem (show j < (pEls M).length by exact Nat.lt_trans h h2)] at this
    simpa using this
theorem xF9 {W M : Nat → Int} (hW : ∀ k, k < 16 → 0 ≤ W k ∧ W k ≤ 65535) (hM : ∀ k, k < 8 → 0 ≤ M k ∧ M k ≤ 255) : u69 (.start uc1 [] (pEls M) (ub9 W) [ub7, uc2] [] []) = some ((true, ()), ()) := by
  have e1 : ue3 (.start uc1) = some ((true, ()), ()) := um9 60 _ _ (by kernel_rfl)
  have e2 : ur5 (.start []) = some ((0, (0, ())), ()) := uZ0 20 _ _ (by kernel_rfl)
  have e3 : ur6 (.start uc1 [] (pEls M) (ub9 W) [ub7, uc2] [] []) = some (((), ()), (ul6, ())) := vb1 30 _ _ (by kernel_rfl)
  have e4 := vU8 100 _ _ (x29 W M)
  rw [u69, ui9]
  simp only [e1, e2, e3, ua4, Bool.not_true, Bool.false_eq_true, if_false, bne_self_eq_false, xN0 hM, wM2 hW, show decide ((List.length [ub7, uc2] : Int) > 16) = false from rfl, e4]
  rfl
end
end Go.Proofs.YtjededkgblbamaaGreatDoor.Ev.F
