/- Chapter 31: the design of the processor is a valid design. -/
import Derived.Test.YtjededkgblbamaaGreatDoorPPP0
import Derived.Test.YtjededkgblbamaaGreatDoorPPVal
set_option linter.unusedVariables false
set_option linter.unusedSimpArgs false
set_option maxRecDepth 100000
namespace Go.Proofs.YtjededkgblbamaaGreatDoor.Ev.F
open Go.Proofs.YtjededkgblbamaaGreatDoor.Ev
noncomputable section
def pLeaves : List Int := [4, 1, 1, 16, 8, 8, 8, 8, 8, 8, 8, 8, 8, 8, 8, 8]
def okE : Option R_z81 → Bool
 | some ((.ofNat 0, ()), ()) => true
 | _ => false
theorem okE_eq {x : Option R_z81} (h : okE x = true) : x = some ((0, ()), ()) := by
  unfold okE at h
  split at h
  · rfl
  · cases h
theorem nodes_lo (W : Nat → Int) : (List.range 17).all (fun i => okE (runF_z81 20 (.start pLeaves (pNodes W) (i : Int)))) = true := by kernel_rfl
theorem nodes_hi (W : Nat → Int) : (List.range 129).all (fun i => okE (runF_z81 20 (.start pLeaves (pNodes W) ((i + 33 : Nat) : Int)))) = true := by kernel_rfl
theorem nodes_len (W : Nat → Int) : (pNodes W).length = 162 := rfl
theorem pRest (W M : Nat → Int) : runF_z88 100 (.p2036 0 pName [] (pEls M) (pNodes W) [pRule0, pRule1] [] []) = some ((0, (0, ())), ()) := by kernel_rfl

/-! ### elements -/
structure ElOk (x : api_Element) : Prop where
  name : run_z74 (.start x.Name) = some ((true, ()), ())
  kind : vwithin x.Kind 0 1 = true
  width : vwithin x.Width 1 16 = true
  init : vwithin x.Init 0 (pw x.Width - 1) = true
  clock : vwithin x.Clock 0 3 = true
theorem el_names {l : List api_Element} {i : Nat} (hi : i < l.length) (hn : l.length ≤ 1000) (hd : ∀ j (h : j < i), seq (l[j]'(by omega)).Name l[i].Name = false) : ∀ (k j : Nat), j + k = i → run_z77 (.p29844 [] l (i : Int) (j : Int)) = run_z77 (.p59700 [] l (i : Int) 0)
 | 0, j, h => by
   conv => lhs; rw [run_z77]
   simp [show ¬ j < i by omega]
 | k + 1, j, h => by
   have hj : j < i := by omega
   have hj2 : j < l.length := by omega
   conv => lhs; rw [run_z77]
   simp only [show (decide ((j : Int) < (i : Int))) = true by simpa using hj, if_true, idx_nat, List.getElem?_eq_getElem hi, List.getElem?_eq_getElem hj2, some_bind', hd j hj, Bool.false_eq_true, if_false]
   rw [vwrap_succ hj2 (by omega)]
   exact el_names hi hn hd k (j + 1) (by omega)
theorem el_last {l : List api_Element} {i : Nat} (hi : i < l.length) (hn : l.length ≤ 1000) (h : ElOk l[i]) : run_z77 (.p59700 [] l (i : Int) 0) = run_z77 (.p116 [] l ((i + 1 : Nat) : Int)) := by
  have hw := vwithin_iff.1 h.width
  conv => lhs; rw [run_z77]
  simp only [List.length_nil, show decide ((0 : Int) < ((0 : Nat) : Int)) = false from rfl, Bool.false_eq_true, if_false, idx_nat, List.getElem?_eq_getElem hi, some_bind', rvwithin, h.kind, Bool.not_true, run_z75, h.width, rfits (n := l[i].Init) (show 0 ≤ l[i].Width by omega) (by omega), h.init, h.clock]
  rw [vwrap_succ hi (by omega)]
theorem els_at {l : List api_Element} (hn : l.length ≤ 40) (ho : ∀ i (h : i < l.length), ElOk l[i]) (hd : ∀ i j (h : j < i) (h2 : i < l.length), seq (l[j]'(by omega)).Name l[i].Name = false) : ∀ (k i : Nat), i + k = l.length → run_z77 (.p116 [] l (i : Int)) = some ((0, (0, ())), ())
 | 0, i, h => by
   rw [run_z77]
   simp [show ¬ i < l.length by omega]
 | k + 1, i, h => by
   have hi : i < l.length := by omega
   rw [run_z77]
   simp only [show (decide ((i : Int) < (List.length l : Int))) = true by simpa using hi, if_true, idx_nat, List.getElem?_eq_getElem hi, some_bind', (ho i hi).name, Bool.not_true, Bool.false_eq_true, if_false]
   have h1 := el_names hi (by omega) (fun j hj => hd i j hj hi) i 0 (by omega)
   rw [show ((0 : Nat) : Int) = 0 from rfl] at h1
   rw [h1, el_last hi (by omega) (ho i hi)]
   exact els_at hn ho hd k (i + 1) (by omega)
theorem els_ok {l : List api_Element} (hn : l.length ≤ 40) (ho : ∀ i (h : i < l.length), ElOk l[i]) (hd : ∀ i j (h : j < i) (h2 : i < l.length), seq (l[j]'(by omega)).Name l[i].Name = false) : run_z77 (.start [] l) = some ((0, (0, ())), ()) := by
  rw [run_z77]
  have e : IntKind.wrap .i64 ((List.length ([] : List api_Port) : Int) + (List.length l : Int)) = (List.length l : Int) := by
    rw [List.length_nil, wrap_i64 (by omega) (by omega)]; simp
  have : decide ((IntKind.wrap .i64 ((List.length ([] : List api_Port) : Int) + (List.length l : Int))) > (40 : Int)) = false := by
    simp only [e]
    simp; omega
  simp only [this, Bool.false_eq_true, if_false]
  exact els_at hn ho hd l.length 0 (by omega)

/-! ### nodes -/
theorem nodes_at {lv : List Int} {l : List api_Node} (hn : l.length ≤ 400) (h : ∀ i, i < l.length → run_z81 (.start lv l (i : Int)) = some ((0, ()), ())) : ∀ (k i : Nat), i + k = l.length → run_z82 (.p116 lv l (i : Int)) = some ((0, (0, ())), ())
 | 0, i, hk => by
   rw [run_z82]
   simp [show ¬ i < l.length by omega]
 | k + 1, i, hk => by
   have hi : i < l.length := by omega
   rw [run_z82]
   simp only [show (decide ((i : Int) < (List.length l : Int))) = true by simpa using hi, if_true, h i hi, some_bind', bne_self_eq_false, Bool.false_eq_true, if_false]
   rw [vwrap_succ hi (by omega)]
   exact nodes_at hn h k (i + 1) (by omega)
theorem nodes_ok {lv : List Int} {l : List api_Node} (hn : l.length ≤ 400) (h : ∀ i, i < l.length → run_z81 (.start lv l (i : Int)) = some ((0, ()), ())) : run_z82 (.start lv l) = some ((0, (0, ())), ()) := by
  rw [run_z82]
  have : decide ((List.length l : Int) > 400) = false := by simp; omega
  simp only [this, Bool.false_eq_true, if_false]
  exact nodes_at hn h l.length 0 (by omega)
theorem const_ok {lv : List Int} {l : List api_Node} {i : Nat} {w v : Int} (hi : l[i]? = some ⟨0, w, [], v⟩) (hw : vwithin w 1 16 = true) (hv : vwithin v 0 (pw w - 1) = true) : run_z81 (.start lv l (i : Int)) = some ((0, ()), ()) := by
  have hw' := vwithin_iff.1 hw
  rw [run_z81]
  have e1 : vwithin 0 0 18 = true := by decide
  have e2 : run_z79 (.start 0) = some ((0, ()), ()) := runF_z79_le 5 _ _ (by kernel_rfl)
  simp only [idx_nat, hi, some_bind', rvwithin, e1, Bool.not_true, Bool.false_eq_true, if_false, run_z75, hw, e2, List.length_nil, show (((0 : Nat) : Int) != 0) = false from rfl]
  rw [run_z81]
  simp only [List.length_nil, show decide ((0 : Int) < ((0 : Nat) : Int)) = false from rfl, Bool.false_eq_true, if_false, show ((0 : Int) == 0) = true from rfl, if_true, rfits (n := v) (show 0 ≤ w by omega) (by omega), some_bind', hv, Bool.not_true]
theorem word_at (W : Nat → Int) : ∀ k, k < 16 → (pNodes W)[17 + k]? = some ⟨0, 16, [], W k⟩
 | 0, _ => rfl | 1, _ => rfl | 2, _ => rfl | 3, _ => rfl | 4, _ => rfl | 5, _ => rfl | 6, _ => rfl | 7, _ => rfl | 8, _ => rfl | 9, _ => rfl | 10, _ => rfl | 11, _ => rfl | 12, _ => rfl | 13, _ => rfl | 14, _ => rfl | 15, _ => rfl
 | n + 16, h => by omega
theorem pNodes_ok {W : Nat → Int} (hW : ∀ k, k < 16 → 0 ≤ W k ∧ W k ≤ 65535) : run_z82 (.start pLeaves (pNodes W)) = some ((0, (0, ())), ()) := by
  refine nodes_ok (by rw [nodes_len]; omega) fun i hi => ?_
  rw [nodes_len] at hi
  by_cases h1 : i < 17
  · exact runF_z81_le 20 _ _ (okE_eq (List.all_eq_true.1 (nodes_lo W) i (List.mem_range.2 h1)))
  · by_cases h2 : i < 33
    · have := word_at W (i - 17) (by omega)
      rw [show 17 + (i - 17) = i by omega] at this
      have hb := hW (i - 17) (by omega)
      refine const_ok this (by decide) (vwithin_iff.2 ?_)
      have : pw 16 = 65536 := rfl
      omega
    · have := okE_eq (List.all_eq_true.1 (nodes_hi W) (i - 33) (List.mem_range.2 (by omega)))
      rw [show i - 33 + 33 = i by omega] at this
      exact runF_z81_le 20 _ _ this
theorem el_name (M : Nat → Int) : ∀ i (h : i < (pEls M).length), run_z74 (.start ((pEls M)[i]).Name) = some ((true, ()), ()) := by
  intro i h
  have h : i < 16 := h
  have key : (List.range 16).all (fun i => match (pEls M)[i]? with | some x => (match runF_z74 20 (.start x.Name) with | some ((true, ()), ()) => true | _ => false) | none => false) = true := by kernel_rfl
  have := List.all_eq_true.1 key i (List.mem_range.2 h)
  rw [List.getElem?_eq_getElem (by exact h)] at this
  simp only at this
  split at this
  · rename_i hx
    exact runF_z74_le 20 _ _ hx
  · cases this
theorem pEls_ok {M : Nat → Int} (hM : ∀ k, k < 8 → 0 ≤ M k ∧ M k ≤ 255) : run_z77 (.start [] (pEls M)) = some ((0, (0, ())), ()) := by
  refine els_ok (show (16 : Nat) ≤ 40 by decide) (fun i h => ?_) fun i j h h2 => ?_
  · have hlt : i < 16 := h
    have p8 : pw 8 = 256 := rfl
    refine ⟨el_name M i h, ?_, ?_, ?_, ?_⟩
    · match i, h with
      | 0, _ => rfl | 1, _ => rfl | 2, _ => rfl | 3, _ => rfl | 4, _ => rfl | 5, _ => rfl | 6, _ => rfl | 7, _ => rfl | 8, _ => rfl | 9, _ => rfl | 10, _ => rfl | 11, _ => rfl | 12, _ => rfl | 13, _ => rfl | 14, _ => rfl | 15, _ => rfl | n + 16, h => exact absurd hlt (by omega)
    · match i, h with
      | 0, _ => rfl | 1, _ => rfl | 2, _ => rfl | 3, _ => rfl | 4, _ => rfl | 5, _ => rfl | 6, _ => rfl | 7, _ => rfl | 8, _ => rfl | 9, _ => rfl | 10, _ => rfl | 11, _ => rfl | 12, _ => rfl | 13, _ => rfl | 14, _ => rfl | 15, _ => rfl | n + 16, h => exact absurd hlt (by omega)
    · have hm : ∀ k, k < 8 → vwithin (M k) 0 (pw 8 - 1) = true := fun k hk => vwithin_iff.2 (by have := hM k hk; omega)
      match i, h with
      | 0, _ => rfl | 1, _ => rfl | 2, _ => rfl | 3, _ => rfl | 4, _ => rfl | 5, _ => rfl | 6, _ => rfl | 7, _ => rfl
      | 8, _ => exact hm 0 (by omega) | 9, _ => exact hm 1 (by omega) | 10, _ => exact hm 2 (by omega) | 11, _ => exact hm 3 (by omega) | 12, _ => exact hm 4 (by omega) | 13, _ => exact hm 5 (by omega) | 14, _ => exact hm 6 (by omega) | 15, _ => exact hm 7 (by omega) | n + 16, h => exact absurd hlt (by omega)
    · match i, h with
      | 0, _ => rfl | 1, _ => rfl | 2, _ => rfl | 3, _ => rfl | 4, _ => rfl | 5, _ => rfl | 6, _ => rfl | 7, _ => rfl | 8, _ => rfl | 9, _ => rfl | 10, _ => rfl | 11, _ => rfl | 12, _ => rfl | 13, _ => rfl | 14, _ => rfl | 15, _ => rfl | n + 16, h => exact absurd hlt (by omega)
  · have key : (List.range 16).all (fun i => (List.range i).all fun j => match (pEls M)[i]?, (pEls M)[j]? with | some x, some y => !seq y.Name x.Name | _, _ => false) = true := by kernel_rfl
    have h16 : i < 16 := h2
    have := List.all_eq_true.1 (List.all_eq_true.1 key i (List.mem_range.2 h16)) j (List.mem_range.2 h)
    rw [List.getElem?_eq_getElem (by exact h2), List.getElem?_eq_getElem (show j < (pEls M).length by exact Nat.lt_trans h h2)] at this
    simpa using this
theorem pDesign {W M : Nat → Int} (hW : ∀ k, k < 16 → 0 ≤ W k ∧ W k ≤ 65535) (hM : ∀ k, k < 8 → 0 ≤ M k ∧ M k ≤ 255) : run_z89 (.start pName [] (pEls M) (pNodes W) [pRule0, pRule1] [] []) = some ((true, ()), ()) := by
  have e1 : run_z74 (.start pName) = some ((true, ()), ()) := runF_z74_le 60 _ _ (by kernel_rfl)
  have e2 : run_z76 (.start []) = some ((0, (0, ())), ()) := runF_z76_le 20 _ _ (by kernel_rfl)
  have e3 : run_z78 (.start pName [] (pEls M) (pNodes W) [pRule0, pRule1] [] []) = some (((), ()), (pLeaves, ())) := runF_z78_le 30 _ _ (by kernel_rfl)
  have e4 := runF_z88_le 100 _ _ (pRest W M)
  rw [run_z89, run_z88]
  simp only [e1, e2, e3, some_bind', Bool.not_true, Bool.false_eq_true, if_false, bne_self_eq_false, pEls_ok hM, pNodes_ok hW, show decide ((List.length [pRule0, pRule1] : Int) > 16) = false from rfl, e4]
  rfl
end
end Go.Proofs.YtjededkgblbamaaGreatDoor.Ev.F
