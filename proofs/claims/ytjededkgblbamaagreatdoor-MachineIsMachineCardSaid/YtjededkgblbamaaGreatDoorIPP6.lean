/- A part of the proof. -/
import Derived.Test.YtjededkgblbamaaGreatDoorIPP5
set_option linter.unusedVariables false
set_option linter.unusedSimpArgs false
set_option linter.unnecessarySimpa false
set_option maxRecDepth 100000
namespace Go.Proofs.YtjededkgblbamaaGreatDoor.Ev.F
open Go.Proofs.YtjededkgblbamaaGreatDoor.Ev
def hp (vals : Nat → Int) : List ub4 → List Int → List Int
 | [], s => s
 | w :: ws, s => hp vals ws (s.set w.Element.toNat (if vals w.When.toNat = 1 then vals w.Value.toNat else s.getD w.Element.toNat 0))
def okW (w : ub4) : Bool := (decide (0 ≤ w.When) && decide (w.When < 162)) && ((decide (0 ≤ w.Value) && decide (w.Value < 162)) && (decide (0 ≤ w.Element) && decide (w.Element < 16)))
theorem xt3 {l : List Int} {i : Nat} (h : i < l.length) : l.set i (l.getD i 0) = l := by
  apply List.ext_getElem?
  intro k
  by_cases hk : i = k
  · subst hk
    rw [List.getElem?_set_self h, List.getD_eq_getElem?_getD, List.getElem?_eq_getElem h]; rfl
  · rw [List.getElem?_set_ne hk]
theorem xI9 {vs : List Int} (hvs : vs.length = 162) {ws : List ub4} (hn : ws.length ≤ 1000) (hok : ∀ w ∈ ws, okW w = true) : ∀ (m i : Nat) (s : List Int), i + m = ws.length → s.length = 16 →
    ug1 (.p500 ws (i : Int) vs s) = some (((), ()), (hp (fun k => vs.getD k 0) (ws.drop i) s, ()))
 | 0, i, s, h, hs => by
   rw [ug1, List.drop_of_length_le (by omega)]
   simp [show ¬ i < ws.length by omega, hp]
 | m + 1, i, s, h, hs => by
   have hi : i < ws.length := by omega
   have ho := hok _ (List.getElem_mem hi)
   unfold okW at ho
   simp only [Bool.and_eq_true, decide_eq_true_eq] at ho
   obtain ⟨⟨w0, w1⟩, ⟨v0, v1⟩, e0, e1⟩ := ho
   have iw : idx vs ws[i].When = some (vs.getD ws[i].When.toNat 0) := by
     unfold idx; rw [if_pos w0, List.getD_eq_getElem?_getD, List.getElem?_eq_getElem (show ws[i].When.toNat < vs.length by omega)]; rfl
   have iv : idx vs ws[i].Value = some (vs.getD ws[i].Value.toNat 0) := by
     unfold idx; rw [if_pos v0, List.getD_eq_getElem?_getD, List.getElem?_eq_getElem (show ws[i].Value.toNat < vs.length by omega)]; rfl
   have ie : ∃ y, idx s ws[i].Element = some y := ⟨s[ws[i].Element.toNat]'(by omega), by unfold idx; rw [if_pos e0, List.getElem?_eq_getElem]⟩
   obtain ⟨y, ie⟩ := ie
   have cw : (decide ((0 : Int) ≤ ws[i].When) && decide (ws[i].When < (List.length vs : Int))) = true := by simp; omega
   have cv : (decide ((0 : Int) ≤ ws[i].Value) && decide (ws[i].Value < (List.length vs : Int))) = true := by simp; omega
   have ce : (decide ((0 : Int) ≤ ws[i].Element) && decide (ws[i].Element < (List.length s : Int))) = true := by simp; omega
   rw [ug1.eq_2]
   simp only [show (decide ((i : Int) < (List.length ws : Int))) = true by simpa using hi, if_true, uh8, List.getElem?_eq_getElem hi, ua4, cw, cv, ce, iw, iv, ie]
   rw [u78 (l := ws) (i := i) hi, hp]
   by_cases h1 : vs.getD ws[i].When.toNat 0 = 1
   · have : (vs.getD ws[i].When.toNat 0 == 1) = true := by simp only [h1]; rfl
     rw [if_pos this, if_pos h1, ui4 hi (by omega), xI9 hvs hn hok m (i + 1) _ (by omega) (by simpa using hs)]
   · have : ¬ (vs.getD ws[i].When.toNat 0 == 1) = true := by simpa only [beq_iff_eq] using h1
     rw [if_neg this, if_neg h1, xt3 (by omega), ui4 hi (by omega), xI9 hvs hn hok m (i + 1) _ (by omega) hs]
theorem happ {W M : Nat → Int} {r : Nat} {x : ua5} (hx : [ub7, uc2][r]? = some x) (hok : x.Writes.all okW = true) (hl : x.Writes.length ≤ 1000) {lv : List Int} (hlv : lv.length = 16) : ug1 (.start uc1 [] (pEls M) (ub9 W) [ub7, uc2] [] [] (r : Int) [] lv) = some (((), ()), (hp (V W lv) x.Writes lv, ())) := by
  rw [ug1.eq_1, uo9]
  have hc1 : uh0 (.start []) = some (((), ()), ([], ())) := by kernel_rfl
  have hc2 : uh0 (.start lv) = some (((), ()), (lv, ())) := by
    rw [uh0, if_pos (uy0 (by simp; omega))]; rfl
  simp only [hc1, ua4]
  rw [if_pos (uy0 (by simp; omega))]
  simp only [List.nil_append, ua4, xd4 hlv, hc2, uh8, hx]
  have hvl : (nv lv (ub9 W) []).length = 162 := by rw [wL0, uu1]; rfl
  have := xI9 hvl hl (fun w hw => List.all_eq_true.1 hok w hw) x.Writes.length 0 lv (by omega) hlv
  rw [show ((0 : Nat) : Int) = 0 from rfl, List.drop_zero] at this
  exact this
theorem enab {W M : Nat → Int} {r : Nat} {x : ua5} (hx : [ub7, uc2][r]? = some x) (hg : 0 ≤ x.Guard ∧ x.Guard < 162) {lv : List Int} (hlv : lv.length = 16) : um4 (.start uc1 [] (pEls M) (ub9 W) [ub7, uc2] [] [] (r : Int) [] lv) = some ((V W lv x.Guard.toNat == 1, ()), ()) := by
  rw [um4, uo9]
  have hc1 : uh0 (.start []) = some (((), ()), ([], ())) := by kernel_rfl
  simp only [hc1, ua4]
  rw [if_pos (uy0 (by simp; omega))]
  have hvl : (nv lv (ub9 W) []).length = 162 := by rw [wL0, uu1]; rfl
  have cw : (decide ((0 : Int) ≤ x.Guard) && decide (x.Guard < (List.length (nv lv (ub9 W) []) : Int))) = true := by rw [hvl]; simp; omega
  have iw : idx (nv lv (ub9 W) []) x.Guard = some (V W lv x.Guard.toNat) := by
    unfold idx V; rw [if_pos hg.1, List.getD_eq_getElem?_getD, List.getElem?_eq_getElem (show x.Guard.toNat < (nv lv (ub9 W) []).length by omega)]; rfl
  simp only [List.nil_append, ua4, xd4 hlv, uh8, hx, cw, if_true, iw]
end Go.Proofs.YtjededkgblbamaaGreatDoor.Ev.F
