/- A part of the proof. -/
import Derived.Test.YtjededkgblbamaaGreatDoorIPP1
set_option linter.unusedVariables false
set_option linter.unusedSimpArgs false
set_option linter.unnecessarySimpa false
set_option maxRecDepth 100000
namespace Go.Proofs.YtjededkgblbamaaGreatDoor.Ev.F
open Go.Proofs.YtjededkgblbamaaGreatDoor.Ev
theorem w49 {l : List Int} (hn : l.length ≤ 1000) : ∀ (k i : Nat), i + k = l.length → ud9 (.p116 l l (i : Int)) = some ((true, ()), ())
 | 0, i, h => by
   rw [ud9]
   simp [show ¬ i < l.length by omega]
 | k + 1, i, h => by
   have hi : i < l.length := by omega
   rw [ud9]
   simp only [show (decide ((i : Int) < (List.length l : Int))) = true by simpa using hi, if_true, uh8, List.getElem?_eq_getElem hi, ua4, bne_self_eq_false, Bool.false_eq_true, if_false]
   rw [ui4 hi (by omega)]
   exact w49 hn k (i + 1) (by omega)
theorem uM1 {l : List Int} (hn : l.length ≤ 1000) : ud9 (.start l l) = some ((true, ()), ()) := by
  rw [ud9]
  simp only [bne_self_eq_false, Bool.false_eq_true, if_false]
  exact w49 hn l.length 0 (by omega)
theorem wS8 {a b : Int} {x y : List Int} (hx : x.length ≤ 1000) (hy : y.length ≤ 1000) : uv5 (.start a b x y a b x y) = some ((true, ()), ()) := by
  rw [uv5]
  simp only [beq_self_eq_true, if_true, uM1 hx, uM1 hy, ua4]
theorem wR8 : ∀ w ∈ ul6, 0 ≤ w ∧ w ≤ 32 := by decide
def stE (s : List Int) : Int := if s.length = 16 then (if uL4 s ul6 = true then 0 else 2) else 10
theorem rstE (s : List Int) (hn : s.length ≤ 1000) : uK6 (.start s) = some ((stE s, ()), ()) := by
  rw [uK6]
  have e : u28 .start = some ((ul6, ()), ()) := rfl
  simp only [e, ua4]
  unfold stE
  by_cases hl : s.length = 16
  · rw [x43 (show s.length = ul6.length from hl) hn wR8]
    have : ((s.length : Int) != (ul6.length : Int)) = false := by rw [hl]; rfl
    simp only [this, Bool.false_eq_true, if_false, ua4, if_pos hl]
    cases uL4 s ul6 <;> simp
  · have : ((s.length : Int) != (ul6.length : Int)) = true := by
      have : (ul6.length : Int) = 16 := rfl
      rw [this]; simp; omega
    simp only [this, if_true, if_neg hl]
theorem x32 {s : List Int} (h : s.length = 16) : ∃ a0 a1 a2 a3 a4 a5 a6 a7 a8 a9 a10 a11 a12 a13 a14 a15, s = [a0, a1, a2, a3, a4, a5, a6, a7, a8, a9, a10, a11, a12, a13, a14, a15] := by
  match s, h with
  | [a0, a1, a2, a3, a4, a5, a6, a7, a8, a9, a10, a11, a12, a13, a14, a15], _ => exact ⟨_, _, _, _, _, _, _, _, _, _, _, _, _, _, _, _, rfl⟩
theorem xU8 {s : List Int} (h : s.length = 8) : ∃ a0 a1 a2 a3 a4 a5 a6 a7, s = [a0, a1, a2, a3, a4, a5, a6, a7] := by
  match s, h with
  | [a0, a1, a2, a3, a4, a5, a6, a7], _ => exact ⟨_, _, _, _, _, _, _, _, rfl⟩
theorem rin {a0 a1 a2 a3 a4 a5 a6 a7 a8 a9 a10 a11 a12 a13 a14 a15 : Int} :
    uT4 (.start [a0, a1, a2, a3, a4, a5, a6, a7, a8, a9, a10, a11, a12, a13, a14, a15]) = some (((a0, (a1, ((), ((), ())))), ()), ([a4, a5, a6, a7], ([a8, a9, a10, a11, a12, a13, a14, a15], ()))) := by
  kernel_rfl
theorem vr7 (l : List Int) (hn : l.length ≤ 1000) : uy9 (.start l) = some (((), ()), (l, ())) := by
  rw [uy9]
  have : fits (List.length ([] : List Int)) l.length 8 = true := Nat.ble_eq_true_of_le (by simp; omega)
  rw [if_pos this]
  rfl
def memF (m : List Int) (k : Nat) : Int := m.getD k 0
theorem x07 {c : ua3} (h : uB7 c.Op c.A c.B c.N = 0) : wE c = uz6 c.Op c.A c.B c.N := by
  have := xD9 h
  rw [uA7] at this
  simp only [show decide ((0 : Int) ≤ 12) = true from rfl, show decide ((0 : Int) ≤ 10) = true from rfl, show decide ((0 : Int) ≤ 8) = true from rfl, if_true] at this
  exact congrArg (fun x => x.1.1) (Option.some.inj this)
theorem vf4 : ∀ {l : List ua3} {i : Int}, (uz0 l i).2 = 0 → ∀ c ∈ l, uB7 c.Op c.A c.B c.N = 0
 | [], _, _, c, hc => by cases hc
 | x :: l, i, h, c, hc => by
   unfold uz0 at h
   split at h
   · rename_i h0
     rcases List.mem_cons.1 hc with rfl | hc
     · exact h0
     · exact vf4 h c hc
   · rename_i h0
     exact absurd h h0
theorem vx9 {l : List ua3} (h : (uS9 l).2 = 0) : l.length ≤ 16 ∧ ∀ c ∈ l, uB7 c.Op c.A c.B c.N = 0 := by
  unfold uS9 at h
  split at h
  · cases h
  · rename_i h0
    exact ⟨by omega, vf4 h⟩
theorem xY1 {l : List ua3} (h : ∀ c ∈ l, uB7 c.Op c.A c.B c.N = 0) (k : Nat) : 0 ≤ wd l k ∧ wd l k ≤ 65535 := by
  unfold wd
  cases hk : l[k]? with
  | none => simp
  | some c =>
    have hc := h c (List.mem_of_getElem? hk)
    obtain ⟨h1, h2, h3, h4, _⟩ := uQ5 hc
    rw [uk4] at h1 h2 h3 h4
    simp only
    rw [x07 hc]
    unfold uz6
    omega
theorem vd2 {m : List Int} (h : ut6 m 8 = 0) : m.length = 8 ∧ ∀ k, k < 8 → 0 ≤ memF m k ∧ memF m k ≤ 255 := by
  unfold ut6 at h
  split at h
  · rename_i hl
    split at h
    · rename_i ha
      have hl : m.length = 8 := by omega
      refine ⟨hl, fun k hk => ?_⟩
      have hk' : k < m.length := by omega
      have := List.all_eq_true.1 ha m[k] (List.getElem_mem hk')
      unfold memF
      rw [List.getD_eq_getElem?_getD, List.getElem?_eq_getElem hk']
      exact uk4.1 this
    · cases h
  · cases h
def pDes (l : List ua3) (m : List Int) : xO4 := (((uc1, ((), (pEls (memF m), (ub9 (wd l), ([ub7, uc2], ((), ((), ()))))))), ((0 : Int), ())), ())
theorem xs5 (l : List ua3) : uV6 (.start l) = some (((uS9 l).2, ()), ()) := by
  simp only [uV6, x24, ua4]
theorem xp9 (l : List ua3) : vu2 (.start l) = some (((uS9 l).2, ()), ()) := by
  simp only [vu2, x35, ua4]
theorem made (l : List ua3) (m : List Int) (hp : (uS9 l).2 = 0) (hm : ut6 m 8 = 0) : u14 (.start l m) = some (pDes l m) := by
  obtain ⟨hl, hc⟩ := vx9 hp
  obtain ⟨hml, hmb⟩ := vd2 hm
  obtain ⟨b0, b1, b2, b3, b4, b5, b6, b7, rfl⟩ := xU8 hml
  have e1 := vM1 100 _ _ (newp (memF [b0, b1, b2, b3, b4, b5, b6, b7]))
  have e2 := vI7 200 _ _ (xY3 (memF [b0, b1, b2, b3, b4, b5, b6, b7]) l hl)
  have e3 := vD7 200 _ _ (x49 (wd l) (memF [b0, b1, b2, b3, b4, b5, b6, b7]))
  have e1 : ur7 (.start [b0, b1, b2, b3, b4, b5, b6, b7]) = _ := e1
  rw [u14]
  have e0 : ui8 (.start [0, 0]) = some ((0, ()), ()) := vY0 [0, 0] (by simp)
  simp only [xs5, pmem _ (show (List.length [b0, b1, b2, b3, b4, b5, b6, b7]) ≤ 1000 by simp), ua4, hp, hm, e0, bne_self_eq_false, Bool.false_eq_true, if_false, e1, e2, e3]
  rfl
end Go.Proofs.YtjededkgblbamaaGreatDoor.Ev.F
