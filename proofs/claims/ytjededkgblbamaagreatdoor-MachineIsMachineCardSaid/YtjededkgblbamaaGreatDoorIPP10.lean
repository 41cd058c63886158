/- A part of the proof. -/
import Derived.Test.YtjededkgblbamaaGreatDoorIPP9
set_option linter.unusedVariables false
set_option linter.unusedSimpArgs false
set_option linter.unnecessarySimpa false
set_option maxRecDepth 100000
namespace Go.Proofs.YtjededkgblbamaaGreatDoor.Ev.F
open Go.Proofs.YtjededkgblbamaaGreatDoor.Ev
theorem okw0 : ub7.Writes.all okW = true := by kernel_rfl
theorem okw1 : uc2.Writes.all okW = true := by kernel_rfl
section
variable {l : List ua3} {clocks : Int} {M : Nat → Int}
theorem after {W : Nat → Int} {i : Nat} {t : Int} (ht : Int.tmod (i : Int) 2 = t) {pc h v c r0 r1 r2 r3 m0 m1 m2 m3 m4 m5 m6 m7 : Int} (hv : v = IntKind.wrap .i64 (1 - t)) (hi : i < 1000) :
    uc9 (.p4191391 l clocks (i : Int) [t] uc1 (pEls M) (ub9 W) [ub7, uc2] [0, 1] [0, 1] [⟨0, 1⟩] pc h (stv pc h v c r0 r1 r2 r3 m0 m1 m2 m3 m4 m5 m6 m7) [t] [r0, r1, r2, r3] [m0, m1, m2, m3, m4, m5, m6, m7]) =
    uc9 (.p16372 l clocks ((i + 1 : Nat) : Int) uc1 (pEls M) (ub9 W) [ub7, uc2] [0, 1] [0, 1] [⟨0, 1⟩] (stv pc h v c r0 r1 r2 r3 m0 m1 m2 m3 m4 m5 m6 m7) pc h [r0, r1, r2, r3] [m0, m1, m2, m3, m4, m5, m6, m7]) := by
  conv => lhs; rw [uc9.eq_6]
  have i2 : idx (stv pc h v c r0 r1 r2 r3 m0 m1 m2 m3 m4 m5 m6 m7) 2 = some v := rfl
  simp only [uM1 (l := [t]) (by simp), ua4, Bool.not_true, Bool.false_eq_true, if_false, rin, wS8 (x := [r0, r1, r2, r3]) (y := [m0, m1, m2, m3, m4, m5, m6, m7]) (by simp) (by simp)]
  rw [if_pos (show (decide ((0 : Int) ≤ 2) && decide ((2 : Int) < (List.length (stv pc h v c r0 r1 r2 r3 m0 m1 m2 m3 m4 m5 m6 m7) : Int))) = true from rfl)]
  simp only [i2, ua4, show (!((2 : Int) == 0)) = true from rfl, if_true, ht, ← hv, bne_self_eq_false, Bool.false_eq_true, if_false]
  rw [wrap_i64 (by omega) (by omega)]
  rfl
theorem u10 (hc : clocks ≤ 40) (hl : ∀ c ∈ l, uB7 c.Op c.A c.B c.N = 0) : ∀ (k i : Nat) (pc h v c r0 r1 r2 r3 m0 m1 m2 m3 m4 m5 m6 m7 : Int), i + k = clocks.toNat →
    (0 ≤ pc ∧ pc ≤ 15) → (h = 0 ∨ h = 1) → (0 ≤ c ∧ c ≤ 65535) → Rg r0 r1 r2 r3 → Mg m0 m1 m2 m3 m4 m5 m6 m7 → ((i % 2 = 0 ∧ v = 0) ∨ (i % 2 = 1 ∧ v = 1 ∧ h = 0 ∧ c = wd l pc.toNat)) →
    uc9 (.p16372 l clocks (i : Int) uc1 (pEls M) (ub9 (wd l)) [ub7, uc2] [0, 1] [0, 1] [⟨0, 1⟩] (stv pc h v c r0 r1 r2 r3 m0 m1 m2 m3 m4 m5 m6 m7) pc h [r0, r1, r2, r3] [m0, m1, m2, m3, m4, m5, m6, m7]) = some ((true, ()), ())
 | 0, i, pc, h, v, c, r0, r1, r2, r3, m0, m1, m2, m3, m4, m5, m6, m7, hk, hp, hh, hcc, R, G, hv => by
   rw [uc9.eq_4]
   have : decide ((i : Int) < clocks) = false := by simp; omega
   simp only [this, Bool.false_eq_true, if_false]
 | k + 1, i, pc, h, v, c, r0, r1, r2, r3, m0, m1, m2, m3, m4, m5, m6, m7, hk, hp, hh, hcc, R, G, hv => by
   have hlt : decide ((i : Int) < clocks) = true := by simp; omega
   have hlen : (stv pc h v c r0 r1 r2 r3 m0 m1 m2 m3 m4 m5 m6 m7).length = 16 := rfl
   have hvv : v = 0 ∨ v = 1 := by rcases hv with hv | hv; exact .inl hv.2; exact .inr hv.2.1
   have E0 := enab (W := wd l) (M := M) (r := 0) (x := ub7) rfl (by decide) hlen
   have E1 := enab (W := wd l) (M := M) (r := 1) (x := uc2) rfl (by decide) hlen
   rw [show ub7.Guard.toNat = 35 from rfl, xZ7 hh hvv] at E0
   rw [show uc2.Guard.toNat = 2 from rfl, l2] at E1
   have H0 := happ (W := wd l) (M := M) (r := 0) (x := ub7) rfl okw0 (by decide) hlen
   have H1 := happ (W := wd l) (M := M) (r := 1) (x := uc2) rfl okw1 (by decide) hlen
   rw [hp0, if_pos (V16 _ _), if_pos (V16 _ _), V16, xh6 hp.1 hp.2] at H0
   rw [show ((0 : Nat) : Int) = 0 from rfl] at E0 H0
   rw [show ((1 : Nat) : Int) = 1 from rfl] at E1 H1
   rw [uc9.eq_4]
   simp only [hlt, if_true, show (!((2 : Int) == 0)) = true from rfl]
   rcases hv with ⟨hpar, rfl⟩ | ⟨hpar, rfl, rfl, hcw⟩
   · have ht : Int.tmod (i : Int) 2 = 0 := by rw [Int.tmod_eq_emod_of_nonneg (by omega)]; omega
     rw [if_pos rfl] at E0
     rcases hh with rfl | rfl
     ·
       have C := xr4 E0 E1 H0
       have hw := xY1 hl pc.toNat
       have hs := wK7 (c := wd l pc.toNat) (v := 1) (h := 0) hp (by omega) (by omega) hw R G
       simp only [C, ua4, rstE _ (Nat.le_of_ble_eq_true rfl : (stv pc 0 1 (wd l pc.toNat) r0 r1 r2 r3 m0 m1 m2 m3 m4 m5 m6 m7).length ≤ 1000), hs, bne_self_eq_false, Bool.false_eq_true, if_false, show ((0 : Int) == 1) = false from rfl, ht]
       rw [uc9.eq_5]
       simp only [Bool.false_eq_true, if_false, show (!((2 : Int) == 0)) = true from rfl, if_true, ht, show ((0 : Int) == 1) = false from rfl]
       rw [after (W := wd l) ht (by kernel_rfl) (by omega)]
       exact u10 hc hl k (i + 1) pc 0 1 _ r0 r1 r2 r3 m0 m1 m2 m3 m4 m5 m6 m7 (by omega) hp (.inl rfl) hw R G (.inr ⟨by omega, rfl, rfl, rfl⟩)
     ·
       have C := xn0 E0 E1
       have hs := wK7 (c := c) (v := 0) (h := 1) hp (by omega) (by omega) hcc R G
       simp only [C, ua4, rstE _ (Nat.le_of_ble_eq_true rfl : (stv pc 1 0 c r0 r1 r2 r3 m0 m1 m2 m3 m4 m5 m6 m7).length ≤ 1000), hs, bne_self_eq_false, Bool.false_eq_true, if_false, show ((1 : Int) == 1) = true from rfl, if_true, ht, show ((0 : Int) == 0) = true from rfl]
       rw [uc9.eq_5]
       simp only [if_true, List.length_nil, show (((0 : Nat) : Int) == 0) = true from rfl, uM1 (l := stv pc 1 0 c r0 r1 r2 r3 m0 m1 m2 m3 m4 m5 m6 m7) (Nat.le_of_ble_eq_true rfl), ua4]
   ·
     have ht : Int.tmod (i : Int) 2 = 1 := by rw [Int.tmod_eq_emod_of_nonneg (by omega)]; omega
     obtain ⟨D, hj⟩ := xF7 hl pc
     rw [← hcw] at D
     rw [if_neg (by decide)] at E0
     rw [xQ8 D R hj] at H1
     have C := xp8 E0 E1 H1
     have hra := vg7 R (insn l pc).A
     have hrb := vg7 R (insn l pc).B
     obtain ⟨g0, g1, g2, g3, g4, g5, g6, g7⟩ := id G
     have hval := xI4 (op := (insn l pc).Op) D.hn hra hrb (xH4 g0 g1 g2 g3 g4 g5 g6 g7 (reg r0 r1 r2 r3 (insn l pc).B % 8))
     have hstep := xW4 (pc := pc) (m0 := m0) (m1 := m1) (m2 := m2) (m3 := m3) (m4 := m4) (m5 := m5) (m6 := m6) (m7 := m7) D R 0 0
     have hst := wG1 l hp.1 (r := [r0, r1, r2, r3]) (m := [m0, m1, m2, m3, m4, m5, m6, m7]) (by simp) (by simp)
     rw [hstep] at hst
     have hpc' : 0 ≤ npc (insn l pc).Op (insn l pc).N pc (reg r0 r1 r2 r3 (insn l pc).A) ∧ npc (insn l pc).Op (insn l pc).N pc (reg r0 r1 r2 r3 (insn l pc).A) ≤ 15 := by
       unfold npc
       split
       · exact hp
       · split
         · rename_i h1
           have := hj (by rcases h1 with h1 | h1; exact .inl h1; exact .inr h1.1)
           have := D.hn
           omega
         · rw [wrap_i64 (by omega) (by omega), Int.tmod_eq_emod_of_nonneg (by omega)]; omega
     have hhl : nhl (insn l pc).Op = 0 ∨ nhl (insn l pc).Op = 1 := by unfold nhl; split; exact .inr rfl; exact .inl rfl
     have hrg : ∀ j r, (0 ≤ r ∧ r ≤ 255) → 0 ≤ nrg (insn l pc).Op (insn l pc).A j (valv (insn l pc).Op (insn l pc).N (reg r0 r1 r2 r3 (insn l pc).A) (reg r0 r1 r2 r3 (insn l pc).B) (memv m0 m1 m2 m3 m4 m5 m6 m7 (reg r0 r1 r2 r3 (insn l pc).B % 8))) r ∧ nrg (insn l pc).Op (insn l pc).A j (valv (insn l pc).Op (insn l pc).N (reg r0 r1 r2 r3 (insn l pc).A) (reg r0 r1 r2 r3 (insn l pc).B) (memv m0 m1 m2 m3 m4 m5 m6 m7 (reg r0 r1 r2 r3 (insn l pc).B % 8))) r ≤ 255 := fun j r hr => by
       unfold nrg; split
       · exact hval
       · exact hr
     have hmm : ∀ j m, (0 ≤ m ∧ m ≤ 255) → 0 ≤ nmm (insn l pc).Op (reg r0 r1 r2 r3 (insn l pc).B % 8) j (reg r0 r1 r2 r3 (insn l pc).A) m ∧ nmm (insn l pc).Op (reg r0 r1 r2 r3 (insn l pc).B % 8) j (reg r0 r1 r2 r3 (insn l pc).A) m ≤ 255 := fun j m hm => by
       unfold nmm; split
       · exact hra
       · exact hm
     have R' : Rg _ _ _ _ := ⟨hrg 0 r0 R.hr0, hrg 1 r1 R.hr1, hrg 2 r2 R.hr2, hrg 3 r3 R.hr3⟩
     have G' : Mg _ _ _ _ _ _ _ _ := ⟨hmm 0 m0 g0, hmm 1 m1 g1, hmm 2 m2 g2, hmm 3 m3 g3, hmm 4 m4 g4, hmm 5 m5 g5, hmm 6 m6 g6, hmm 7 m7 g7⟩
     have hs := wK7 (c := c) (v := 0) (h := nhl (insn l pc).Op) hpc' (by omega) (by omega) hcc R' G'
     have hlN : ∀ {a b c d e f g h i j k l m n o p : Int}, (stv a b c d e f g h i j k l m n o p).length ≤ 1000 := fun {a b c d e f g h i j k l m n o p} => (Nat.le_of_ble_eq_true rfl : (stv a b c d e f g h i j k l m n o p).length ≤ 1000)
     simp only [C, ua4, rstE _ hlN, hs, bne_self_eq_false, Bool.false_eq_true, if_false, show ((0 : Int) == 1) = false from rfl, ht]
     rw [uc9.eq_5]
     simp only [Bool.false_eq_true, if_false, show (!((2 : Int) == 0)) = true from rfl, if_true, ht, show ((1 : Int) == 1) = true from rfl, hst, ua4]
     rw [after (W := wd l) ht (by kernel_rfl) (by omega)]
     exact u10 hc hl k (i + 1) _ _ 0 _ _ _ _ _ _ _ _ _ _ _ _ _ (by omega) hpc' hhl hcc R' G' (.inl ⟨by omega, rfl⟩)
end
theorem x42 (m : List Int) : uW4 (.start m) = some ((ut6 m 8, ()), ()) := by
  by_cases h : m.length = 8
  · exact rmem m (by omega)
  · have e : ((List.length m : Int) != 8) = true := by simp; omega
    have e2 : ¬ (m.length : Int) = 8 := by omega
    have b : ut8 (.start m 8) = some ((ut6 m 8, ()), ()) := by
      rw [ut8.eq_1]
      unfold ut6
      rw [if_pos e, if_neg e2]
    simp only [uW4, b, ua4]
theorem xT3 (M : Nat → Int) (W : Nat → Int) : ux3 (.start uc1 [] (pEls M) (ub9 W) [ub7, uc2] [] []) = some (((), ()), (stv 0 0 0 0 0 0 0 0 (M 0) (M 1) (M 2) (M 3) (M 4) (M 5) (M 6) (M 7), ())) := vL6 60 _ _ (by kernel_rfl)
theorem w79 (m : List Int) (hm : m.length ≤ 1000) : uF2 (.start m) = some ((((0 : Int), ((0 : Int), ((), ((), ())))), ()), ([0, 0, 0, 0], (m, ()))) := by
  rw [uF2]
  rw [if_pos (show uz7 (4 : Int) (4 : Int) 8 = true by kernel_rfl)]
  simp only [vr7 m hm, ua4]
  rfl
theorem vo2 (l : List ua3) (m : List Int) (clocks : Int) : uc9 (.start l m clocks) = some ((true, ()), ()) := by
  rw [uc9.eq_1]
  simp only [ua4, Bool.not_true, Bool.false_eq_true, if_false, xp9, x42, vi2]
  by_cases h0 : (uS9 l).2 = 0
  rotate_left
  · rw [if_pos (by simpa using h0)]
  by_cases h1 : ut6 m 8 = 0
  rotate_left
  · rw [if_neg (by simpa using h0), if_pos (by simpa using h1)]
  rw [if_neg (by simpa using h0), if_neg (by simpa using h1)]
  by_cases h2 : uc4 clocks 0 40 = true
  rotate_left
  · rw [if_pos (by simpa using h2)]
  rw [if_neg (by simpa using h2)]
  rw [uk4] at h2
  obtain ⟨hml, hmb⟩ := vd2 h1
  obtain ⟨hpl, hpc⟩ := vx9 h0
  rw [uc9.eq_2]
  have e2 : decide ((IntKind.wrap .i64 ((0 : Int) + (0 : Int))) > (0 : Int)) = false := by kernel_rfl
  have e3 : ((List.length (pEls (memF m)) : Int) != 16) = false := rfl
  have e4 : ((List.length [ub7, uc2] : Int) != 2) = false := rfl
  simp only [xS5 (show l.length ≤ 1000 by omega), vr7 m (by omega), ua4, made l m h0 h1, pDes, bne_self_eq_false, Bool.false_eq_true, if_false, xF9 (W := wd l) (M := memF m) (fun k _ => xY1 hpc k) hmb, Bool.not_true, e2, e3, e4]
  rw [uc9.eq_3]
  simp only [x44, ua4, Bool.not_true, Bool.false_eq_true, if_false, xT3, w79 m (by omega)]
  have key := u10 (l := l) (clocks := clocks) (M := memF m) h2.2 hpc clocks.toNat 0 0 0 0 0 0 0 0 0 (memF m 0) (memF m 1) (memF m 2) (memF m 3) (memF m 4) (memF m 5) (memF m 6) (memF m 7) (by omega) (by omega) (.inl rfl) (by omega) ⟨by omega, by omega, by omega, by omega⟩
    ⟨hmb 0 (by omega), hmb 1 (by omega), hmb 2 (by omega), hmb 3 (by omega), hmb 4 (by omega), hmb 5 (by omega), hmb 6 (by omega), hmb 7 (by omega)⟩ (.inl ⟨rfl, rfl⟩)
  obtain ⟨b0, b1, b2, b3, b4, b5, b6, b7, rfl⟩ := xU8 hml
  exact key
end Go.Proofs.YtjededkgblbamaaGreatDoor.Ev.F
