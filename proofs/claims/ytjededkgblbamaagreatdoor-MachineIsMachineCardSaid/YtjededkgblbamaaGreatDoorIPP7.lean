/- A part of the proof. -/
import Derived.Test.YtjededkgblbamaaGreatDoorIPP6
import Derived.Test.YtjededkgblbamaaGreatDoorIFF
set_option linter.unusedVariables false
set_option linter.unusedSimpArgs false
set_option linter.unnecessarySimpa false
set_option maxRecDepth 100000
namespace Go.Proofs.YtjededkgblbamaaGreatDoor.Ev.F
open Go.Proofs.YtjededkgblbamaaGreatDoor.Ev
section
variable {W M : Nat → Int} {pc h v c r0 r1 r2 r3 m0 m1 m2 m3 m4 m5 m6 m7 y0 y1 y2 y3 y4 y5 y6 y7 y8 y9 y10 y11 y12 y13 y14 y15 : Int}
theorem x44 : uc6 (.start uc1 [] (pEls M) (ub9 W) [ub7, uc2] [] []) = some (((([0, 1], ([0, 1], ([⟨0, 1⟩], ()))), (true, ())), ())) := vT3 3000 _ _ (by kernel_rfl)
theorem xU4 : ur2 (.start uc1 [] (pEls M) (ub9 W) [ub7, uc2] [] [] (stv pc h v c r0 r1 r2 r3 m0 m1 m2 m3 m4 m5 m6 m7)) = some (((), ()), ((stv pc h v c r0 r1 r2 r3 m0 m1 m2 m3 m4 m5 m6 m7), ())) := uV0 60 _ _ (by kernel_rfl)
theorem w14 : us6 (.start uc1 [] (pEls M) (ub9 W) [ub7, uc2] [] [] (stv pc h v c r0 r1 r2 r3 m0 m1 m2 m3 m4 m5 m6 m7)) = some (((), ()), ((stv pc h v c r0 r1 r2 r3 m0 m1 m2 m3 m4 m5 m6 m7), ())) := vO5 60 _ _ (by kernel_rfl)
theorem xI5 : ue4 (.start uc1 [] (pEls M) (ub9 W) [ub7, uc2] [] [] [0, 1] [0, 1] [⟨0, 1⟩] [false, false] [] (stv pc h v c r0 r1 r2 r3 m0 m1 m2 m3 m4 m5 m6 m7)) = some (((), ()), ((stv pc h v c r0 r1 r2 r3 m0 m1 m2 m3 m4 m5 m6 m7), ())) := uI5 90 _ _ (by kernel_rfl)
theorem xX6 : ue4 (.p125244 [true, false] [] 0 0 uc1 [] (pEls M) (ub9 W) [ub7, uc2] [] [] [0, 1] [0, 1] [⟨0, 1⟩] (stv pc h v c r0 r1 r2 r3 m0 m1 m2 m3 m4 m5 m6 m7) (stv pc h v c r0 r1 r2 r3 m0 m1 m2 m3 m4 m5 m6 m7) (stv y0 y1 y2 y3 y4 y5 y6 y7 y8 y9 y10 y11 y12 y13 y14 y15)) = some (((), ()), ((stv pc h v c r0 r1 r2 r3 m0 m1 m2 m3 m4 m5 m6 m7), ())) := uI5 90 _ _ (by kernel_rfl)
theorem xT2 : ue4 (.p125244 [false, true] [] 1 0 uc1 [] (pEls M) (ub9 W) [ub7, uc2] [] [] [0, 1] [0, 1] [⟨0, 1⟩] (stv pc h v c r0 r1 r2 r3 m0 m1 m2 m3 m4 m5 m6 m7) (stv pc h v c r0 r1 r2 r3 m0 m1 m2 m3 m4 m5 m6 m7) (stv y0 y1 y2 y3 y4 y5 y6 y7 y8 y9 y10 y11 y12 y13 y14 y15)) = some (((), ()), ((stv pc h v c r0 r1 r2 r3 m0 m1 m2 m3 m4 m5 m6 m7), ())) := uI5 90 _ _ (by kernel_rfl)
theorem x28 (hh : ug1 (.start uc1 [] (pEls M) (ub9 W) [ub7, uc2] [] [] 0 [] (stv pc h v c r0 r1 r2 r3 m0 m1 m2 m3 m4 m5 m6 m7)) = some (((), ()), ((stv y0 y1 y2 y3 y4 y5 y6 y7 y8 y9 y10 y11 y12 y13 y14 y15), ()))) : ue4 (.start uc1 [] (pEls M) (ub9 W) [ub7, uc2] [] [] [0, 1] [0, 1] [⟨0, 1⟩] [true, false] [] (stv pc h v c r0 r1 r2 r3 m0 m1 m2 m3 m4 m5 m6 m7)) = some (((), ()), ((stv pc h v c r0 r1 r2 r3 m0 m1 m2 m3 m4 m5 m6 m7), ())) := by
  rw [ue4.eq_1]
  simp only [xU4, ua4]
  rw [ue4.eq_2]
  have i0 : idx ([0, 1] : List Int) 0 = some 0 := rfl
  have i1 : idx [true, false] 0 = some true := rfl
  rw [if_pos (by decide)]
  simp only [i0, i1, ua4, Bool.not_true, Bool.false_eq_true, if_false, hh, xX6]
theorem x34 (hh : ug1 (.start uc1 [] (pEls M) (ub9 W) [ub7, uc2] [] [] 1 [] (stv pc h v c r0 r1 r2 r3 m0 m1 m2 m3 m4 m5 m6 m7)) = some (((), ()), ((stv y0 y1 y2 y3 y4 y5 y6 y7 y8 y9 y10 y11 y12 y13 y14 y15), ()))) : ue4 (.start uc1 [] (pEls M) (ub9 W) [ub7, uc2] [] [] [0, 1] [0, 1] [⟨0, 1⟩] [false, true] [] (stv pc h v c r0 r1 r2 r3 m0 m1 m2 m3 m4 m5 m6 m7)) = some (((), ()), ((stv pc h v c r0 r1 r2 r3 m0 m1 m2 m3 m4 m5 m6 m7), ())) := by
  rw [ue4.eq_1]
  simp only [xU4, ua4]
  rw [ue4.eq_2]
  have i0 : idx ([0, 1] : List Int) 0 = some 0 := rfl
  have i1 : idx ([0, 1] : List Int) 1 = some 1 := rfl
  have j0 : idx [false, true] 0 = some false := rfl
  have j1 : idx [false, true] 1 = some true := rfl
  have w1 : IntKind.wrap .i64 ((0 : Int) + 1) = 1 := by kernel_rfl
  rw [if_pos (by decide)]
  simp only [i0, j0, ua4, Bool.not_false, if_true, w1]
  rw [ue4.eq_2]
  rw [if_pos (by decide)]
  simp only [i1, j1, ua4, Bool.not_true, Bool.false_eq_true, if_false, hh, xT2]
theorem xX7 : uv8 (.start [0, 1] [0, 1] [⟨0, 1⟩] 0 1) = some ((true, ()), ()) := vU6 20 _ _ (by kernel_rfl)
theorem xc6 {e0 e1 : Bool} (h0 : um4 (.start uc1 [] (pEls M) (ub9 W) [ub7, uc2] [] [] 0 [] (stv pc h v c r0 r1 r2 r3 m0 m1 m2 m3 m4 m5 m6 m7)) = some ((e0, ()), ())) (h1 : um4 (.start uc1 [] (pEls M) (ub9 W) [ub7, uc2] [] [] 1 [] (stv pc h v c r0 r1 r2 r3 m0 m1 m2 m3 m4 m5 m6 m7)) = some ((e1, ()), ())) : uf0 (.start uc1 [] (pEls M) (ub9 W) [ub7, uc2] [] [] [0, 1] [0, 1] [⟨0, 1⟩] [] (stv pc h v c r0 r1 r2 r3 m0 m1 m2 m3 m4 m5 m6 m7)) = some (((), ()), ([e0, !e0 && e1], ())) := by
  have w1 : IntKind.wrap .i64 ((0 : Int) + 1) = 1 := by kernel_rfl
  have w2 : IntKind.wrap .i64 ((1 : Int) + 1) = 2 := by kernel_rfl
  have i0 : idx ([0, 1] : List Int) 0 = some 0 := rfl
  have i1 : idx ([0, 1] : List Int) 1 = some 1 := rfl
  have fin : ∀ f, uf0 (.p116 [] (stv pc h v c r0 r1 r2 r3 m0 m1 m2 m3 m4 m5 m6 m7) 2 uc1 [] (pEls M) (ub9 W) [ub7, uc2] [] [] [0, 1] [0, 1] [⟨0, 1⟩] f) = some (((), ()), (f, ())) := fun f => by
    rw [uf0.eq_2, if_neg (by decide)]
  rw [uf0.eq_1, if_pos (by decide)]
  rw [show List.replicate (Int.toNat ((List.length [ub7, uc2] : Nat) : Int)) false = [false, false] from rfl]
  rw [uf0.eq_2, if_pos (by decide)]
  simp only [i0, ua4]
  rw [uf0.eq_3, if_neg (by decide), if_pos rfl]
  simp only [xI5, ua4, h0]
  rw [if_pos (by decide)]
  have k0 : idx [false, false] 0 = some false := rfl
  simp only [k0, ua4, w1]
  rw [show List.set [false, false] (Int.toNat 0) e0 = [e0, false] from rfl]
  rw [uf0.eq_2, if_pos (by decide)]
  simp only [i1, ua4]
  rw [uf0.eq_3, if_pos (by decide), if_pos rfl]
  have k1 : idx [e0, false] 0 = some e0 := rfl
  have k2 : ∀ x, idx [x, false] 1 = some false := fun _ => rfl
  simp only [i0, ua4]
  rw [if_pos (show (decide ((0 : Int) ≤ 0) && decide ((0 : Int) < (List.length [e0, false] : Int))) = true from rfl)]
  simp only [k1, ua4]
  cases e0 with
  | true =>
    simp only [if_true, xX7, ua4, Bool.not_true, w1]
    rw [uf0.eq_3, if_neg (by decide), if_neg (by decide), if_pos (by decide)]
    simp only [k2, ua4, w2]
    exact fin _
  | false =>
    simp only [Bool.false_eq_true, if_false, Bool.not_false, w1]
    rw [uf0.eq_3, if_neg (by decide), if_pos rfl]
    simp only [xI5, ua4, h1]
    rw [if_pos (by decide)]
    simp only [k2, ua4, w2]
    exact fin _
theorem outs (a b d : List Int) : ud3 (.p4084 0 uc1 [] (pEls M) (ub9 W) [ub7, uc2] [] [] a b d []) = some (((), ((), ((), ()))), ([], (b, (a, ())))) := by
  rw [ud3.eq_3, if_neg (by decide)]
theorem xn0 (h0 : um4 (.start uc1 [] (pEls M) (ub9 W) [ub7, uc2] [] [] 0 [] (stv pc h v c r0 r1 r2 r3 m0 m1 m2 m3 m4 m5 m6 m7)) = some ((false, ()), ())) (h1 : um4 (.start uc1 [] (pEls M) (ub9 W) [ub7, uc2] [] [] 1 [] (stv pc h v c r0 r1 r2 r3 m0 m1 m2 m3 m4 m5 m6 m7)) = some ((false, ()), ())) : ud3 (.start uc1 [] (pEls M) (ub9 W) [ub7, uc2] [] [] [0, 1] [0, 1] [⟨0, 1⟩] [] (stv pc h v c r0 r1 r2 r3 m0 m1 m2 m3 m4 m5 m6 m7)) = some (((), ((), ((), ()))), ([], ((stv pc h v c r0 r1 r2 r3 m0 m1 m2 m3 m4 m5 m6 m7), ([], ())))) := by
  have w1 : IntKind.wrap .i64 ((0 : Int) + 1) = 1 := by kernel_rfl
  have w2 : IntKind.wrap .i64 ((1 : Int) + 1) = 2 := by kernel_rfl
  have i0 : idx ([0, 1] : List Int) 0 = some 0 := rfl
  have i1 : idx ([0, 1] : List Int) 1 = some 1 := rfl
  have k0 : idx [false, false] 0 = some false := rfl
  have k1 : idx [false, false] 1 = some false := rfl
  have hlf : uo9 (.start [] (stv pc h v c r0 r1 r2 r3 m0 m1 m2 m3 m4 m5 m6 m7)) = some (((), ()), ((stv pc h v c r0 r1 r2 r3 m0 m1 m2 m3 m4 m5 m6 m7), ())) := by kernel_rfl
  rw [ud3.eq_1]
  simp only [xc6 h0 h1, w14, ua4, Bool.not_false, Bool.true_and]
  rw [ud3.eq_2, if_pos (by decide)]
  simp only [i0, ua4]
  rw [if_pos (by decide)]
  simp only [k0, ua4, Bool.false_eq_true, if_false, w1]
  rw [ud3.eq_2, if_pos (by decide)]
  simp only [i1, ua4]
  rw [if_pos (by decide)]
  simp only [k1, ua4, Bool.false_eq_true, if_false, w2]
  rw [ud3.eq_2, if_neg (by decide)]
  simp only [xI5, ua4, hlf, xd4 (show ((stv pc h v c r0 r1 r2 r3 m0 m1 m2 m3 m4 m5 m6 m7)).length = 16 from rfl), outs]
theorem xr4 (h0 : um4 (.start uc1 [] (pEls M) (ub9 W) [ub7, uc2] [] [] 0 [] (stv pc h v c r0 r1 r2 r3 m0 m1 m2 m3 m4 m5 m6 m7)) = some ((true, ()), ())) {e1 : Bool} (h1 : um4 (.start uc1 [] (pEls M) (ub9 W) [ub7, uc2] [] [] 1 [] (stv pc h v c r0 r1 r2 r3 m0 m1 m2 m3 m4 m5 m6 m7)) = some ((e1, ()), ())) (hh : ug1 (.start uc1 [] (pEls M) (ub9 W) [ub7, uc2] [] [] 0 [] (stv pc h v c r0 r1 r2 r3 m0 m1 m2 m3 m4 m5 m6 m7)) = some (((), ()), ((stv y0 y1 y2 y3 y4 y5 y6 y7 y8 y9 y10 y11 y12 y13 y14 y15), ()))) : ud3 (.start uc1 [] (pEls M) (ub9 W) [ub7, uc2] [] [] [0, 1] [0, 1] [⟨0, 1⟩] [] (stv pc h v c r0 r1 r2 r3 m0 m1 m2 m3 m4 m5 m6 m7)) = some (((), ((), ((), ()))), ([], ((stv y0 y1 y2 y3 y4 y5 y6 y7 y8 y9 y10 y11 y12 y13 y14 y15), ([0], ())))) := by
  have w1 : IntKind.wrap .i64 ((0 : Int) + 1) = 1 := by kernel_rfl
  have w2 : IntKind.wrap .i64 ((1 : Int) + 1) = 2 := by kernel_rfl
  have i0 : idx ([0, 1] : List Int) 0 = some 0 := rfl
  have i1 : idx ([0, 1] : List Int) 1 = some 1 := rfl
  have k0 : idx [true, false] 0 = some true := rfl
  have k1 : idx [true, false] 1 = some false := rfl
  have hlf : uo9 (.start [] (stv pc h v c r0 r1 r2 r3 m0 m1 m2 m3 m4 m5 m6 m7)) = some (((), ()), ((stv pc h v c r0 r1 r2 r3 m0 m1 m2 m3 m4 m5 m6 m7), ())) := by kernel_rfl
  rw [ud3.eq_1]
  simp only [xc6 h0 h1, w14, ua4, Bool.not_true, Bool.false_and]
  rw [ud3.eq_2, if_pos (by decide)]
  simp only [i0, ua4]
  rw [if_pos (by decide)]
  simp only [k0, ua4, if_true]
  rw [if_pos (by decide)]
  simp only [hh, ua4, w1, List.nil_append]
  rw [ud3.eq_2, if_pos (by decide)]
  simp only [i1, ua4]
  rw [if_pos (by decide)]
  simp only [k1, ua4, Bool.false_eq_true, if_false, w2]
  rw [ud3.eq_2, if_neg (by decide)]
  simp only [x28 hh, ua4, hlf, xd4 (show ((stv pc h v c r0 r1 r2 r3 m0 m1 m2 m3 m4 m5 m6 m7)).length = 16 from rfl), outs]
theorem xp8 (h0 : um4 (.start uc1 [] (pEls M) (ub9 W) [ub7, uc2] [] [] 0 [] (stv pc h v c r0 r1 r2 r3 m0 m1 m2 m3 m4 m5 m6 m7)) = some ((false, ()), ())) (h1 : um4 (.start uc1 [] (pEls M) (ub9 W) [ub7, uc2] [] [] 1 [] (stv pc h v c r0 r1 r2 r3 m0 m1 m2 m3 m4 m5 m6 m7)) = some ((true, ()), ())) (hh : ug1 (.start uc1 [] (pEls M) (ub9 W) [ub7, uc2] [] [] 1 [] (stv pc h v c r0 r1 r2 r3 m0 m1 m2 m3 m4 m5 m6 m7)) = some (((), ()), ((stv y0 y1 y2 y3 y4 y5 y6 y7 y8 y9 y10 y11 y12 y13 y14 y15), ()))) : ud3 (.start uc1 [] (pEls M) (ub9 W) [ub7, uc2] [] [] [0, 1] [0, 1] [⟨0, 1⟩] [] (stv pc h v c r0 r1 r2 r3 m0 m1 m2 m3 m4 m5 m6 m7)) = some (((), ((), ((), ()))), ([], ((stv y0 y1 y2 y3 y4 y5 y6 y7 y8 y9 y10 y11 y12 y13 y14 y15), ([1], ())))) := by
  have w1 : IntKind.wrap .i64 ((0 : Int) + 1) = 1 := by kernel_rfl
  have w2 : IntKind.wrap .i64 ((1 : Int) + 1) = 2 := by kernel_rfl
  have i0 : idx ([0, 1] : List Int) 0 = some 0 := rfl
  have i1 : idx ([0, 1] : List Int) 1 = some 1 := rfl
  have k0 : idx [false, true] 0 = some false := rfl
  have k1 : idx [false, true] 1 = some true := rfl
  have hlf : uo9 (.start [] (stv pc h v c r0 r1 r2 r3 m0 m1 m2 m3 m4 m5 m6 m7)) = some (((), ()), ((stv pc h v c r0 r1 r2 r3 m0 m1 m2 m3 m4 m5 m6 m7), ())) := by kernel_rfl
  rw [ud3.eq_1]
  simp only [xc6 h0 h1, w14, ua4, Bool.not_false, Bool.true_and]
  rw [ud3.eq_2, if_pos (by decide)]
  simp only [i0, ua4]
  rw [if_pos (by decide)]
  simp only [k0, ua4, Bool.false_eq_true, if_false, w1]
  rw [ud3.eq_2, if_pos (by decide)]
  simp only [i1, ua4]
  rw [if_pos (by decide)]
  simp only [k1, ua4, if_true]
  rw [if_pos (by decide)]
  simp only [hh, ua4, w2, List.nil_append]
  rw [ud3.eq_2, if_neg (by decide)]
  simp only [x34 hh, ua4, hlf, xd4 (show ((stv pc h v c r0 r1 r2 r3 m0 m1 m2 m3 m4 m5 m6 m7)).length = 16 from rfl), outs]
end
end Go.Proofs.YtjededkgblbamaaGreatDoor.Ev.F
