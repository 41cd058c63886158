/- A part of the proof. -/
import Derived.Test.YtjededkgblbamaaGreatDoorIF2
set_option linter.unusedVariables false
set_option maxRecDepth 100000
namespace Go.Proofs.YtjededkgblbamaaGreatDoor.Ev.F
open Go.Proofs Go.Proofs.YtjededkgblbamaaGreatDoor.Ev
noncomputable section
inductive wp0 where
 | start (inputs0 : (List Int)) (state1 : (List Int))
def vr9 : wp0 → List Bool
 | .start .. => []
def xD6 : wp0 → St E.S
 | .start inputs0 state1 => st0 9 [.sl 3 inputs0 false, .sl 3 state1 false] []
abbrev xO1 : Type := ((Unit × Unit) × ((List Int) × Unit))
def uZ8 : Res E (Unit × Unit) ((List Int) × Unit) := { rows := [], flat := [], keep := 0, rl := (.cons (Rd.rw 0) .nil), rb := (.cons (.row 3 false) .nil) }
def uo9 : wp0 → Option xO1
 | .start inputs0 state1 =>
  (uh0 (.start inputs0)) >>= fun t1 =>
  if (fits (List.length t1.2.1) (List.length state1) 8) = true then
   some (((), ()), (t1.2.1 ++ state1, ()))
  else none
def xd7 : List (Plc E wp0) := []
theorem wk1 : All (ub5 9 0 vr9 xD6) xd7 := trivial
def v79 : Code := Tryz.f94.body.getD .skip
def vY5 : Spec E.S := (Con.add uR4 ub3)
theorem vN6 : ub0 E vY5 := (Con.add_ok uu3 ua6)
theorem xg8 : ∀ pt r, uo9 pt = some r → Good E Tryz.f94 v79 0 (uZ8.av r) (uZ8.bx r) (vr9 pt) (xD6 pt) := by
 intro pt r hr
 cases pt <;> exact ua8 (spec := vY5) (wr := (mkWr [4, 6, 8] [])) (l := xd7) (z := 9) (p := uZ8) (run' := fun _ => none) E_ok wk1.mem rfl vN6 (fun _ _ h => by cases h) (Eq.trans (by kernel_rfl) hr)
def vm4 : Con E := ⟨94, _, _, (.cons (Rw.sl 3) (.cons (Rw.sl 3) .nil)), .nil, 0, xO1, fun a b => uo9 (.start a.1 a.2.1), uZ8.av, uZ8.bx⟩
theorem uP3 : vm4.Ok := fun a b r h => ub6 (fn := Tryz.f94) (code := v79) E_ok (by kernel_rfl) (by kernel_rfl) (by kernel_rfl) (Nat.le_of_ble_eq_true rfl) (xg8 (.start a.1 a.2.1) r h)
inductive wo3 where
 | start (is0 : Bool)
def vr6 : wo3 → List Bool
 | .start .. => []
def xy7 : wo3 → St E.S
 | .start is0 => st0 4 [.v (.bool is0)] []
abbrev xJ3 : Type := ((Int × Unit) × Unit)
def u94 : Res E (Int × Unit) Unit := { rows := [], flat := [], keep := 0, done := [0], rl := (.cons (Rd.int .i64) .nil), rb := .nil }
def uu9 : wo3 → Option xJ3
 | .start is0 =>
  if is0 = true then
   some (((1 : Int), ()), ())
  else
   some (((0 : Int), ()), ())
def wL4 : List (Plc E wo3) := []
theorem wA5 : All (ub5 4 0 vr6 xy7) wL4 := trivial
def v82 : Code := Tryz.f175.body.getD .skip
def v58 : Spec E.S := ub3
theorem vN9 : ub0 E v58 := ua6
theorem xi5 : ∀ pt r, uu9 pt = some r → Good E Tryz.f175 v82 0 (u94.av r) (u94.bx r) (vr6 pt) (xy7 pt) := by
 intro pt r hr
 cases pt <;> exact ua8 (spec := v58) (wr := (mkWr [] [])) (l := wL4) (z := 4) (p := u94) (run' := fun _ => none) E_ok wA5.mem rfl vN9 (fun _ _ h => by cases h) (Eq.trans (by kernel_rfl) hr)
def wR3 : Con E := ⟨175, _, _, (.cons Rd.bool.w .nil), .nil, 0, xJ3, fun a b => uu9 (.start a.1), u94.av, u94.bx⟩
theorem ww4 : wR3.Ok := fun a b r h => ub6 (fn := Tryz.f175) (code := v82) E_ok (by kernel_rfl) (by kernel_rfl) (by kernel_rfl) (Nat.le_of_ble_eq_true rfl) (xi5 (.start a.1) r h)
inductive wn8 where
 | start (n0 : Int) (width1 : Int)
def vs2 : wn8 → List Bool
 | .start .. => []
def xw0 : wn8 → St E.S
 | .start n0 width1 => st0 15 [.v (.int .i64 n0), .v (.int .i64 width1)] []
abbrev xQ2 : Type := ((Int × Unit) × Unit)
def u36 : Res E (Int × Unit) Unit := { rows := [], flat := [], keep := 0, done := [0], rl := (.cons (Rd.int .i64) .nil), rb := .nil }
def uH8 : wn8 → Option xQ2
 | .start n0 width1 =>
  (uk0 (.start (IntKind.wrap .i64 (width1 - (1 : Int))))) >>= fun t1 =>
  if (decide (n0 ≥ t1.1.1)) = true then
   (uk0 (.start width1)) >>= fun t2 =>
   some ((IntKind.wrap .i64 (n0 - t2.1.1), ()), ())
  else
   some ((n0, ()), ())
def w34 : List (Plc E wn8) := []
theorem wp7 : All (ub5 15 0 vs2 xw0) w34 := trivial
def v17 : Code := Tryz.f176.body.getD .skip
def wd8 : Spec E.S := (Con.add vq8 ub3)
theorem vF3 : ub0 E wd8 := (Con.add_ok uO6 ua6)
theorem xt8 : ∀ pt r, uH8 pt = some r → Good E Tryz.f176 v17 0 (u36.av r) (u36.bx r) (vs2 pt) (xw0 pt) := by
 intro pt r hr
 cases pt <;> exact ua8 (spec := wd8) (wr := (mkWr [] [])) (l := w34) (z := 15) (p := u36) (run' := fun _ => none) E_ok wp7.mem rfl vF3 (fun _ _ h => by cases h) (Eq.trans (by kernel_rfl) hr)
def xb3 : Con E := ⟨176, _, _, (.cons (Rd.int .i64).w (.cons (Rd.int .i64).w .nil)), .nil, 0, xQ2, fun a b => uH8 (.start a.1 a.2.1), u36.av, u36.bx⟩
theorem wG0 : xb3.Ok := fun a b r h => ub6 (fn := Tryz.f176) (code := v17) E_ok (by kernel_rfl) (by kernel_rfl) (by kernel_rfl) (Nat.le_of_ble_eq_true rfl) (xt8 (.start a.1 a.2.1) r h)
inductive ww5 where
 | start (x0_0 : Int) (x0_1 : Int) (x0_2 : (List Int)) (x0_3 : Int) (a1 : (List Int)) (w2 : (List Int)) (leaves3 : (List Int))
def vs4 : ww5 → List Bool
 | .start .. => []
def xy9 : ww5 → St E.S
 | .start x0_0 x0_1 x0_2 x0_3 a1 w2 leaves3 => st0 221 [.agg [.v (.int .i64 x0_0), .v (.int .i64 x0_1), .sl 3 x0_2 false, .v (.int .i64 x0_3)], .sl 3 a1 false, .sl 3 w2 false, .sl 3 leaves3 false] []
abbrev xH3 : Type := ((Int × Unit) × Unit)
def u29 : Res E (Int × Unit) Unit := { rows := [], flat := [], keep := 0, done := [0], rl := (.cons (Rd.int .i64) .nil), rb := .nil }
def uD6 : ww5 → Option xH3
 | .start x0_0 x0_1 x0_2 x0_3 a1 w2 leaves3 =>
  (uk0 (.start x0_1)) >>= fun t1 =>
  if (x0_0 == (0 : Int)) = true then
   some ((x0_3, ()), ())
  else
   if (x0_0 == (1 : Int)) = true then
    (idx leaves3 x0_3) >>= fun t2 =>
    some ((t2, ()), ())
   else
    if (x0_0 == (2 : Int)) = true then
     (idx a1 (0 : Int)) >>= fun t3 =>
     some ((IntKind.wrap .i64 ((IntKind.wrap .i64 (t1.1.1 - (1 : Int))) - t3), ()), ())
    else
     if (x0_0 == (3 : Int)) = true then
      (idx a1 (0 : Int)) >>= fun t4 =>
      (idx a1 (1 : Int)) >>= fun t5 =>
      some ((bits .and .i64 t4 t5, ()), ())
     else
      if (x0_0 == (4 : Int)) = true then
       (idx a1 (0 : Int)) >>= fun t6 =>
       (idx a1 (1 : Int)) >>= fun t7 =>
       some ((bits .or .i64 t6 t7, ()), ())
      else
       if (x0_0 == (5 : Int)) = true then
        (idx a1 (0 : Int)) >>= fun t8 =>
        (idx a1 (1 : Int)) >>= fun t9 =>
        some ((bits .xor .i64 t8 t9, ()), ())
       else
        if (x0_0 == (6 : Int)) = true then
         (idx a1 (0 : Int)) >>= fun t10 =>
         (idx a1 (1 : Int)) >>= fun t11 =>
         if (!(t1.1.1 == (0 : Int))) = true then
          some ((Int.tmod (IntKind.wrap .i64 (t10 + t11)) t1.1.1, ()), ())
         else none
        else
         if (x0_0 == (7 : Int)) = true then
          (idx a1 (0 : Int)) >>= fun t12 =>
          (idx a1 (1 : Int)) >>= fun t13 =>
          if (!(t1.1.1 == (0 : Int))) = true then
           some ((Int.tmod (IntKind.wrap .i64 ((IntKind.wrap .i64 (t12 - t13)) + t1.1.1)) t1.1.1, ()), ())
          else none
         else
          if (x0_0 == (8 : Int)) = true then
           (idx a1 (0 : Int)) >>= fun t14 =>
           (idx a1 (1 : Int)) >>= fun t15 =>
           if (!(t1.1.1 == (0 : Int))) = true then
            some ((Int.tmod (IntKind.wrap .i64 (t14 * t15)) t1.1.1, ()), ())
           else none
          else
           if (x0_0 == (9 : Int)) = true then
            (idx a1 (0 : Int)) >>= fun t16 =>
            (idx a1 (1 : Int)) >>= fun t17 =>
            (uu9 (.start (t16 == t17))) >>= fun t18 =>
            some ((t18.1.1, ()), ())
           else
            if (x0_0 == (10 : Int)) = true then
             (idx a1 (0 : Int)) >>= fun t19 =>
             (idx a1 (1 : Int)) >>= fun t20 =>
             (uu9 (.start (decide (t19 < t20)))) >>= fun t21 =>
             some ((t21.1.1, ()), ())
            else
             if (x0_0 == (11 : Int)) = true then
              (idx a1 (0 : Int)) >>= fun t22 =>
              (idx w2 (0 : Int)) >>= fun t23 =>
              (uH8 (.start t22 t23)) >>= fun t24 =>
              (idx a1 (1 : Int)) >>= fun t25 =>
              (idx w2 (1 : Int)) >>= fun t26 =>
              (uH8 (.start t25 t26)) >>= fun t27 =>
              (uu9 (.start (decide (t24.1.1 < t27.1.1)))) >>= fun t28 =>
              some ((t28.1.1, ()), ())
             else
              if (x0_0 == (12 : Int)) = true then
               (idx a1 (0 : Int)) >>= fun t29 =>
               if (t29 == (1 : Int)) = true then
                (idx a1 (1 : Int)) >>= fun t30 =>
                some ((t30, ()), ())
               else
                (idx a1 (2 : Int)) >>= fun t31 =>
                some ((t31, ()), ())
              else
               if (x0_0 == (13 : Int)) = true then
                (idx a1 (0 : Int)) >>= fun t32 =>
                (idx w2 (1 : Int)) >>= fun t33 =>
                (uk0 (.start t33)) >>= fun t34 =>
                (idx a1 (1 : Int)) >>= fun t35 =>
                some ((IntKind.wrap .i64 ((IntKind.wrap .i64 (t32 * t34.1.1)) + t35), ()), ())
               else
                if (x0_0 == (14 : Int)) = true then
                 (idx a1 (0 : Int)) >>= fun t36 =>
                 (uk0 (.start x0_3)) >>= fun t37 =>
                 if (!(t37.1.1 == (0 : Int))) = true then
                  if (!(t1.1.1 == (0 : Int))) = true then
                   some ((Int.tmod (IntKind.wrap .i64 (Int.tdiv t36 t37.1.1)) t1.1.1, ()), ())
                  else none
                 else none
                else
                 if (x0_0 == (15 : Int)) = true then
                  (idx a1 (0 : Int)) >>= fun t38 =>
                  some ((t38, ()), ())
                 else
                  if (x0_0 == (16 : Int)) = true then
                   (idx a1 (0 : Int)) >>= fun t39 =>
                   (idx w2 (0 : Int)) >>= fun t40 =>
                   (uH8 (.start t39 t40)) >>= fun t41 =>
                   if (!(t1.1.1 == (0 : Int))) = true then
                    some ((Int.tmod (IntKind.wrap .i64 (t41.1.1 + t1.1.1)) t1.1.1, ()), ())
                   else none
                  else
                   if (x0_0 == (17 : Int)) = true then
                    (idx a1 (1 : Int)) >>= fun t42 =>
                    if (decide (t42 ≥ x0_1)) = true then
                     some (((0 : Int), ()), ())
                    else
                     (idx a1 (0 : Int)) >>= fun t43 =>
                     (idx a1 (1 : Int)) >>= fun t44 =>
                     (uk0 (.start t44)) >>= fun t45 =>
                     if (!(t1.1.1 == (0 : Int))) = true then
                      some ((Int.tmod (IntKind.wrap .i64 (t43 * t45.1.1)) t1.1.1, ()), ())
                     else none
                   else
                    (idx a1 (1 : Int)) >>= fun t46 =>
                    if (decide (t46 ≥ x0_1)) = true then
                     some (((0 : Int), ()), ())
                    else
                     (idx a1 (0 : Int)) >>= fun t47 =>
                     (idx a1 (1 : Int)) >>= fun t48 =>
                     (uk0 (.start t48)) >>= fun t49 =>
                     if (!(t49.1.1 == (0 : Int))) = true then
                      some ((IntKind.wrap .i64 (Int.tdiv t47 t49.1.1), ()), ())
                     else none
def xd1 : List (Plc E ww5) := []
theorem wj2 : All (ub5 221 0 vs4 xy9) xd1 := trivial
def wd1 : Code := Tryz.f145.body.getD .skip
def wf1 : Spec E.S := (Con.add xb3 (Con.add wR3 (Con.add vq8 ub3)))
theorem vS2 : ub0 E wf1 := (Con.add_ok wG0 (Con.add_ok ww4 (Con.add_ok uO6 ua6)))
theorem xp0 : ∀ pt r, uD6 pt = some r → Good E Tryz.f145 wd1 0 (u29.av r) (u29.bx r) (vs4 pt) (xy9 pt) := by
 intro pt r hr
 cases pt <;> exact ua8 (spec := wf1) (wr := (mkWr [] [])) (l := xd1) (z := 221) (p := u29) (run' := fun _ => none) E_ok wj2.mem rfl vS2 (fun _ _ h => by cases h) (Eq.trans (by kernel_rfl) hr)
def wN7 : Con E := ⟨145, _, _, (.cons (Rw.agg (.cons (Rd.int .i64).w (.cons (Rd.int .i64).w (.cons (Rw.sl 3) (.cons (Rd.int .i64).w .nil))))) (.cons (Rw.sl 3) (.cons (Rw.sl 3) (.cons (Rw.sl 3) .nil)))), .nil, 0, xH3, fun a b => uD6 (.start a.1.1 a.1.2.1 a.1.2.2.1 a.1.2.2.2.1 a.2.1 a.2.2.1 a.2.2.2.1), u29.av, u29.bx⟩
theorem wz5 : wN7.Ok := fun a b r h => ub6 (fn := Tryz.f145) (code := wd1) E_ok (by kernel_rfl) (by kernel_rfl) (by kernel_rfl) (Nat.le_of_ble_eq_true rfl) (xp0 (.start a.1.1 a.1.2.1 a.1.2.2.1 a.1.2.2.2.1 a.2.1 a.2.2.1 a.2.2.2.1) r h)
inductive wy3 where
 | start (nodes0 : (List ua2)) (leaves1 : (List Int))
 | p116 (nodes0 : (List ua2)) (leaves1 : (List Int)) (i6 : Int) (B0 : (List Int))
 | p29844 (nodes0 : (List ua2)) (leaves1 : (List Int)) (i6 : Int) (k9 : Int) (B0 : (List Int)) (B1 : (List Int)) (B2 : (List Int))
def u88 : wy3 → List Bool
 | .start .. => []
 | .p116 .. => [false, false, true, false, true, true]
 | .p29844 .. => [false, false, true, false, true, false, false, true, false, false, true, false, true, true]
def wY6 : wy3 → St E.S
 | .start nodes0 leaves1 => st0 70 [.sl 208 nodes0 false, .sl 3 leaves1 false] []
 | .p116 nodes0 leaves1 i6 B0 => mkSt 70 [0, 1, 5, 6] [.sl 208 nodes0 false, .sl 3 leaves1 false, .rw 0, .v (.int .i64 i6)] [.row 3 B0 false]
 | .p29844 nodes0 leaves1 i6 k9 B0 B1 B2 => mkSt 70 [0, 1, 5, 6, 7, 8, 9] [.sl 208 nodes0 false, .sl 3 leaves1 false, .rw 0, .v (.int .i64 i6), .rw 1, .rw 2, .v (.int .i64 k9)] [.row 3 B0 false, .row 3 B1 false, .row 3 B2 false]
abbrev xI1 : Type := ((Unit × Unit) × ((List Int) × Unit))
def uE2 : Res E (Unit × Unit) ((List Int) × Unit) := { rows := [], flat := [], keep := 0, rl := (.cons (Rd.rw 0) .nil), rb := (.cons (.row 3 false) .nil) }
def ue6 : wy3 → Option xI1
 | .start nodes0 leaves1 =>
  if (uz7 (List.length nodes0 : Int) (List.length nodes0 : Int) 8) = true then
   ue6 (.p116 nodes0 leaves1 (0 : Int) (List.replicate (Int.toNat (List.length nodes0 : Int)) (0 : Int)))
  else none
 | .p116 nodes0 leaves1 i6 B0 =>
  if (decide (i6 < (List.length nodes0 : Int))) = true then
   ue6 (.p29844 nodes0 leaves1 i6 (0 : Int) B0 ([] : List Int) ([] : List Int))
  else
   some (((), ()), (B0, ()))
 | .p29844 nodes0 leaves1 i6 k9 B0 B1 B2 =>
  (idx nodes0 i6) >>= fun t1 =>
  if (decide (k9 < (List.length t1.Args : Int))) = true then
   (idx nodes0 i6) >>= fun t2 =>
   (idx t2.Args k9) >>= fun t3 =>
   if (decide ((0 : Int) ≤ t3) && decide (t3 < (List.length B0 : Int))) = true then
    (idx B0 t3) >>= fun t4 =>
    if (fits (List.length B1) (List.length ([t4] : List Int)) 8) = true then
     (idx nodes0 i6) >>= fun t5 =>
     (idx t5.Args k9) >>= fun t6 =>
     (idx nodes0 t6) >>= fun t7 =>
     if (fits (List.length B2) (List.length ([t7.Width] : List Int)) 8) = true then
      ue6 (.p29844 nodes0 leaves1 i6 (IntKind.wrap .i64 (k9 + (1 : Int))) B0 (B1 ++ ([t4] : List Int)) (B2 ++ ([t7.Width] : List Int)))
     else none
    else none
   else none
  else
   (idx nodes0 i6) >>= fun t8 =>
   (uD6 (.start t8.Op t8.Width t8.Args t8.Value B1 B2 leaves1)) >>= fun t9 =>
   if (decide ((0 : Int) ≤ i6) && decide (i6 < (List.length B0 : Int))) = true then
    (idx B0 i6) >>= fun t10 =>
    ue6 (.p116 nodes0 leaves1 (IntKind.wrap .i64 (i6 + (1 : Int))) (List.set B0 (Int.toNat i6) t9.1.1))
   else none
 partial_fixpoint
def wM9 : List (Plc E wy3) := [⟨116, [false, false, true, false, true, true], { slots := [0, 1, 5, 6], rows := [], flat := [], keep := 0 }, _, _, (.cons (Rd.sl 208 false) (.cons (Rd.sl 3 false) (.cons (Rd.rw 0) (.cons (Rd.int .i64) .nil)))), (.cons (.row 3 false) .nil), fun a b => .p116 a.1 a.2.1 a.2.2.2.1 b.1⟩,
 ⟨29844, [false, false, true, false, true, false, false, true, false, false, true, false, true, true], { slots := [0, 1, 5, 6, 7, 8, 9], rows := [(7, 3), (8, 3)], flat := [], keep := 0 }, _, _, (.cons (Rd.sl 208 false) (.cons (Rd.sl 3 false) (.cons (Rd.rw 0) (.cons (Rd.int .i64) (.cons (Rd.rw 1) (.cons (Rd.rw 2) (.cons (Rd.int .i64) .nil))))))), (.cons (.row 3 false) (.cons (.row 3 false) (.cons (.row 3 false) .nil))), fun a b => .p29844 a.1 a.2.1 a.2.2.2.1 a.2.2.2.2.2.2.1 b.1 b.2.1 b.2.2.1⟩]
theorem wB0 : All (ub5 70 0 u88 wY6) wM9 := ⟨⟨rfl, rfl, fun _ _ => rfl, fun _ _ => rfl⟩, ⟨⟨rfl, rfl, fun _ _ => rfl, fun _ _ => rfl⟩, trivial⟩⟩
def vp5 : Code := Tryz.f93.body.getD .skip
def v49 : Spec E.S := (Con.add wN7 ub3)
theorem vT7 : ub0 E v49 := (Con.add_ok wz5 ua6)
theorem xn9 : ∀ pt r, ue6 pt = some r → Good E Tryz.f93 vp5 0 (uE2.av r) (uE2.bx r) (u88 pt) (wY6 pt) := by
 refine ue6.partial_correctness (fun pt r => Good E Tryz.f93 vp5 0 (uE2.av r) (uE2.bx r) (u88 pt) (wY6 pt)) ?_
 intro run' ih pt r hr
 cases pt <;> exact ua8 (spec := v49) (wr := (mkWr [4, 5, 12, 30, 39, 58, 68, 69] [])) (l := wM9) (z := 70) (p := uE2) E_ok wB0.mem rfl vT7 ih (Eq.trans (by kernel_rfl) hr)
def vj9 : Con E := ⟨93, _, _, (.cons (Rw.sl 208) (.cons (Rw.sl 3) .nil)), .nil, 0, xI1, fun a b => ue6 (.start a.1 a.2.1), uE2.av, uE2.bx⟩
theorem uO0 : vj9.Ok := fun a b r h => ub6 (fn := Tryz.f93) (code := vp5) E_ok (by kernel_rfl) (by kernel_rfl) (by kernel_rfl) (Nat.le_of_ble_eq_true rfl) (xn9 (.start a.1 a.2.1) r h)
inductive wA1 where
 | start (d0_0 : ByteArray) (d0_1 : (List ub2)) (d0_2 : (List ua1)) (d0_3 : (List ua2)) (d0_4 : (List ua5)) (d0_5 : (List ua9)) (d0_6 : (List ua7)) (rule1 : Int) (inputs2 : (List Int)) (state3 : (List Int))
 | p500 (l11 : (List ub4)) (i12 : Int) (B0 : (List Int)) (B1 : (List Int))
def u84 : wA1 → List Bool
 | .start .. => []
 | .p500 .. => [false, false, true, false, true, true, true, true]
def wZ0 : wA1 → St E.S
 | .start d0_0 d0_1 d0_2 d0_3 d0_4 d0_5 d0_6 rule1 inputs2 state3 => st0 58 [.agg [.v (.string d0_0), .sl 206 d0_1 false, .sl 82 d0_2 false, .sl 208 d0_3 false, .sl 85 d0_4 false, .sl 190 d0_5 false, .sl 146 d0_6 false], .v (.int .i64 rule1), .sl 3 inputs2 false, .sl 3 state3 false] []
 | .p500 l11 i12 B0 B1 => mkSt 58 [9, 10, 11, 12] [.rw 0, .rw 1, .sl 151 l11 false, .v (.int .i64 i12)] [.row 3 B0 false, .row 3 B1 false]
abbrev xK1 : Type := ((Unit × Unit) × ((List Int) × Unit))
def uH7 : Res E (Unit × Unit) ((List Int) × Unit) := { rows := [], flat := [], keep := 0, rl := (.cons (Rd.rw 0) .nil), rb := (.cons (.row 3 false) .nil) }
def ug1 : wA1 → Option xK1
 | .start d0_0 d0_1 d0_2 d0_3 d0_4 d0_5 d0_6 rule1 inputs2 state3 =>
  (uo9 (.start inputs2 state3)) >>= fun t1 =>
  (ue6 (.start d0_3 t1.2.1)) >>= fun t2 =>
  (uh0 (.start state3)) >>= fun t3 =>
  (idx d0_4 rule1) >>= fun t4 =>
  ug1 (.p500 t4.Writes (0 : Int) t2.2.1 t3.2.1)
 | .p500 l11 i12 B0 B1 =>
  if (decide (i12 < (List.length l11 : Int))) = true then
   (idx l11 i12) >>= fun t1 =>
   if (decide ((0 : Int) ≤ t1.When) && decide (t1.When < (List.length B0 : Int))) = true then
    (idx B0 t1.When) >>= fun t2 =>
    if (t2 == (1 : Int)) = true then
     (idx l11 i12) >>= fun t3 =>
     (idx l11 i12) >>= fun t4 =>
     if (decide ((0 : Int) ≤ t4.Value) && decide (t4.Value < (List.length B0 : Int))) = true then
      (idx B0 t4.Value) >>= fun t5 =>
      if (decide ((0 : Int) ≤ t3.Element) && decide (t3.Element < (List.length B1 : Int))) = true then
       (idx B1 t3.Element) >>= fun t6 =>
       ug1 (.p500 l11 (IntKind.wrap .i64 (i12 + (1 : Int))) B0 (List.set B1 (Int.toNat t3.Element) t5))
      else none
     else none
    else
     ug1 (.p500 l11 (IntKind.wrap .i64 (i12 + (1 : Int))) B0 B1)
   else none
  else
   some (((), ()), (B1, ()))
 partial_fixpoint
def wK5 : List (Plc E wA1) := [⟨500, [false, false, true, false, true, true, true, true], { slots := [9, 10, 11, 12], rows := [], flat := [], keep := 0 }, _, _, (.cons (Rd.rw 0) (.cons (Rd.rw 1) (.cons (Rd.sl 151 false) (.cons (Rd.int .i64) .nil)))), (.cons (.row 3 false) (.cons (.row 3 false) .nil)), fun a b => .p500 a.2.2.1 a.2.2.2.1 b.1 b.2.1⟩]
theorem ws3 : All (ub5 58 0 u84 wZ0) wK5 := ⟨⟨rfl, rfl, fun _ _ => rfl, fun _ _ => rfl⟩, trivial⟩
def vk0 : Code := Tryz.f47.body.getD .skip
def wh8 : Spec E.S := (Con.add uR4 (Con.add vj9 (Con.add vm4 ub3)))
theorem vU7 : ub0 E wh8 := (Con.add_ok uu3 (Con.add_ok uO0 (Con.add_ok uP3 ua6)))
theorem xu6 : ∀ pt r, ug1 pt = some r → Good E Tryz.f47 vk0 0 (uH7.av r) (uH7.bx r) (u84 pt) (wZ0 pt) := by
 refine ug1.partial_correctness (fun pt r => Good E Tryz.f47 vk0 0 (uH7.av r) (uH7.bx r) (u84 pt) (wZ0 pt)) ?_
 intro run' ih pt r hr
 cases pt <;> exact ua8 (spec := wh8) (wr := (mkWr [8, 10, 20, 42, 56, 57] [])) (l := wK5) (z := 58) (p := uH7) E_ok ws3.mem rfl vU7 ih (Eq.trans (by kernel_rfl) hr)
def vK5 : Con E := ⟨47, _, _, (.cons (Rw.agg (.cons Rd.str.w (.cons (Rw.sl 206) (.cons (Rw.sl 82) (.cons (Rw.sl 208) (.cons (Rw.sl 85) (.cons (Rw.sl 190) (.cons (Rw.sl 146) .nil)))))))) (.cons (Rd.int .i64).w (.cons (Rw.sl 3) (.cons (Rw.sl 3) .nil)))), .nil, 0, xK1, fun a b => ug1 (.start a.1.1 a.1.2.1 a.1.2.2.1 a.1.2.2.2.1 a.1.2.2.2.2.1 a.1.2.2.2.2.2.1 a.1.2.2.2.2.2.2.1 a.2.1 a.2.2.1 a.2.2.2.1), uH7.av, uH7.bx⟩
theorem vg4 : vK5.Ok := fun a b r h => ub6 (fn := Tryz.f47) (code := vk0) E_ok (by kernel_rfl) (by kernel_rfl) (by kernel_rfl) (Nat.le_of_ble_eq_true rfl) (xu6 (.start a.1.1 a.1.2.1 a.1.2.2.1 a.1.2.2.2.1 a.1.2.2.2.2.1 a.1.2.2.2.2.2.1 a.1.2.2.2.2.2.2.1 a.2.1 a.2.2.1 a.2.2.2.1) r h)
inductive wH2 where
 | start (d0_0 : ByteArray) (d0_1 : (List ub2)) (d0_2 : (List ua1)) (d0_3 : (List ua2)) (d0_4 : (List ua5)) (d0_5 : (List ua9)) (d0_6 : (List ua7)) (s1_0 : (List Int)) (s1_1 : (List Int)) (s1_2 : (List ub1)) (fires2 : (List Bool)) (inputs3 : (List Int)) (state4 : (List Int))
 | p244 (fires2 : (List Bool)) (inputs3 : (List Int)) (i13 : Int) (C0 : ByteArray) (C1 : (List ub2)) (C2 : (List ua1)) (C3 : (List ua2)) (C4 : (List ua5)) (C5 : (List ua9)) (C6 : (List ua7)) (D0 : (List Int)) (D1 : (List Int)) (D2 : (List ub1)) (B2 : (List Int)) (B3 : (List Int))
 | p125244 (fires2 : (List Bool)) (inputs3 : (List Int)) (i13 : Int) (k16 : Int) (C0 : ByteArray) (C1 : (List ub2)) (C2 : (List ua1)) (C3 : (List ua2)) (C4 : (List ua5)) (C5 : (List ua9)) (C6 : (List ua7)) (D0 : (List Int)) (D1 : (List Int)) (D2 : (List ub1)) (B2 : (List Int)) (B3 : (List Int)) (B4 : (List Int))
def u15 : wH2 → List Bool
 | .start .. => []
 | .p244 .. => [false, false, true, false, true, true, true]
 | .p125244 .. => [false, false, true, true, true, true, false, false, true, false, false, true, false, true, true, true]
def wO0 : wH2 → St E.S
 | .start d0_0 d0_1 d0_2 d0_3 d0_4 d0_5 d0_6 s1_0 s1_1 s1_2 fires2 inputs3 state4 => st0 73 [.agg [.v (.string d0_0), .sl 206 d0_1 false, .sl 82 d0_2 false, .sl 208 d0_3 false, .sl 85 d0_4 false, .sl 190 d0_5 false, .sl 146 d0_6 false], .agg [.sl 3 s1_0 false, .sl 3 s1_1 false, .sl 181 s1_2 false], .sl 4 fires2 false, .sl 3 inputs3 false, .sl 3 state4 false] []
 | .p244 fires2 inputs3 i13 C0 C1 C2 C3 C4 C5 C6 D0 D1 D2 B2 B3 => mkSt 73 [2, 3, 5, 6, 11, 12, 13] [.sl 4 fires2 false, .sl 3 inputs3 false, .bp 0 0, .bp 1 0, .rw 2, .rw 3, .v (.int .i64 i13)] [.var 75 [.v (.string C0), .sl 206 C1 false, .sl 82 C2 false, .sl 208 C3 false, .sl 85 C4 false, .sl 190 C5 false, .sl 146 C6 false], .var 109 [.sl 3 D0 false, .sl 3 D1 false, .sl 181 D2 false], .row 3 B2 false, .row 3 B3 false]
 | .p125244 fires2 inputs3 i13 k16 C0 C1 C2 C3 C4 C5 C6 D0 D1 D2 B2 B3 B4 => mkSt 73 [2, 3, 5, 6, 11, 12, 13, 15, 16] [.sl 4 fires2 false, .sl 3 inputs3 false, .bp 0 0, .bp 1 0, .rw 2, .rw 3, .v (.int .i64 i13), .rw 4, .v (.int .i64 k16)] [.var 75 [.v (.string C0), .sl 206 C1 false, .sl 82 C2 false, .sl 208 C3 false, .sl 85 C4 false, .sl 190 C5 false, .sl 146 C6 false], .var 109 [.sl 3 D0 false, .sl 3 D1 false, .sl 181 D2 false], .row 3 B2 false, .row 3 B3 false, .row 3 B4 false]
abbrev xN3 : Type := ((Unit × Unit) × ((List Int) × Unit))
def uD9 : Res E (Unit × Unit) ((List Int) × Unit) := { rows := [], flat := [], keep := 0, rl := (.cons (Rd.rw 0) .nil), rb := (.cons (.row 3 false) .nil) }
def ue4 : wH2 → Option xN3
 | .start d0_0 d0_1 d0_2 d0_3 d0_4 d0_5 d0_6 s1_0 s1_1 s1_2 fires2 inputs3 state4 =>
  (ur2 (.start d0_0 d0_1 d0_2 d0_3 d0_4 d0_5 d0_6 state4)) >>= fun t1 =>
  (ur2 (.start d0_0 d0_1 d0_2 d0_3 d0_4 d0_5 d0_6 state4)) >>= fun t2 =>
  ue4 (.p244 fires2 inputs3 (0 : Int) d0_0 d0_1 d0_2 d0_3 d0_4 d0_5 d0_6 s1_0 s1_1 s1_2 t1.2.1 t2.2.1)
 | .p244 fires2 inputs3 i13 C0 C1 C2 C3 C4 C5 C6 D0 D1 D2 B2 B3 =>
  if (decide (i13 < (List.length D1 : Int))) = true then
   (idx D1 i13) >>= fun t1 =>
   (idx fires2 t1) >>= fun t2 =>
   if (!t2) = true then
    ue4 (.p244 fires2 inputs3 (IntKind.wrap .i64 (i13 + (1 : Int))) C0 C1 C2 C3 C4 C5 C6 D0 D1 D2 B2 B3)
   else
    (ug1 (.start C0 C1 C2 C3 C4 C5 C6 t1 inputs3 B2)) >>= fun t3 =>
    ue4 (.p125244 fires2 inputs3 i13 (0 : Int) C0 C1 C2 C3 C4 C5 C6 D0 D1 D2 B2 B3 t3.2.1)
  else
   some (((), ()), (B2, ()))
 | .p125244 fires2 inputs3 i13 k16 C0 C1 C2 C3 C4 C5 C6 D0 D1 D2 B2 B3 B4 =>
  if (decide (k16 < (List.length B2 : Int))) = true then
   (idx C2 k16) >>= fun t1 =>
   if (t1.Kind == (1 : Int)) = true then
    if (decide ((0 : Int) ≤ k16) && decide (k16 < (List.length B4 : Int))) = true then
     (idx B4 k16) >>= fun t2 =>
     if (decide ((0 : Int) ≤ k16) && decide (k16 < (List.length B2 : Int))) = true then
      (idx B2 k16) >>= fun t3 =>
      ue4 (.p125244 fires2 inputs3 i13 (IntKind.wrap .i64 (k16 + (1 : Int))) C0 C1 C2 C3 C4 C5 C6 D0 D1 D2 (List.set B2 (Int.toNat k16) t2) B3 B4)
     else none
    else none
   else
    if (decide ((0 : Int) ≤ k16) && decide (k16 < (List.length B3 : Int))) = true then
     (idx B3 k16) >>= fun t4 =>
     if (decide ((0 : Int) ≤ k16) && decide (k16 < (List.length B2 : Int))) = true then
      (idx B2 k16) >>= fun t5 =>
      ue4 (.p125244 fires2 inputs3 i13 (IntKind.wrap .i64 (k16 + (1 : Int))) C0 C1 C2 C3 C4 C5 C6 D0 D1 D2 (List.set B2 (Int.toNat k16) t4) B3 B4)
     else none
    else none
  else
   ue4 (.p244 fires2 inputs3 (IntKind.wrap .i64 (i13 + (1 : Int))) C0 C1 C2 C3 C4 C5 C6 D0 D1 D2 B2 B3)
 partial_fixpoint
def wT0 : List (Plc E wH2) := [⟨244, [false, false, true, false, true, true, true], { slots := [2, 3, 5, 6, 11, 12, 13], rows := [], flat := [], keep := 0 }, _, _, (.cons (Rd.sl 4 false) (.cons (Rd.sl 3 false) (.cons (Rd.bp 0 0) (.cons (Rd.bp 1 0) (.cons (Rd.rw 2) (.cons (Rd.rw 3) (.cons (Rd.int .i64) .nil))))))), (.cons (.var 75 (.cons Rd.str (.cons (Rd.sl 206 false) (.cons (Rd.sl 82 false) (.cons (Rd.sl 208 false) (.cons (Rd.sl 85 false) (.cons (Rd.sl 190 false) (.cons (Rd.sl 146 false) .nil)))))))) (.cons (.var 109 (.cons (Rd.sl 3 false) (.cons (Rd.sl 3 false) (.cons (Rd.sl 181 false) .nil)))) (.cons (.row 3 false) (.cons (.row 3 false) .nil)))), fun a b => .p244 a.1 a.2.1 a.2.2.2.2.2.2.1 b.1.1 b.1.2.1 b.1.2.2.1 b.1.2.2.2.1 b.1.2.2.2.2.1 b.1.2.2.2.2.2.1 b.1.2.2.2.2.2.2.1 b.2.1.1 b.2.1.2.1 b.2.1.2.2.1 b.2.2.1 b.2.2.2.1⟩,
 ⟨125244, [false, false, true, true, true, true, false, false, true, false, false, true, false, true, true, true], { slots := [2, 3, 5, 6, 11, 12, 13, 15, 16], rows := [], flat := [], keep := 0 }, _, _, (.cons (Rd.sl 4 false) (.cons (Rd.sl 3 false) (.cons (Rd.bp 0 0) (.cons (Rd.bp 1 0) (.cons (Rd.rw 2) (.cons (Rd.rw 3) (.cons (Rd.int .i64) (.cons (Rd.rw 4) (.cons (Rd.int .i64) .nil))))))))), (.cons (.var 75 (.cons Rd.str (.cons (Rd.sl 206 false) (.cons (Rd.sl 82 false) (.cons (Rd.sl 208 false) (.cons (Rd.sl 85 false) (.cons (Rd.sl 190 false) (.cons (Rd.sl 146 false) .nil)))))))) (.cons (.var 109 (.cons (Rd.sl 3 false) (.cons (Rd.sl 3 false) (.cons (Rd.sl 181 false) .nil)))) (.cons (.row 3 false) (.cons (.row 3 false) (.cons (.row 3 false) .nil))))), fun a b => .p125244 a.1 a.2.1 a.2.2.2.2.2.2.1 a.2.2.2.2.2.2.2.2.1 b.1.1 b.1.2.1 b.1.2.2.1 b.1.2.2.2.1 b.1.2.2.2.2.1 b.1.2.2.2.2.2.1 b.1.2.2.2.2.2.2.1 b.2.1.1 b.2.1.2.1 b.2.1.2.2.1 b.2.2.1 b.2.2.2.1 b.2.2.2.2.1⟩]
theorem wA7 : All (ub5 73 0 u15 wO0) wT0 := ⟨⟨rfl, rfl, fun _ _ => rfl, fun _ _ => rfl⟩, ⟨⟨rfl, rfl, fun _ _ => rfl, fun _ _ => rfl⟩, trivial⟩⟩
def vm1 : Code := Tryz.f118.body.getD .skip
def wa2 : Spec E.S := (Con.add vK5 (Con.add w42 ub3))
theorem vT9 : ub0 E wa2 := (Con.add_ok vg4 (Con.add_ok ws2 ua6))
theorem xk7 : ∀ pt r, ue4 pt = some r → Good E Tryz.f118 vm1 0 (uD9.av r) (uD9.bx r) (u15 pt) (wO0 pt) := by
 refine ue4.partial_correctness (fun pt r => Good E Tryz.f118 vm1 0 (uD9.av r) (uD9.bx r) (u15 pt) (wO0 pt)) ?_
 intro run' ih pt r hr
 cases pt <;> exact ua8 (spec := wa2) (wr := (mkWr [10, 11, 19, 43, 46, 58, 64, 65, 71, 72] [])) (l := wT0) (z := 73) (p := uD9) E_ok wA7.mem rfl vT9 ih (Eq.trans (by kernel_rfl) hr)
def vN0 : Con E := ⟨118, _, _, (.cons (Rw.agg (.cons Rd.str.w (.cons (Rw.sl 206) (.cons (Rw.sl 82) (.cons (Rw.sl 208) (.cons (Rw.sl 85) (.cons (Rw.sl 190) (.cons (Rw.sl 146) .nil)))))))) (.cons (Rw.agg (.cons (Rw.sl 3) (.cons (Rw.sl 3) (.cons (Rw.sl 181) .nil)))) (.cons (Rw.sl 4) (.cons (Rw.sl 3) (.cons (Rw.sl 3) .nil))))), .nil, 0, xN3, fun a b => ue4 (.start a.1.1 a.1.2.1 a.1.2.2.1 a.1.2.2.2.1 a.1.2.2.2.2.1 a.1.2.2.2.2.2.1 a.1.2.2.2.2.2.2.1 a.2.1.1 a.2.1.2.1 a.2.1.2.2.1 a.2.2.1 a.2.2.2.1 a.2.2.2.2.1), uD9.av, uD9.bx⟩
theorem vg3 : vN0.Ok := fun a b r h => ub6 (fn := Tryz.f118) (code := vm1) E_ok (by kernel_rfl) (by kernel_rfl) (by kernel_rfl) (Nat.le_of_ble_eq_true rfl) (xk7 (.start a.1.1 a.1.2.1 a.1.2.2.1 a.1.2.2.2.1 a.1.2.2.2.2.1 a.1.2.2.2.2.2.1 a.1.2.2.2.2.2.2.1 a.2.1.1 a.2.1.2.1 a.2.1.2.2.1 a.2.2.1 a.2.2.2.1 a.2.2.2.2.1) r h)
inductive xn3 where
 | start (d0_0 : ByteArray) (d0_1 : (List ub2)) (d0_2 : (List ua1)) (d0_3 : (List ua2)) (d0_4 : (List ua5)) (d0_5 : (List ua9)) (d0_6 : (List ua7)) (rule1 : Int) (inputs2 : (List Int)) (state3 : (List Int))
def vs8 : xn3 → List Bool
 | .start .. => []
def xy3 : xn3 → St E.S
 | .start d0_0 d0_1 d0_2 d0_3 d0_4 d0_5 d0_6 rule1 inputs2 state3 => st0 24 [.agg [.v (.string d0_0), .sl 206 d0_1 false, .sl 82 d0_2 false, .sl 208 d0_3 false, .sl 85 d0_4 false, .sl 190 d0_5 false, .sl 146 d0_6 false], .v (.int .i64 rule1), .sl 3 inputs2 false, .sl 3 state3 false] []
abbrev xW7 : Type := ((Bool × Unit) × Unit)
def vb6 : Res E (Bool × Unit) Unit := { rows := [], flat := [], keep := 0, done := [0], rl := (.cons Rd.bool .nil), rb := .nil }
def um4 : xn3 → Option xW7
 | .start d0_0 d0_1 d0_2 d0_3 d0_4 d0_5 d0_6 rule1 inputs2 state3 =>
  (uo9 (.start inputs2 state3)) >>= fun t1 =>
  (ue6 (.start d0_3 t1.2.1)) >>= fun t2 =>
  (idx d0_4 rule1) >>= fun t3 =>
  if (decide ((0 : Int) ≤ t3.Guard) && decide (t3.Guard < (List.length t2.2.1 : Int))) = true then
   (idx t2.2.1 t3.Guard) >>= fun t4 =>
   some ((t4 == (1 : Int), ()), ())
  else none
def w95 : List (Plc E xn3) := []
theorem wF3 : All (ub5 24 0 vs8 xy3) w95 := trivial
def v42 : Code := Tryz.f45.body.getD .skip
def wc1 : Spec E.S := (Con.add vj9 (Con.add vm4 ub3))
theorem vM3 : ub0 E wc1 := (Con.add_ok uO0 (Con.add_ok uP3 ua6))
theorem xf3 : ∀ pt r, um4 pt = some r → Good E Tryz.f45 v42 0 (vb6.av r) (vb6.bx r) (vs8 pt) (xy3 pt) := by
 intro pt r hr
 cases pt <;> exact ua8 (spec := wc1) (wr := (mkWr [] [])) (l := w95) (z := 24) (p := vb6) (run' := fun _ => none) E_ok wF3.mem rfl vM3 (fun _ _ h => by cases h) (Eq.trans (by kernel_rfl) hr)
def w44 : Con E := ⟨45, _, _, (.cons (Rw.agg (.cons Rd.str.w (.cons (Rw.sl 206) (.cons (Rw.sl 82) (.cons (Rw.sl 208) (.cons (Rw.sl 85) (.cons (Rw.sl 190) (.cons (Rw.sl 146) .nil)))))))) (.cons (Rd.int .i64).w (.cons (Rw.sl 3) (.cons (Rw.sl 3) .nil)))), .nil, 0, xW7, fun a b => um4 (.start a.1.1 a.1.2.1 a.1.2.2.1 a.1.2.2.2.1 a.1.2.2.2.2.1 a.1.2.2.2.2.2.1 a.1.2.2.2.2.2.2.1 a.2.1 a.2.2.1 a.2.2.2.1), vb6.av, vb6.bx⟩
theorem wy7 : w44.Ok := fun a b r h => ub6 (fn := Tryz.f45) (code := v42) E_ok (by kernel_rfl) (by kernel_rfl) (by kernel_rfl) (Nat.le_of_ble_eq_true rfl) (xf3 (.start a.1.1 a.1.2.1 a.1.2.2.1 a.1.2.2.2.1 a.1.2.2.2.2.1 a.1.2.2.2.2.2.1 a.1.2.2.2.2.2.2.1 a.2.1 a.2.2.1 a.2.2.2.1) r h)
inductive xq9 where
 | start (d0_0 : ByteArray) (d0_1 : (List ub2)) (d0_2 : (List ua1)) (d0_3 : (List ua2)) (d0_4 : (List ua5)) (d0_5 : (List ua9)) (d0_6 : (List ua7)) (s1_0 : (List Int)) (s1_1 : (List Int)) (s1_2 : (List ub1)) (inputs2 : (List Int)) (state3 : (List Int))
 | p116 (inputs2 : (List Int)) (state3 : (List Int)) (i10 : Int) (C0 : ByteArray) (C1 : (List ub2)) (C2 : (List ua1)) (C3 : (List ua2)) (C4 : (List ua5)) (C5 : (List ua9)) (C6 : (List ua7)) (D0 : (List Int)) (D1 : (List Int)) (D2 : (List ub1)) (B2 : (List Bool))
 | p59700 (inputs2 : (List Int)) (state3 : (List Int)) (i10 : Int) (r11 : Int) (free12 : Bool) (k13 : Int) (C0 : ByteArray) (C1 : (List ub2)) (C2 : (List ua1)) (C3 : (List ua2)) (C4 : (List ua5)) (C5 : (List ua9)) (C6 : (List ua7)) (D0 : (List Int)) (D1 : (List Int)) (D2 : (List ub1)) (B2 : (List Bool))
def u43 : xq9 → List Bool
 | .start .. => []
 | .p116 .. => [false, false, true, false, true, true]
 | .p59700 .. => [false, false, true, false, true, true, false, false, true, false, false, true, false, true, true]
def wY2 : xq9 → St E.S
 | .start d0_0 d0_1 d0_2 d0_3 d0_4 d0_5 d0_6 s1_0 s1_1 s1_2 inputs2 state3 => st0 74 [.agg [.v (.string d0_0), .sl 206 d0_1 false, .sl 82 d0_2 false, .sl 208 d0_3 false, .sl 85 d0_4 false, .sl 190 d0_5 false, .sl 146 d0_6 false], .agg [.sl 3 s1_0 false, .sl 3 s1_1 false, .sl 181 s1_2 false], .sl 3 inputs2 false, .sl 3 state3 false] []
 | .p116 inputs2 state3 i10 C0 C1 C2 C3 C4 C5 C6 D0 D1 D2 B2 => mkSt 74 [2, 3, 4, 5, 9, 10] [.sl 3 inputs2 false, .sl 3 state3 false, .bp 0 0, .bp 1 0, .rw 2, .v (.int .i64 i10)] [.var 75 [.v (.string C0), .sl 206 C1 false, .sl 82 C2 false, .sl 208 C3 false, .sl 85 C4 false, .sl 190 C5 false, .sl 146 C6 false], .var 109 [.sl 3 D0 false, .sl 3 D1 false, .sl 181 D2 false], .row 4 B2 false]
 | .p59700 inputs2 state3 i10 r11 free12 k13 C0 C1 C2 C3 C4 C5 C6 D0 D1 D2 B2 => mkSt 74 [2, 3, 4, 5, 9, 10, 11, 12, 13] [.sl 3 inputs2 false, .sl 3 state3 false, .bp 0 0, .bp 1 0, .rw 2, .v (.int .i64 i10), .v (.int .i64 r11), .v (.bool free12), .v (.int .i64 k13)] [.var 75 [.v (.string C0), .sl 206 C1 false, .sl 82 C2 false, .sl 208 C3 false, .sl 85 C4 false, .sl 190 C5 false, .sl 146 C6 false], .var 109 [.sl 3 D0 false, .sl 3 D1 false, .sl 181 D2 false], .row 4 B2 false]
abbrev x12 : Type := ((Unit × Unit) × ((List Bool) × Unit))
def uJ4 : Res E (Unit × Unit) ((List Bool) × Unit) := { rows := [], flat := [], keep := 0, done := [0], rl := (.cons (Rd.rw 0) .nil), rb := (.cons (.row 4 true) .nil) }
def uf0 : xq9 → Option x12
 | .start d0_0 d0_1 d0_2 d0_3 d0_4 d0_5 d0_6 s1_0 s1_1 s1_2 inputs2 state3 =>
  if (uz7 (List.length d0_4 : Int) (List.length d0_4 : Int) 1) = true then
   uf0 (.p116 inputs2 state3 (0 : Int) d0_0 d0_1 d0_2 d0_3 d0_4 d0_5 d0_6 s1_0 s1_1 s1_2 (List.replicate (Int.toNat (List.length d0_4 : Int)) false))
  else none
 | .p116 inputs2 state3 i10 C0 C1 C2 C3 C4 C5 C6 D0 D1 D2 B2 =>
  if (decide (i10 < (List.length D0 : Int))) = true then
   (idx D0 i10) >>= fun t1 =>
   uf0 (.p59700 inputs2 state3 i10 t1 true (0 : Int) C0 C1 C2 C3 C4 C5 C6 D0 D1 D2 B2)
  else
   some (((), ()), (B2, ()))
 | .p59700 inputs2 state3 i10 r11 free12 k13 C0 C1 C2 C3 C4 C5 C6 D0 D1 D2 B2 =>
  if (decide (k13 < i10)) = true then
   if free12 = true then
    (idx D0 k13) >>= fun t1 =>
    if (decide ((0 : Int) ≤ t1) && decide (t1 < (List.length B2 : Int))) = true then
     (idx B2 t1) >>= fun t2 =>
     if t2 = true then
      (idx D0 k13) >>= fun t3 =>
      (uv8 (.start D0 D1 D2 t3 r11)) >>= fun t4 =>
      uf0 (.p59700 inputs2 state3 i10 r11 (!t4.1.1) (IntKind.wrap .i64 (k13 + (1 : Int))) C0 C1 C2 C3 C4 C5 C6 D0 D1 D2 B2)
     else
      uf0 (.p59700 inputs2 state3 i10 r11 (!false) (IntKind.wrap .i64 (k13 + (1 : Int))) C0 C1 C2 C3 C4 C5 C6 D0 D1 D2 B2)
    else none
   else
    uf0 (.p59700 inputs2 state3 i10 r11 false (IntKind.wrap .i64 (k13 + (1 : Int))) C0 C1 C2 C3 C4 C5 C6 D0 D1 D2 B2)
  else
   if free12 = true then
    (ue4 (.start C0 C1 C2 C3 C4 C5 C6 D0 D1 D2 B2 inputs2 state3)) >>= fun t5 =>
    (um4 (.start C0 C1 C2 C3 C4 C5 C6 r11 inputs2 t5.2.1)) >>= fun t6 =>
    if (decide ((0 : Int) ≤ r11) && decide (r11 < (List.length B2 : Int))) = true then
     (idx B2 r11) >>= fun t7 =>
     uf0 (.p116 inputs2 state3 (IntKind.wrap .i64 (i10 + (1 : Int))) C0 C1 C2 C3 C4 C5 C6 D0 D1 D2 (List.set B2 (Int.toNat r11) t6.1.1))
    else none
   else
    if (decide ((0 : Int) ≤ r11) && decide (r11 < (List.length B2 : Int))) = true then
     (idx B2 r11) >>= fun t8 =>
     uf0 (.p116 inputs2 state3 (IntKind.wrap .i64 (i10 + (1 : Int))) C0 C1 C2 C3 C4 C5 C6 D0 D1 D2 (List.set B2 (Int.toNat r11) false))
    else none
 partial_fixpoint
def wU4 : List (Plc E xq9) := [⟨116, [false, false, true, false, true, true], { slots := [2, 3, 4, 5, 9, 10], rows := [], flat := [], keep := 0 }, _, _, (.cons (Rd.sl 3 false) (.cons (Rd.sl 3 false) (.cons (Rd.bp 0 0) (.cons (Rd.bp 1 0) (.cons (Rd.rw 2) (.cons (Rd.int .i64) .nil)))))), (.cons (.var 75 (.cons Rd.str (.cons (Rd.sl 206 false) (.cons (Rd.sl 82 false) (.cons (Rd.sl 208 false) (.cons (Rd.sl 85 false) (.cons (Rd.sl 190 false) (.cons (Rd.sl 146 false) .nil)))))))) (.cons (.var 109 (.cons (Rd.sl 3 false) (.cons (Rd.sl 3 false) (.cons (Rd.sl 181 false) .nil)))) (.cons (.row 4 false) .nil))), fun a b => .p116 a.1 a.2.1 a.2.2.2.2.2.1 b.1.1 b.1.2.1 b.1.2.2.1 b.1.2.2.2.1 b.1.2.2.2.2.1 b.1.2.2.2.2.2.1 b.1.2.2.2.2.2.2.1 b.2.1.1 b.2.1.2.1 b.2.1.2.2.1 b.2.2.1⟩,
 ⟨59700, [false, false, true, false, true, true, false, false, true, false, false, true, false, true, true], { slots := [2, 3, 4, 5, 9, 10, 11, 12, 13], rows := [], flat := [], keep := 0 }, _, _, (.cons (Rd.sl 3 false) (.cons (Rd.sl 3 false) (.cons (Rd.bp 0 0) (.cons (Rd.bp 1 0) (.cons (Rd.rw 2) (.cons (Rd.int .i64) (.cons (Rd.int .i64) (.cons Rd.bool (.cons (Rd.int .i64) .nil))))))))), (.cons (.var 75 (.cons Rd.str (.cons (Rd.sl 206 false) (.cons (Rd.sl 82 false) (.cons (Rd.sl 208 false) (.cons (Rd.sl 85 false) (.cons (Rd.sl 190 false) (.cons (Rd.sl 146 false) .nil)))))))) (.cons (.var 109 (.cons (Rd.sl 3 false) (.cons (Rd.sl 3 false) (.cons (Rd.sl 181 false) .nil)))) (.cons (.row 4 false) .nil))), fun a b => .p59700 a.1 a.2.1 a.2.2.2.2.2.1 a.2.2.2.2.2.2.1 a.2.2.2.2.2.2.2.1 a.2.2.2.2.2.2.2.2.1 b.1.1 b.1.2.1 b.1.2.2.1 b.1.2.2.2.1 b.1.2.2.2.2.1 b.1.2.2.2.2.2.1 b.1.2.2.2.2.2.2.1 b.2.1.1 b.2.1.2.1 b.2.1.2.2.1 b.2.2.1⟩]
theorem wu8 : All (ub5 74 0 u43 wY2) wU4 := ⟨⟨rfl, rfl, fun _ _ => rfl, fun _ _ => rfl⟩, ⟨⟨rfl, rfl, fun _ _ => rfl, fun _ _ => rfl⟩, trivial⟩⟩
def vh5 : Code := Tryz.f116.body.getD .skip
def v78 : Spec E.S := (Con.add w44 (Con.add vN0 (Con.add xa0 ub3)))
theorem vN4 : ub0 E v78 := (Con.add_ok wy7 (Con.add_ok vg3 (Con.add_ok wH5 ua6)))
theorem xl7 : ∀ pt r, uf0 pt = some r → Good E Tryz.f116 vh5 0 (uJ4.av r) (uJ4.bx r) (u43 pt) (wY2 pt) := by
 refine uf0.partial_correctness (fun pt r => Good E Tryz.f116 vh5 0 (uJ4.av r) (uJ4.bx r) (u43 pt) (wY2 pt)) ?_
 intro run' ih pt r hr
 cases pt <;> exact ua8 (spec := v78) (wr := (mkWr [8, 9, 17, 37, 43, 57, 66, 72, 73] [])) (l := wU4) (z := 74) (p := uJ4) E_ok wu8.mem rfl vN4 ih (Eq.trans (by kernel_rfl) hr)
def w22 : Con E := ⟨116, _, _, (.cons (Rw.agg (.cons Rd.str.w (.cons (Rw.sl 206) (.cons (Rw.sl 82) (.cons (Rw.sl 208) (.cons (Rw.sl 85) (.cons (Rw.sl 190) (.cons (Rw.sl 146) .nil)))))))) (.cons (Rw.agg (.cons (Rw.sl 3) (.cons (Rw.sl 3) (.cons (Rw.sl 181) .nil)))) (.cons (Rw.sl 3) (.cons (Rw.sl 3) .nil)))), .nil, 0, x12, fun a b => uf0 (.start a.1.1 a.1.2.1 a.1.2.2.1 a.1.2.2.2.1 a.1.2.2.2.2.1 a.1.2.2.2.2.2.1 a.1.2.2.2.2.2.2.1 a.2.1.1 a.2.1.2.1 a.2.1.2.2.1 a.2.2.1 a.2.2.2.1), uJ4.av, uJ4.bx⟩
theorem wk0 : w22.Ok := fun a b r h => ub6 (fn := Tryz.f116) (code := vh5) E_ok (by kernel_rfl) (by kernel_rfl) (by kernel_rfl) (Nat.le_of_ble_eq_true rfl) (xl7 (.start a.1.1 a.1.2.1 a.1.2.2.1 a.1.2.2.2.1 a.1.2.2.2.2.1 a.1.2.2.2.2.2.1 a.1.2.2.2.2.2.2.1 a.2.1.1 a.2.1.2.1 a.2.1.2.2.1 a.2.2.1 a.2.2.2.1) r h)
inductive wl2 where
 | start (d0_0 : ByteArray) (d0_1 : (List ub2)) (d0_2 : (List ua1)) (d0_3 : (List ua2)) (d0_4 : (List ua5)) (d0_5 : (List ua9)) (d0_6 : (List ua7)) (state1 : (List Int))
 | p116 (i6 : Int) (C0 : ByteArray) (C1 : (List ub2)) (C2 : (List ua1)) (C3 : (List ua2)) (C4 : (List ua5)) (C5 : (List ua9)) (C6 : (List ua7)) (B1 : (List Int))
def uW6 : wl2 → List Bool
 | .start .. => []
 | .p116 .. => [false, false, true, false, true, true]
def wN6 : wl2 → St E.S
 | .start d0_0 d0_1 d0_2 d0_3 d0_4 d0_5 d0_6 state1 => st0 33 [.agg [.v (.string d0_0), .sl 206 d0_1 false, .sl 82 d0_2 false, .sl 208 d0_3 false, .sl 85 d0_4 false, .sl 190 d0_5 false, .sl 146 d0_6 false], .sl 3 state1 false] []
 | .p116 i6 C0 C1 C2 C3 C4 C5 C6 B1 => mkSt 33 [2, 5, 6] [.bp 0 0, .rw 1, .v (.int .i64 i6)] [.var 75 [.v (.string C0), .sl 206 C1 false, .sl 82 C2 false, .sl 208 C3 false, .sl 85 C4 false, .sl 190 C5 false, .sl 146 C6 false], .row 3 B1 false]
abbrev xL8 : Type := ((Unit × Unit) × ((List Int) × Unit))
def uJ2 : Res E (Unit × Unit) ((List Int) × Unit) := { rows := [], flat := [], keep := 0, done := [0], rl := (.cons (Rd.rw 0) .nil), rb := (.cons (.row 3 true) .nil) }
def us6 : wl2 → Option xL8
 | .start d0_0 d0_1 d0_2 d0_3 d0_4 d0_5 d0_6 state1 =>
  (uh0 (.start state1)) >>= fun t1 =>
  us6 (.p116 (0 : Int) d0_0 d0_1 d0_2 d0_3 d0_4 d0_5 d0_6 t1.2.1)
 | .p116 i6 C0 C1 C2 C3 C4 C5 C6 B1 =>
  if (decide (i6 < (List.length C2 : Int))) = true then
   (idx C2 i6) >>= fun t1 =>
   if (t1.Kind == (1 : Int)) = true then
    (idx C2 i6) >>= fun t2 =>
    if (decide ((0 : Int) ≤ i6) && decide (i6 < (List.length B1 : Int))) = true then
     (idx B1 i6) >>= fun t3 =>
     us6 (.p116 (IntKind.wrap .i64 (i6 + (1 : Int))) C0 C1 C2 C3 C4 C5 C6 (List.set B1 (Int.toNat i6) t2.Init))
    else none
   else
    us6 (.p116 (IntKind.wrap .i64 (i6 + (1 : Int))) C0 C1 C2 C3 C4 C5 C6 B1)
  else
   some (((), ()), (B1, ()))
 partial_fixpoint
def w04 : List (Plc E wl2) := [⟨116, [false, false, true, false, true, true], { slots := [2, 5, 6], rows := [], flat := [], keep := 0 }, _, _, (.cons (Rd.bp 0 0) (.cons (Rd.rw 1) (.cons (Rd.int .i64) .nil))), (.cons (.var 75 (.cons Rd.str (.cons (Rd.sl 206 false) (.cons (Rd.sl 82 false) (.cons (Rd.sl 208 false) (.cons (Rd.sl 85 false) (.cons (Rd.sl 190 false) (.cons (Rd.sl 146 false) .nil)))))))) (.cons (.row 3 false) .nil)), fun a b => .p116 a.2.2.1 b.1.1 b.1.2.1 b.1.2.2.1 b.1.2.2.2.1 b.1.2.2.2.2.1 b.1.2.2.2.2.2.1 b.1.2.2.2.2.2.2.1 b.2.1⟩]
theorem wz0 : All (ub5 33 0 uW6 wN6) w04 := ⟨⟨rfl, rfl, fun _ _ => rfl, fun _ _ => rfl⟩, trivial⟩
def vp2 : Code := Tryz.f117.body.getD .skip
def v50 : Spec E.S := (Con.add uR4 ub3)
theorem vW5 : ub0 E v50 := (Con.add_ok uu3 ua6)
theorem xl8 : ∀ pt r, us6 pt = some r → Good E Tryz.f117 vp2 0 (uJ2.av r) (uJ2.bx r) (uW6 pt) (wN6 pt) := by
 refine us6.partial_correctness (fun pt r => Good E Tryz.f117 vp2 0 (uJ2.av r) (uJ2.bx r) (uW6 pt) (wN6 pt)) ?_
 intro run' ih pt r hr
 cases pt <;> exact ua8 (spec := v50) (wr := (mkWr [4, 5, 8, 23, 31, 32] [])) (l := w04) (z := 33) (p := uJ2) E_ok wz0.mem rfl vW5 ih (Eq.trans (by kernel_rfl) hr)
def wW9 : Con E := ⟨117, _, _, (.cons (Rw.agg (.cons Rd.str.w (.cons (Rw.sl 206) (.cons (Rw.sl 82) (.cons (Rw.sl 208) (.cons (Rw.sl 85) (.cons (Rw.sl 190) (.cons (Rw.sl 146) .nil)))))))) (.cons (Rw.sl 3) .nil)), .nil, 0, xL8, fun a b => us6 (.start a.1.1 a.1.2.1 a.1.2.2.1 a.1.2.2.2.1 a.1.2.2.2.2.1 a.1.2.2.2.2.2.1 a.1.2.2.2.2.2.2.1 a.2.1), uJ2.av, uJ2.bx⟩
theorem wk9 : wW9.Ok := fun a b r h => ub6 (fn := Tryz.f117) (code := vp2) E_ok (by kernel_rfl) (by kernel_rfl) (by kernel_rfl) (Nat.le_of_ble_eq_true rfl) (xl8 (.start a.1.1 a.1.2.1 a.1.2.2.1 a.1.2.2.2.1 a.1.2.2.2.2.1 a.1.2.2.2.2.2.1 a.1.2.2.2.2.2.2.1 a.2.1) r h)
inductive xt1 where
 | start (d0_0 : ByteArray) (d0_1 : (List ub2)) (d0_2 : (List ua1)) (d0_3 : (List ua2)) (d0_4 : (List ua5)) (d0_5 : (List ua9)) (d0_6 : (List ua7)) (s1_0 : (List Int)) (s1_1 : (List Int)) (s1_2 : (List ub1)) (inputs2 : (List Int)) (state3 : (List Int))
 | p500 (inputs2 : (List Int)) (state3 : (List Int)) (i14 : Int) (C0 : ByteArray) (C1 : (List ub2)) (C2 : (List ua1)) (C3 : (List ua2)) (C4 : (List ua5)) (C5 : (List ua9)) (C6 : (List ua7)) (D0 : (List Int)) (D1 : (List Int)) (D2 : (List ub1)) (B2 : (List Bool)) (B3 : (List Int)) (B4 : (List Int))
 | p4084 (i17 : Int) (C0 : ByteArray) (C1 : (List ub2)) (C2 : (List ua1)) (C3 : (List ua2)) (C4 : (List ua5)) (C5 : (List ua9)) (C6 : (List ua7)) (B1 : (List Int)) (B2 : (List Int)) (B3 : (List Int)) (B4 : (List Int))
def uW7 : xt1 → List Bool
 | .start .. => []
 | .p500 .. => [false, false, true, false, true, true, true, true]
 | .p4084 .. => [false, false, true, false, true, true, true, true, true, true, true]
def xc4 : xt1 → St E.S
 | .start d0_0 d0_1 d0_2 d0_3 d0_4 d0_5 d0_6 s1_0 s1_1 s1_2 inputs2 state3 => st0 91 [.agg [.v (.string d0_0), .sl 206 d0_1 false, .sl 82 d0_2 false, .sl 208 d0_3 false, .sl 85 d0_4 false, .sl 190 d0_5 false, .sl 146 d0_6 false], .agg [.sl 3 s1_0 false, .sl 3 s1_1 false, .sl 181 s1_2 false], .sl 3 inputs2 false, .sl 3 state3 false] []
 | .p500 inputs2 state3 i14 C0 C1 C2 C3 C4 C5 C6 D0 D1 D2 B2 B3 B4 => mkSt 91 [2, 3, 4, 5, 11, 12, 13, 14] [.sl 3 inputs2 false, .sl 3 state3 false, .bp 0 0, .bp 1 0, .rw 2, .rw 3, .rw 4, .v (.int .i64 i14)] [.var 75 [.v (.string C0), .sl 206 C1 false, .sl 82 C2 false, .sl 208 C3 false, .sl 85 C4 false, .sl 190 C5 false, .sl 146 C6 false], .var 109 [.sl 3 D0 false, .sl 3 D1 false, .sl 181 D2 false], .row 4 B2 true, .row 3 B3 false, .row 3 B4 true]
 | .p4084 i17 C0 C1 C2 C3 C4 C5 C6 B1 B2 B3 B4 => mkSt 91 [4, 12, 13, 15, 16, 17] [.bp 0 0, .rw 1, .rw 2, .rw 3, .rw 4, .v (.int .i64 i17)] [.var 75 [.v (.string C0), .sl 206 C1 false, .sl 82 C2 false, .sl 208 C3 false, .sl 85 C4 false, .sl 190 C5 false, .sl 146 C6 false], .row 3 B1 false, .row 3 B2 true, .row 3 B3 false, .row 3 B4 false]
abbrev xX4 : Type := ((Unit × (Unit × (Unit × Unit))) × ((List Int) × ((List Int) × ((List Int) × Unit))))
def uI6 : Res E (Unit × (Unit × (Unit × Unit))) ((List Int) × ((List Int) × ((List Int) × Unit))) := { rows := [], flat := [], keep := 0, done := [0, 1, 2], rl := (.cons (Rd.rw 0) (.cons (Rd.rw 1) (.cons (Rd.rw 2) .nil))), rb := (.cons (.row 3 true) (.cons (.row 3 true) (.cons (.row 3 true) .nil))) }
def ud3 : xt1 → Option xX4
 | .start d0_0 d0_1 d0_2 d0_3 d0_4 d0_5 d0_6 s1_0 s1_1 s1_2 inputs2 state3 =>
  (uf0 (.start d0_0 d0_1 d0_2 d0_3 d0_4 d0_5 d0_6 s1_0 s1_1 s1_2 inputs2 state3)) >>= fun t1 =>
  (us6 (.start d0_0 d0_1 d0_2 d0_3 d0_4 d0_5 d0_6 state3)) >>= fun t2 =>
  ud3 (.p500 inputs2 state3 (0 : Int) d0_0 d0_1 d0_2 d0_3 d0_4 d0_5 d0_6 s1_0 s1_1 s1_2 t1.2.1 ([] : List Int) t2.2.1)
 | .p500 inputs2 state3 i14 C0 C1 C2 C3 C4 C5 C6 D0 D1 D2 B2 B3 B4 =>
  if (decide (i14 < (List.length D1 : Int))) = true then
   (idx D1 i14) >>= fun t1 =>
   if (decide ((0 : Int) ≤ t1) && decide (t1 < (List.length B2 : Int))) = true then
    (idx B2 t1) >>= fun t2 =>
    if t2 = true then
     (idx D1 i14) >>= fun t3 =>
     if (fits (List.length B3) (List.length ([t3] : List Int)) 8) = true then
      (idx D1 i14) >>= fun t4 =>
      (ug1 (.start C0 C1 C2 C3 C4 C5 C6 t4 inputs2 B4)) >>= fun t5 =>
      ud3 (.p500 inputs2 state3 (IntKind.wrap .i64 (i14 + (1 : Int))) C0 C1 C2 C3 C4 C5 C6 D0 D1 D2 B2 (B3 ++ ([t3] : List Int)) t5.2.1)
     else none
    else
     ud3 (.p500 inputs2 state3 (IntKind.wrap .i64 (i14 + (1 : Int))) C0 C1 C2 C3 C4 C5 C6 D0 D1 D2 B2 B3 B4)
   else none
  else
   (ue4 (.start C0 C1 C2 C3 C4 C5 C6 D0 D1 D2 B2 inputs2 state3)) >>= fun t6 =>
   (uo9 (.start inputs2 t6.2.1)) >>= fun t7 =>
   (ue6 (.start C3 t7.2.1)) >>= fun t8 =>
   ud3 (.p4084 (0 : Int) C0 C1 C2 C3 C4 C5 C6 B3 B4 t8.2.1 ([] : List Int))
 | .p4084 i17 C0 C1 C2 C3 C4 C5 C6 B1 B2 B3 B4 =>
  if (decide (i17 < (List.length C5 : Int))) = true then
   (idx C5 i17) >>= fun t1 =>
   if (decide ((0 : Int) ≤ t1.Node) && decide (t1.Node < (List.length B3 : Int))) = true then
    (idx B3 t1.Node) >>= fun t2 =>
    if (fits (List.length B4) (List.length ([t2] : List Int)) 8) = true then
     ud3 (.p4084 (IntKind.wrap .i64 (i17 + (1 : Int))) C0 C1 C2 C3 C4 C5 C6 B1 B2 B3 (B4 ++ ([t2] : List Int)))
    else none
   else none
  else
   some (((), ((), ((), ()))), (B4, (B2, (B1, ()))))
 partial_fixpoint
def wJ7 : List (Plc E xt1) := [⟨500, [false, false, true, false, true, true, true, true], { slots := [2, 3, 4, 5, 11, 12, 13, 14], rows := [(12, 3)], flat := [], keep := 0, done := [13] }, _, _, (.cons (Rd.sl 3 false) (.cons (Rd.sl 3 false) (.cons (Rd.bp 0 0) (.cons (Rd.bp 1 0) (.cons (Rd.rw 2) (.cons (Rd.rw 3) (.cons (Rd.rw 4) (.cons (Rd.int .i64) .nil)))))))), (.cons (.var 75 (.cons Rd.str (.cons (Rd.sl 206 false) (.cons (Rd.sl 82 false) (.cons (Rd.sl 208 false) (.cons (Rd.sl 85 false) (.cons (Rd.sl 190 false) (.cons (Rd.sl 146 false) .nil)))))))) (.cons (.var 109 (.cons (Rd.sl 3 false) (.cons (Rd.sl 3 false) (.cons (Rd.sl 181 false) .nil)))) (.cons (.row 4 true) (.cons (.row 3 false) (.cons (.row 3 true) .nil))))), fun a b => .p500 a.1 a.2.1 a.2.2.2.2.2.2.2.1 b.1.1 b.1.2.1 b.1.2.2.1 b.1.2.2.2.1 b.1.2.2.2.2.1 b.1.2.2.2.2.2.1 b.1.2.2.2.2.2.2.1 b.2.1.1 b.2.1.2.1 b.2.1.2.2.1 b.2.2.1 b.2.2.2.1 b.2.2.2.2.1⟩,
 ⟨4084, [false, false, true, false, true, true, true, true, true, true, true], { slots := [4, 12, 13, 15, 16, 17], rows := [(16, 3)], flat := [], keep := 0 }, _, _, (.cons (Rd.bp 0 0) (.cons (Rd.rw 1) (.cons (Rd.rw 2) (.cons (Rd.rw 3) (.cons (Rd.rw 4) (.cons (Rd.int .i64) .nil)))))), (.cons (.var 75 (.cons Rd.str (.cons (Rd.sl 206 false) (.cons (Rd.sl 82 false) (.cons (Rd.sl 208 false) (.cons (Rd.sl 85 false) (.cons (Rd.sl 190 false) (.cons (Rd.sl 146 false) .nil)))))))) (.cons (.row 3 false) (.cons (.row 3 true) (.cons (.row 3 false) (.cons (.row 3 false) .nil))))), fun a b => .p4084 a.2.2.2.2.2.1 b.1.1 b.1.2.1 b.1.2.2.1 b.1.2.2.2.1 b.1.2.2.2.2.1 b.1.2.2.2.2.2.1 b.1.2.2.2.2.2.2.1 b.2.1 b.2.2.1 b.2.2.2.1 b.2.2.2.2.1⟩]
theorem wi5 : All (ub5 91 0 uW7 xc4) wJ7 := ⟨⟨rfl, rfl, fun _ _ => rfl, fun _ _ => rfl⟩, ⟨⟨rfl, rfl, fun _ _ => rfl, fun _ _ => rfl⟩, trivial⟩⟩
def vm9 : Code := Tryz.f57.body.getD .skip
def wh6 : Spec E.S := (Con.add vj9 (Con.add vm4 (Con.add vN0 (Con.add vK5 (Con.add wW9 (Con.add w22 ub3))))))
theorem vH0 : ub0 E wh6 := (Con.add_ok uO0 (Con.add_ok uP3 (Con.add_ok vg3 (Con.add_ok vg4 (Con.add_ok wk9 (Con.add_ok wk0 ua6))))))
theorem xh4 : ∀ pt r, ud3 pt = some r → Good E Tryz.f57 vm9 0 (uI6.av r) (uI6.bx r) (uW7 pt) (xc4 pt) := by
 refine ud3.partial_correctness (fun pt r => Good E Tryz.f57 vm9 0 (uI6.av r) (uI6.bx r) (uW7 pt) (xc4 pt)) ?_
 intro run' ih pt r hr
 cases pt <;> exact ua8 (spec := wh6) (wr := (mkWr [] [])) (l := wJ7) (z := 91) (p := uI6) E_ok wi5.mem rfl vH0 ih (Eq.trans (by kernel_rfl) hr)
def xb8 : Con E := ⟨57, _, _, (.cons (Rw.agg (.cons Rd.str.w (.cons (Rw.sl 206) (.cons (Rw.sl 82) (.cons (Rw.sl 208) (.cons (Rw.sl 85) (.cons (Rw.sl 190) (.cons (Rw.sl 146) .nil)))))))) (.cons (Rw.agg (.cons (Rw.sl 3) (.cons (Rw.sl 3) (.cons (Rw.sl 181) .nil)))) (.cons (Rw.sl 3) (.cons (Rw.sl 3) .nil)))), .nil, 0, xX4, fun a b => ud3 (.start a.1.1 a.1.2.1 a.1.2.2.1 a.1.2.2.2.1 a.1.2.2.2.2.1 a.1.2.2.2.2.2.1 a.1.2.2.2.2.2.2.1 a.2.1.1 a.2.1.2.1 a.2.1.2.2.1 a.2.2.1 a.2.2.2.1), uI6.av, uI6.bx⟩
theorem wr9 : xb8.Ok := fun a b r h => ub6 (fn := Tryz.f57) (code := vm9) E_ok (by kernel_rfl) (by kernel_rfl) (by kernel_rfl) (Nat.le_of_ble_eq_true rfl) (xh4 (.start a.1.1 a.1.2.1 a.1.2.2.1 a.1.2.2.2.1 a.1.2.2.2.2.1 a.1.2.2.2.2.2.1 a.1.2.2.2.2.2.2.1 a.2.1.1 a.2.1.2.1 a.2.1.2.2.1 a.2.2.1 a.2.2.2.1) r h)
inductive xq6 where
 | start
def vy8 : xq6 → List Bool
 | .start => []
def xw1 : xq6 → St E.S
 | .start => st0 2 [] []
abbrev xY7 : Type := (((List Int) × Unit) × Unit)
def uZ4 : Res E ((List Int) × Unit) Unit := { rows := [], flat := [], keep := 0, done := [0], rl := (.cons (Rd.sl 3 true) .nil), rb := .nil }
def u28 : xq6 → Option xY7
 | .start =>
  some ((([(4 : Int), (1 : Int), (1 : Int), (16 : Int), (8 : Int), (8 : Int), (8 : Int), (8 : Int), (8 : Int), (8 : Int), (8 : Int), (8 : Int), (8 : Int), (8 : Int), (8 : Int), (8 : Int)] : List Int), ()), ())
def wT3 : List (Plc E xq6) := []
theorem wB9 : All (ub5 2 0 vy8 xw1) wT3 := trivial
def v34 : Code := Tryz.f62.body.getD .skip
def vW8 : Spec E.S := ub3
theorem vV7 : ub0 E vW8 := ua6
theorem xn7 : ∀ pt r, u28 pt = some r → Good E Tryz.f62 v34 0 (uZ4.av r) (uZ4.bx r) (vy8 pt) (xw1 pt) := by
 intro pt r hr
 cases pt <;> exact ua8 (spec := vW8) (wr := (mkWr [] [])) (l := wT3) (z := 2) (p := uZ4) (run' := fun _ => none) E_ok wB9.mem rfl vV7 (fun _ _ h => by cases h) (Eq.trans (by kernel_rfl) hr)
def xa7 : Con E := ⟨62, _, _, .nil, .nil, 0, xY7, fun a b => u28 (.start), uZ4.av, uZ4.bx⟩
theorem wm9 : xa7.Ok := fun a b r h => ub6 (fn := Tryz.f62) (code := v34) E_ok (by kernel_rfl) (by kernel_rfl) (by kernel_rfl) (Nat.le_of_ble_eq_true rfl) (xn7 (.start) r h)
inductive v13 where
 | start (widths0 : (List Int)) (values1 : (List Int))
 | p116 (widths0 : (List Int)) (values1 : (List Int)) (i5 : Int)
def uR7 : v13 → List Bool
 | .start .. => []
 | .p116 .. => [false, false, true, false, true, true]
def vM7 : v13 → St E.S
 | .start widths0 values1 => st0 27 [.sl 3 widths0 false, .sl 3 values1 false] []
 | .p116 widths0 values1 i5 => mkSt 27 [0, 1, 5] [.sl 3 widths0 false, .sl 3 values1 false, .v (.int .i64 i5)] []
abbrev xx0 : Type := ((Bool × Unit) × Unit)
def uv2 : Res E (Bool × Unit) Unit := { rows := [], flat := [], keep := 0, done := [0], rl := (.cons Rd.bool .nil), rb := .nil }
def uk9 : v13 → Option xx0
 | .start widths0 values1 =>
  if ((List.length widths0 : Int) != (List.length values1 : Int)) = true then
   some ((false, ()), ())
  else
   uk9 (.p116 widths0 values1 (0 : Int))
 | .p116 widths0 values1 i5 =>
  if (decide (i5 < (List.length values1 : Int))) = true then
   (idx values1 i5) >>= fun t1 =>
   (idx widths0 i5) >>= fun t2 =>
   (uw1 (.start t1 t2)) >>= fun t3 =>
   if (!t3.1.1) = true then
    some ((false, ()), ())
   else
    uk9 (.p116 widths0 values1 (IntKind.wrap .i64 (i5 + (1 : Int))))
  else
   some ((true, ()), ())
 partial_fixpoint
def wd0 : List (Plc E v13) := [⟨116, [false, false, true, false, true, true], { slots := [0, 1, 5], rows := [], flat := [], keep := 0 }, _, _, (.cons (Rd.sl 3 false) (.cons (Rd.sl 3 false) (.cons (Rd.int .i64) .nil))), .nil, fun a b => .p116 a.1 a.2.1 a.2.2.1⟩]
theorem vV5 : All (ub5 27 0 uR7 vM7) wd0 := ⟨⟨rfl, rfl, fun _ _ => rfl, fun _ _ => rfl⟩, trivial⟩
def u27 : Code := Tryz.f82.body.getD .skip
def vv9 : Spec E.S := (Con.add vm7 ub3)
theorem vs1 : ub0 E vv9 := (Con.add_ok uP5 ua6)
theorem w77 : ∀ pt r, uk9 pt = some r → Good E Tryz.f82 u27 0 (uv2.av r) (uv2.bx r) (uR7 pt) (vM7 pt) := by
 refine uk9.partial_correctness (fun pt r => Good E Tryz.f82 u27 0 (uv2.av r) (uv2.bx r) (uR7 pt) (vM7 pt)) ?_
 intro run' ih pt r hr
 cases pt <;> exact ua8 (spec := vv9) (wr := (mkWr [] [])) (l := wd0) (z := 27) (p := uv2) E_ok vV5.mem rfl vs1 ih (Eq.trans (by kernel_rfl) hr)
def we7 : Con E := ⟨82, _, _, (.cons (Rw.sl 3) (.cons (Rw.sl 3) .nil)), .nil, 0, xx0, fun a b => uk9 (.start a.1 a.2.1), uv2.av, uv2.bx⟩
theorem vO7 : we7.Ok := fun a b r h => ub6 (fn := Tryz.f82) (code := u27) E_ok (by kernel_rfl) (by kernel_rfl) (by kernel_rfl) (Nat.le_of_ble_eq_true rfl) (w77 (.start a.1 a.2.1) r h)
inductive v91 where
 | start (state0 : (List Int))
def vf1 : v91 → List Bool
 | .start .. => []
def w75 : v91 → St E.S
 | .start state0 => st0 12 [.sl 3 state0 false] []
abbrev xB2 : Type := ((Int × Unit) × Unit)
def uN2 : Res E (Int × Unit) Unit := { rows := [], flat := [], keep := 0, done := [0], rl := (.cons (Rd.int .i64) .nil), rb := .nil }
def uK6 : v91 → Option xB2
 | .start state0 =>
  (u28 .start) >>= fun t1 =>
  if ((List.length state0 : Int) != (List.length t1.1.1 : Int)) = true then
   some (((10 : Int), ()), ())
  else
   (u28 .start) >>= fun t2 =>
   (uk9 (.start t2.1.1 state0)) >>= fun t3 =>
   if (!t3.1.1) = true then
    some (((2 : Int), ()), ())
   else
    some (((0 : Int), ()), ())
def v12 : List (Plc E v91) := []
theorem vL8 : All (ub5 12 0 vf1 w75) v12 := trivial
def vz4 : Code := Tryz.f58.body.getD .skip
def vw9 : Spec E.S := (Con.add we7 (Con.add xa7 ub3))
theorem vw1 : ub0 E vw9 := (Con.add_ok vO7 (Con.add_ok wm9 ua6))
theorem w32 : ∀ pt r, uK6 pt = some r → Good E Tryz.f58 vz4 0 (uN2.av r) (uN2.bx r) (vf1 pt) (w75 pt) := by
 intro pt r hr
 cases pt <;> exact ua8 (spec := vw9) (wr := (mkWr [] [])) (l := v12) (z := 12) (p := uN2) (run' := fun _ => none) E_ok vL8.mem rfl vw1 (fun _ _ h => by cases h) (Eq.trans (by kernel_rfl) hr)
def wd7 : Con E := ⟨58, _, _, (.cons (Rw.sl 3) .nil), .nil, 0, xB2, fun a b => uK6 (.start a.1), uN2.av, uN2.bx⟩
theorem vS6 : wd7.Ok := fun a b r h => ub6 (fn := Tryz.f58) (code := vz4) E_ok (by kernel_rfl) (by kernel_rfl) (by kernel_rfl) (Nat.le_of_ble_eq_true rfl) (w32 (.start a.1) r h)
inductive wa4 where
 | start (a0 : (List Int)) (b1 : (List Int))
 | p116 (a0 : (List Int)) (b1 : (List Int)) (i5 : Int)
def uR3 : wa4 → List Bool
 | .start .. => []
 | .p116 .. => [false, false, true, false, true, true]
def vI0 : wa4 → St E.S
 | .start a0 b1 => st0 26 [.sl 3 a0 false, .sl 3 b1 false] []
 | .p116 a0 b1 i5 => mkSt 26 [0, 1, 5] [.sl 3 a0 false, .sl 3 b1 false, .v (.int .i64 i5)] []
abbrev xC6 : Type := ((Bool × Unit) × Unit)
def ux5 : Res E (Bool × Unit) Unit := { rows := [], flat := [], keep := 0, done := [0], rl := (.cons Rd.bool .nil), rb := .nil }
def ud9 : wa4 → Option xC6
 | .start a0 b1 =>
  if ((List.length a0 : Int) != (List.length b1 : Int)) = true then
   some ((false, ()), ())
  else
   ud9 (.p116 a0 b1 (0 : Int))
 | .p116 a0 b1 i5 =>
  if (decide (i5 < (List.length a0 : Int))) = true then
   (idx a0 i5) >>= fun t1 =>
   (idx b1 i5) >>= fun t2 =>
   if (t1 != t2) = true then
    some ((false, ()), ())
   else
    ud9 (.p116 a0 b1 (IntKind.wrap .i64 (i5 + (1 : Int))))
  else
   some ((true, ()), ())
 partial_fixpoint
def vY3 : List (Plc E wa4) := [⟨116, [false, false, true, false, true, true], { slots := [0, 1, 5], rows := [], flat := [], keep := 0 }, _, _, (.cons (Rd.sl 3 false) (.cons (Rd.sl 3 false) (.cons (Rd.int .i64) .nil))), .nil, fun a b => .p116 a.1 a.2.1 a.2.2.1⟩]
theorem vH2 : All (ub5 26 0 uR3 vI0) vY3 := ⟨⟨rfl, rfl, fun _ _ => rfl, fun _ _ => rfl⟩, trivial⟩
def u75 : Code := Tryz.f46.body.getD .skip
def vx7 : Spec E.S := ub3
theorem vs7 : ub0 E vx7 := ua6
theorem wQ3 : ∀ pt r, ud9 pt = some r → Good E Tryz.f46 u75 0 (ux5.av r) (ux5.bx r) (uR3 pt) (vI0 pt) := by
 refine ud9.partial_correctness (fun pt r => Good E Tryz.f46 u75 0 (ux5.av r) (ux5.bx r) (uR3 pt) (vI0 pt)) ?_
 intro run' ih pt r hr
 cases pt <;> exact ua8 (spec := vx7) (wr := (mkWr [] [])) (l := vY3) (z := 26) (p := ux5) E_ok vH2.mem rfl vs7 ih (Eq.trans (by kernel_rfl) hr)
def vl6 : Con E := ⟨46, _, _, (.cons (Rw.sl 3) (.cons (Rw.sl 3) .nil)), .nil, 0, xC6, fun a b => ud9 (.start a.1 a.2.1), ux5.av, ux5.bx⟩
theorem u95 : vl6.Ok := fun a b r h => ub6 (fn := Tryz.f46) (code := u75) E_ok (by kernel_rfl) (by kernel_rfl) (by kernel_rfl) (Nat.le_of_ble_eq_true rfl) (wQ3 (.start a.1 a.2.1) r h)
inductive wf5 where
 | start (s0_0 : Int) (s0_1 : Int) (s0_2 : (List Int)) (s0_3 : (List Int))
def vg2 : wf5 → List Bool
 | .start .. => []
def w78 : wf5 → St E.S
 | .start s0_0 s0_1 s0_2 s0_3 => st0 14 [.agg [.v (.int .i64 s0_0), .v (.int .i64 s0_1), .sl 3 s0_2 false, .sl 3 s0_3 false]] []
abbrev xA1 : Type := (((Int × (Int × (Unit × (Unit × Unit)))) × Unit) × ((List Int) × ((List Int) × Unit)))
def uK1 : Res E ((Int × (Int × (Unit × (Unit × Unit)))) × Unit) ((List Int) × ((List Int) × Unit)) := { rows := [], flat := [], keep := 0, rl := (.cons (Rd.agg (.cons (Rd.int .i64) (.cons (Rd.int .i64) (.cons (Rd.rw 0) (.cons (Rd.rw 1) .nil))))) .nil), rb := (.cons (.row 3 false) (.cons (.row 3 false) .nil)) }
def uT6 : wf5 → Option xA1
 | .start s0_0 s0_1 s0_2 s0_3 =>
  (uh0 (.start s0_2)) >>= fun t1 =>
  (uh0 (.start s0_3)) >>= fun t2 =>
  some (((s0_0, (s0_1, ((), ((), ())))), ()), (t1.2.1, (t2.2.1, ())))
def wd5 : List (Plc E wf5) := []
theorem vR7 : All (ub5 14 0 vg2 w78) wd5 := trivial
def vx1 : Code := Tryz.f30.body.getD .skip
def vB3 : Spec E.S := (Con.add uR4 ub3)
theorem vy2 : ub0 E vB3 := (Con.add_ok uu3 ua6)
theorem wZ9 : ∀ pt r, uT6 pt = some r → Good E Tryz.f30 vx1 0 (uK1.av r) (uK1.bx r) (vg2 pt) (w78 pt) := by
 intro pt r hr
 cases pt <;> exact ua8 (spec := vB3) (wr := (mkWr [2, 4, 6, 9, 12, 13] [])) (l := wd5) (z := 14) (p := uK1) (run' := fun _ => none) E_ok vR7.mem rfl vy2 (fun _ _ h => by cases h) (Eq.trans (by kernel_rfl) hr)
def wf2 : Con E := ⟨30, _, _, (.cons (Rw.agg (.cons (Rd.int .i64).w (.cons (Rd.int .i64).w (.cons (Rw.sl 3) (.cons (Rw.sl 3) .nil))))) .nil), .nil, 0, xA1, fun a b => uT6 (.start a.1.1 a.1.2.1 a.1.2.2.1 a.1.2.2.2.1), uK1.av, uK1.bx⟩
theorem vT8 : wf2.Ok := fun a b r h => ub6 (fn := Tryz.f30) (code := vx1) E_ok (by kernel_rfl) (by kernel_rfl) (by kernel_rfl) (Nat.le_of_ble_eq_true rfl) (wZ9 (.start a.1.1 a.1.2.1 a.1.2.2.1 a.1.2.2.2.1) r h)
inductive v68 where
 | start (l0 : (List ua3)) (s1_0 : Int) (s1_1 : Int) (s1_2 : (List Int)) (s1_3 : (List Int))
 | p63 (C0 : Int) (C1 : Int) (C2 : (List Int)) (C3 : (List Int)) (D0 : Int) (D1 : Int) (G0 : Int) (G1 : Int) (H0 : Int) (H1 : Int) (H2 : Int) (H3 : Int) (B4 : (List Int)) (B5 : (List Int))
def uP8 : v68 → List Bool
 | .start .. => []
 | .p63 .. => [true, true, true, true, true]
def vV6 : v68 → St E.S
 | .start l0 s1_0 s1_1 s1_2 s1_3 => st0 139 [.sl 40 l0 false, .agg [.v (.int .i64 s1_0), .v (.int .i64 s1_1), .sl 3 s1_2 false, .sl 3 s1_3 false]] []
 | .p63 C0 C1 C2 C3 D0 D1 G0 G1 H0 H1 H2 H3 B4 B5 => mkSt 139 [3, 4, 5, 6] [.bp 0 0, .bp 1 0, .bp 2 0, .bp 3 0] [.var 27 [.v (.int .i64 C0), .v (.int .i64 C1), .sl 3 C2 false, .sl 3 C3 false], .var 27 [.v (.int .i64 D0), .v (.int .i64 D1), .nl, .nl], .var 27 [.v (.int .i64 G0), .v (.int .i64 G1), .rw 4, .rw 5], .var 40 [.v (.int .i64 H0), .v (.int .i64 H1), .v (.int .i64 H2), .v (.int .i64 H3)], .row 3 B4 false, .row 3 B5 false]
abbrev xz7 : Type := (((Int × (Int × (Unit × (Unit × Unit)))) × Unit) × ((List Int) × ((List Int) × Unit)))
def ux1 : Res E ((Int × (Int × (Unit × (Unit × Unit)))) × Unit) ((List Int) × ((List Int) × Unit)) := { rows := [], flat := [], keep := 0, done := [0], rl := (.cons (Rd.agg (.cons (Rd.int .i64) (.cons (Rd.int .i64) (.cons (Rd.rw 0) (.cons (Rd.rw 1) .nil))))) .nil), rb := (.cons (.row 3 true) (.cons (.row 3 true) .nil)) }
def ul1 : v68 → Option xz7
 | .start l0 s1_0 s1_1 s1_2 s1_3 =>
  (uT6 (.start s1_0 s1_1 s1_2 s1_3)) >>= fun t1 =>
  if (s1_1 == (1 : Int)) = true then
   some (((t1.1.1.1, (t1.1.1.2.1, ((), ((), ())))), ()), (t1.2.1, (t1.2.2.1, ())))
  else
   if (decide (s1_0 < (List.length l0 : Int))) = true then
    (idx l0 s1_0) >>= fun t2 =>
    ul1 (.p63 s1_0 s1_1 s1_2 s1_3 (0 : Int) (0 : Int) t1.1.1.1 t1.1.1.2.1 t2.Op t2.A t2.B t2.N t1.2.1 t1.2.2.1)
   else
    ul1 (.p63 s1_0 s1_1 s1_2 s1_3 (0 : Int) (0 : Int) t1.1.1.1 t1.1.1.2.1 (0 : Int) (0 : Int) (0 : Int) (0 : Int) t1.2.1 t1.2.2.1)
 | .p63 C0 C1 C2 C3 D0 D1 G0 G1 H0 H1 H2 H3 B4 B5 =>
  (idx C2 H1) >>= fun t1 =>
  (idx C2 H2) >>= fun t2 =>
  if (!((16 : Int) == (0 : Int))) = true then
   if (H0 == (0 : Int)) = true then
    some (((C0, ((1 : Int), ((), ((), ())))), ()), (B4, (B5, ())))
   else
    if (H0 == (1 : Int)) = true then
     if (decide ((0 : Int) ≤ H1) && decide (H1 < (List.length B4 : Int))) = true then
      (idx B4 H1) >>= fun t3 =>
      some (((Int.tmod (IntKind.wrap .i64 (C0 + (1 : Int))) (16 : Int), (G1, ((), ((), ())))), ()), (List.set B4 (Int.toNat H1) H3, (B5, ())))
     else none
    else
     if (H0 == (2 : Int)) = true then
      if (decide ((0 : Int) ≤ H1) && decide (H1 < (List.length B4 : Int))) = true then
       (idx B4 H1) >>= fun t4 =>
       some (((Int.tmod (IntKind.wrap .i64 (C0 + (1 : Int))) (16 : Int), (G1, ((), ((), ())))), ()), (List.set B4 (Int.toNat H1) t2, (B5, ())))
      else none
     else
      if (H0 == (3 : Int)) = true then
       if (!((256 : Int) == (0 : Int))) = true then
        if (decide ((0 : Int) ≤ H1) && decide (H1 < (List.length B4 : Int))) = true then
         (idx B4 H1) >>= fun t5 =>
         some (((Int.tmod (IntKind.wrap .i64 (C0 + (1 : Int))) (16 : Int), (G1, ((), ((), ())))), ()), (List.set B4 (Int.toNat H1) (Int.tmod (IntKind.wrap .i64 (t1 + t2)) (256 : Int)), (B5, ())))
        else none
       else none
      else
       if (H0 == (4 : Int)) = true then
        if (!((256 : Int) == (0 : Int))) = true then
         if (decide ((0 : Int) ≤ H1) && decide (H1 < (List.length B4 : Int))) = true then
          (idx B4 H1) >>= fun t6 =>
          some (((Int.tmod (IntKind.wrap .i64 (C0 + (1 : Int))) (16 : Int), (G1, ((), ((), ())))), ()), (List.set B4 (Int.toNat H1) (Int.tmod (IntKind.wrap .i64 ((IntKind.wrap .i64 (t1 - t2)) + (256 : Int))) (256 : Int)), (B5, ())))
         else none
        else none
       else
        if (H0 == (5 : Int)) = true then
         if (decide ((0 : Int) ≤ H1) && decide (H1 < (List.length B4 : Int))) = true then
          (idx B4 H1) >>= fun t7 =>
          some (((Int.tmod (IntKind.wrap .i64 (C0 + (1 : Int))) (16 : Int), (G1, ((), ((), ())))), ()), (List.set B4 (Int.toNat H1) (bits .and .i64 t1 t2), (B5, ())))
         else none
        else
         if (H0 == (6 : Int)) = true then
          if (!((8 : Int) == (0 : Int))) = true then
           (idx C3 (Int.tmod t2 (8 : Int))) >>= fun t8 =>
           if (decide ((0 : Int) ≤ H1) && decide (H1 < (List.length B4 : Int))) = true then
            (idx B4 H1) >>= fun t9 =>
            some (((Int.tmod (IntKind.wrap .i64 (C0 + (1 : Int))) (16 : Int), (G1, ((), ((), ())))), ()), (List.set B4 (Int.toNat H1) t8, (B5, ())))
           else none
          else none
         else
          if (H0 == (7 : Int)) = true then
           if (!((8 : Int) == (0 : Int))) = true then
            if (decide ((0 : Int) ≤ (Int.tmod t2 (8 : Int))) && decide ((Int.tmod t2 (8 : Int)) < (List.length B5 : Int))) = true then
             (idx B5 (Int.tmod t2 (8 : Int))) >>= fun t10 =>
             some (((Int.tmod (IntKind.wrap .i64 (C0 + (1 : Int))) (16 : Int), (G1, ((), ((), ())))), ()), (B4, (List.set B5 (Int.toNat (Int.tmod t2 (8 : Int))) t1, ())))
            else none
           else none
          else
           if (H0 == (8 : Int)) = true then
            some (((H3, (G1, ((), ((), ())))), ()), (B4, (B5, ())))
           else
            if (H0 == (9 : Int)) = true then
             if (t1 == (0 : Int)) = true then
              some (((H3, (G1, ((), ((), ())))), ()), (B4, (B5, ())))
             else
              some (((Int.tmod (IntKind.wrap .i64 (C0 + (1 : Int))) (16 : Int), (G1, ((), ((), ())))), ()), (B4, (B5, ())))
            else
             some (((Int.tmod (IntKind.wrap .i64 (C0 + (1 : Int))) (16 : Int), (G1, ((), ((), ())))), ()), (B4, (B5, ())))
  else none
 partial_fixpoint
def vZ2 : List (Plc E v68) := [⟨63, [true, true, true, true, true], { slots := [3, 4, 5, 6], rows := [], flat := [], keep := 0 }, _, _, (.cons (Rd.bp 0 0) (.cons (Rd.bp 1 0) (.cons (Rd.bp 2 0) (.cons (Rd.bp 3 0) .nil)))), (.cons (.var 27 (.cons (Rd.int .i64) (.cons (Rd.int .i64) (.cons (Rd.sl 3 false) (.cons (Rd.sl 3 false) .nil))))) (.cons (.var 27 (.cons (Rd.int .i64) (.cons (Rd.int .i64) (.cons Rd.nl (.cons Rd.nl .nil))))) (.cons (.var 27 (.cons (Rd.int .i64) (.cons (Rd.int .i64) (.cons (Rd.rw 4) (.cons (Rd.rw 5) .nil))))) (.cons (.var 40 (.cons (Rd.int .i64) (.cons (Rd.int .i64) (.cons (Rd.int .i64) (.cons (Rd.int .i64) .nil))))) (.cons (.row 3 false) (.cons (.row 3 false) .nil)))))), fun a b => .p63 b.1.1 b.1.2.1 b.1.2.2.1 b.1.2.2.2.1 b.2.1.1 b.2.1.2.1 b.2.2.1.1 b.2.2.1.2.1 b.2.2.2.1.1 b.2.2.2.1.2.1 b.2.2.2.1.2.2.1 b.2.2.2.1.2.2.2.1 b.2.2.2.2.1 b.2.2.2.2.2.1⟩]
theorem vU1 : All (ub5 139 0 uP8 vV6) vZ2 := ⟨⟨rfl, rfl, fun _ _ => rfl, fun _ _ => rfl⟩, trivial⟩
def u20 : Code := Tryz.f34.body.getD .skip
def vC4 : Spec E.S := (Con.add wf2 ub3)
theorem vu3 : ub0 E vC4 := (Con.add_ok vT8 ua6)
theorem wS1 : ∀ pt r, ul1 pt = some r → Good E Tryz.f34 u20 0 (ux1.av r) (ux1.bx r) (uP8 pt) (vV6 pt) := by
 refine ul1.partial_correctness (fun pt r => Good E Tryz.f34 u20 0 (ux1.av r) (ux1.bx r) (uP8 pt) (vV6 pt)) ?_
 intro run' ih pt r hr
 cases pt <;> exact ua8 (spec := vC4) (wr := (mkWr [4, 5, 11, 15, 43, 50, 51, 54, 55, 60, 63, 64, 68, 71, 72, 80, 83, 84, 94, 97, 98, 104, 107, 108, 117, 120, 121, 125, 130, 137, 138] [])) (l := vZ2) (z := 139) (p := ux1) E_ok vU1.mem rfl vu3 ih (Eq.trans (by kernel_rfl) hr)
def we0 : Con E := ⟨34, _, _, (.cons (Rw.sl 40) (.cons (Rw.agg (.cons (Rd.int .i64).w (.cons (Rd.int .i64).w (.cons (Rw.sl 3) (.cons (Rw.sl 3) .nil))))) .nil)), .nil, 0, xz7, fun a b => ul1 (.start a.1 a.2.1.1 a.2.1.2.1 a.2.1.2.2.1 a.2.1.2.2.2.1), ux1.av, ux1.bx⟩
theorem vJ2 : we0.Ok := fun a b r h => ub6 (fn := Tryz.f34) (code := u20) E_ok (by kernel_rfl) (by kernel_rfl) (by kernel_rfl) (Nat.le_of_ble_eq_true rfl) (wS1 (.start a.1 a.2.1.1 a.2.1.2.1 a.2.1.2.2.1 a.2.1.2.2.2.1) r h)
inductive v71 where
 | start (state0 : (List Int))
def vd7 : v71 → List Bool
 | .start .. => []
def wL1 : v71 → St E.S
 | .start state0 => st0 16 [.sl 3 state0 false] []
abbrev xz8 : Type := (((Int × (Int × (Unit × (Unit × Unit)))) × Unit) × ((List Int) × ((List Int) × Unit)))
def uM0 : Res E ((Int × (Int × (Unit × (Unit × Unit)))) × Unit) ((List Int) × ((List Int) × Unit)) := { rows := [], flat := [], keep := 0, done := [0], rl := (.cons (Rd.agg (.cons (Rd.int .i64) (.cons (Rd.int .i64) (.cons (Rd.rw 0) (.cons (Rd.rw 1) .nil))))) .nil), rb := (.cons (.row 3 true) (.cons (.row 3 true) .nil)) }
def uT4 : v71 → Option xz8
 | .start state0 =>
  (idx state0 (0 : Int)) >>= fun t1 =>
  (idx state0 (1 : Int)) >>= fun t2 =>
  (span (List.length state0) (4 : Int) (8 : Int)) >>= fun t3 =>
  (uy9 (.start (cut state0 t3))) >>= fun t4 =>
  (span (List.length state0) (8 : Int) (16 : Int)) >>= fun t5 =>
  (uy9 (.start (cut state0 t5))) >>= fun t6 =>
  some (((t1, (t2, ((), ((), ())))), ()), (t4.2.1, (t6.2.1, ())))
def v77 : List (Plc E v71) := []
theorem vW3 : All (ub5 16 0 vd7 wL1) v77 := trivial
def vw0 : Code := Tryz.f59.body.getD .skip
def vB6 : Spec E.S := (Con.add v97 ub3)
theorem vu0 : ub0 E vB6 := (Con.add_ok va8 ua6)
theorem xc3 : ∀ pt r, uT4 pt = some r → Good E Tryz.f59 vw0 0 (uM0.av r) (uM0.bx r) (vd7 pt) (wL1 pt) := by
 intro pt r hr
 cases pt <;> exact ua8 (spec := vB6) (wr := (mkWr [] [])) (l := v77) (z := 16) (p := uM0) (run' := fun _ => none) E_ok vW3.mem rfl vu0 (fun _ _ h => by cases h) (Eq.trans (by kernel_rfl) hr)
def wb0 : Con E := ⟨59, _, _, (.cons (Rw.sl 3) .nil), .nil, 0, xz8, fun a b => uT4 (.start a.1), uM0.av, uM0.bx⟩
theorem vH9 : wb0.Ok := fun a b r h => ub6 (fn := Tryz.f59) (code := vw0) E_ok (by kernel_rfl) (by kernel_rfl) (by kernel_rfl) (Nat.le_of_ble_eq_true rfl) (xc3 (.start a.1) r h)
inductive wh7 where
 | start (a0_0 : Int) (a0_1 : Int) (a0_2 : (List Int)) (a0_3 : (List Int)) (b1_0 : Int) (b1_1 : Int) (b1_2 : (List Int)) (b1_3 : (List Int))
def ve9 : wh7 → List Bool
 | .start .. => []
def wN4 : wh7 → St E.S
 | .start a0_0 a0_1 a0_2 a0_3 b1_0 b1_1 b1_2 b1_3 => st0 31 [.agg [.v (.int .i64 a0_0), .v (.int .i64 a0_1), .sl 3 a0_2 false, .sl 3 a0_3 false], .agg [.v (.int .i64 b1_0), .v (.int .i64 b1_1), .sl 3 b1_2 false, .sl 3 b1_3 false]] []
abbrev xB1 : Type := ((Bool × Unit) × Unit)
def uL0 : Res E (Bool × Unit) Unit := { rows := [], flat := [], keep := 0, done := [0], rl := (.cons Rd.bool .nil), rb := .nil }
def uv5 : wh7 → Option xB1
 | .start a0_0 a0_1 a0_2 a0_3 b1_0 b1_1 b1_2 b1_3 =>
  if (a0_0 == b1_0) = true then
   if (a0_1 == b1_1) = true then
    (ud9 (.start a0_2 b1_2)) >>= fun t1 =>
    if t1.1.1 = true then
     (ud9 (.start a0_3 b1_3)) >>= fun t2 =>
     some ((t2.1.1, ()), ())
    else
     some ((false, ()), ())
   else
    some ((false, ()), ())
  else
   some ((false, ()), ())
def wd2 : List (Plc E wh7) := []
theorem vS9 : All (ub5 31 0 ve9 wN4) wd2 := trivial
def vt3 : Code := Tryz.f18.body.getD .skip
def vu6 : Spec E.S := (Con.add vl6 ub3)
theorem vA4 : ub0 E vu6 := (Con.add_ok u95 ua6)
theorem xd9 : ∀ pt r, uv5 pt = some r → Good E Tryz.f18 vt3 0 (uL0.av r) (uL0.bx r) (ve9 pt) (wN4 pt) := by
 intro pt r hr
 cases pt <;> exact ua8 (spec := vu6) (wr := (mkWr [] [])) (l := wd2) (z := 31) (p := uL0) (run' := fun _ => none) E_ok vS9.mem rfl vA4 (fun _ _ h => by cases h) (Eq.trans (by kernel_rfl) hr)
def v48 : Con E := ⟨18, _, _, (.cons (Rw.agg (.cons (Rd.int .i64).w (.cons (Rd.int .i64).w (.cons (Rw.sl 3) (.cons (Rw.sl 3) .nil))))) (.cons (Rw.agg (.cons (Rd.int .i64).w (.cons (Rd.int .i64).w (.cons (Rw.sl 3) (.cons (Rw.sl 3) .nil))))) .nil)), .nil, 0, xB1, fun a b => uv5 (.start a.1.1 a.1.2.1 a.1.2.2.1 a.1.2.2.2.1 a.2.1.1 a.2.1.2.1 a.2.1.2.2.1 a.2.1.2.2.2.1), uL0.av, uL0.bx⟩
theorem vE8 : v48.Ok := fun a b r h => ub6 (fn := Tryz.f18) (code := vt3) E_ok (by kernel_rfl) (by kernel_rfl) (by kernel_rfl) (Nat.le_of_ble_eq_true rfl) (xd9 (.start a.1.1 a.1.2.1 a.1.2.2.1 a.1.2.2.2.1 a.2.1.1 a.2.1.2.1 a.2.1.2.2.1 a.2.1.2.2.2.1) r h)
inductive v07 where
 | start (l0 : (List ua3)) (memory1 : (List Int)) (clocks2 : Int)
 | p15 (l0 : (List ua3)) (memory1 : (List Int)) (clocks2 : Int)
 | p63 (l0 : (List ua3)) (memory1 : (List Int)) (clocks2 : Int) (C0 : ByteArray) (C1 : (List ua1)) (C2 : (List ua2)) (C3 : (List ua5))
 | p16372 (l0 : (List ua3)) (clocks2 : Int) (i13 : Int) (C0 : ByteArray) (C1 : (List ua1)) (C2 : (List ua2)) (C3 : (List ua5)) (D0 : (List Int)) (D1 : (List Int)) (D2 : (List ub1)) (B2 : (List Int)) (H0 : Int) (H1 : Int) (B4 : (List Int)) (B5 : (List Int))
 | p4191389 (l0 : (List ua3)) (clocks2 : Int) (i13 : Int) (turn17 : (List Int)) (s107 : Bool) (C0 : ByteArray) (C1 : (List ua1)) (C2 : (List ua2)) (C3 : (List ua5)) (D0 : (List Int)) (D1 : (List Int)) (D2 : (List ub1)) (B2 : (List Int)) (H0 : Int) (H1 : Int) (B4 : (List Int)) (B5 : (List Int)) (B6 : (List Int)) (B7 : (List Int))
 | p4191391 (l0 : (List ua3)) (clocks2 : Int) (i13 : Int) (turn17 : (List Int)) (C0 : ByteArray) (C1 : (List ua1)) (C2 : (List ua2)) (C3 : (List ua5)) (D0 : (List Int)) (D1 : (List Int)) (D2 : (List ub1)) (G0 : Int) (G1 : Int) (B3 : (List Int)) (B4 : (List Int)) (B5 : (List Int)) (B6 : (List Int))
def uQ9 : v07 → List Bool
 | .start .. => []
 | .p15 .. => [true, true, true]
 | .p63 .. => [true, true, true, true, true]
 | .p16372 .. => [false, false, true, false, true, true, true, true, true, true, true, true, true]
 | .p4191389 .. => [true, false, true, true, true, false, false, true, false, false, true, false, true, true, true, true, true, true, true, true, true]
 | .p4191391 .. => [true, true, true, true, true, false, false, true, false, false, true, false, true, true, true, true, true, true, true, true, true]
def vQ0 : v07 → St E.S
 | .start l0 memory1 clocks2 => st0 143 [.sl 40 l0 false, .sl 3 memory1 false, .v (.int .i64 clocks2)] []
 | .p15 l0 memory1 clocks2 => mkSt 143 [0, 1, 2] [.sl 40 l0 false, .sl 3 memory1 false, .v (.int .i64 clocks2)] []
 | .p63 l0 memory1 clocks2 C0 C1 C2 C3 => mkSt 143 [0, 1, 2, 7] [.sl 40 l0 false, .sl 3 memory1 false, .v (.int .i64 clocks2), .bp 0 0] [.var 75 [.v (.string C0), .nl, .sl 82 C1 false, .sl 208 C2 false, .sl 85 C3 false, .nl, .nl]]
 | .p16372 l0 clocks2 i13 C0 C1 C2 C3 D0 D1 D2 B2 H0 H1 B4 B5 => mkSt 143 [0, 2, 7, 9, 11, 12, 13] [.sl 40 l0 false, .v (.int .i64 clocks2), .bp 0 0, .bp 1 0, .rw 2, .bp 3 0, .v (.int .i64 i13)] [.var 75 [.v (.string C0), .nl, .sl 82 C1 false, .sl 208 C2 false, .sl 85 C3 false, .nl, .nl], .var 109 [.sl 3 D0 false, .sl 3 D1 false, .sl 181 D2 false], .row 3 B2 true, .var 27 [.v (.int .i64 H0), .v (.int .i64 H1), .rw 4, .rw 5], .row 3 B4 true, .row 3 B5 true]
 | .p4191389 l0 clocks2 i13 turn17 s107 C0 C1 C2 C3 D0 D1 D2 B2 H0 H1 B4 B5 B6 B7 => mkSt 143 [0, 2, 7, 9, 11, 12, 13, 15, 16, 17, 107] [.sl 40 l0 false, .v (.int .i64 clocks2), .bp 0 0, .bp 1 0, .rw 2, .bp 3 0, .v (.int .i64 i13), .rw 4, .rw 5, .sl 3 turn17 true, .v (.bool s107)] [.var 75 [.v (.string C0), .nl, .sl 82 C1 false, .sl 208 C2 false, .sl 85 C3 false, .nl, .nl], .var 109 [.sl 3 D0 false, .sl 3 D1 false, .sl 181 D2 false], .row 3 B2 true, .var 27 [.v (.int .i64 H0), .v (.int .i64 H1), .rw 6, .rw 7], .row 3 B4 true, .row 3 B5 true, .row 3 B6 true, .row 3 B7 true]
 | .p4191391 l0 clocks2 i13 turn17 C0 C1 C2 C3 D0 D1 D2 G0 G1 B3 B4 B5 B6 => mkSt 143 [0, 2, 7, 9, 12, 13, 15, 16, 17] [.sl 40 l0 false, .v (.int .i64 clocks2), .bp 0 0, .bp 1 0, .bp 2 0, .v (.int .i64 i13), .rw 3, .rw 4, .sl 3 turn17 true] [.var 75 [.v (.string C0), .nl, .sl 82 C1 false, .sl 208 C2 false, .sl 85 C3 false, .nl, .nl], .var 109 [.sl 3 D0 false, .sl 3 D1 false, .sl 181 D2 false], .var 27 [.v (.int .i64 G0), .v (.int .i64 G1), .rw 5, .rw 6], .row 3 B3 true, .row 3 B4 true, .row 3 B5 true, .row 3 B6 true]
abbrev xy8 : Type := ((Bool × Unit) × Unit)
def uy6 : Res E (Bool × Unit) Unit := { rows := [], flat := [], keep := 0, done := [0], rl := (.cons Rd.bool .nil), rb := .nil }
def uc9 : v07 → Option xy8
 | .start l0 memory1 clocks2 =>
  (some () : Option Unit) >>= fun t1 =>
  if (!true) = true then
   some ((false, ()), ())
  else
   (vu2 (.start l0)) >>= fun t2 =>
   if (t2.1.1 != (0 : Int)) = true then
    some ((true, ()), ())
   else
    (uW4 (.start memory1)) >>= fun t3 =>
    if (t3.1.1 != (0 : Int)) = true then
     some ((true, ()), ())
    else
     (uf8 (.start clocks2 (0 : Int) (40 : Int))) >>= fun t4 =>
     if (!t4.1.1) = true then
      some ((true, ()), ())
     else
      uc9 (.p15 l0 memory1 clocks2)
 | .p15 l0 memory1 clocks2 =>
  (vB0 (.start l0)) >>= fun t1 =>
  (uy9 (.start memory1)) >>= fun t2 =>
  (u14 (.start t1.2.1 t2.2.1)) >>= fun t3 =>
  if (t3.1.2.1 != (0 : Int)) = true then
   some ((false, ()), ())
  else
   (u69 (.start t3.1.1.1 ([]) t3.1.1.2.2.1 t3.1.1.2.2.2.1 t3.1.1.2.2.2.2.1 ([]) ([]))) >>= fun t4 =>
   if (!t4.1.1) = true then
    some ((false, ()), ())
   else
    if (decide ((IntKind.wrap .i64 ((0 : Int) + (0 : Int))) > (0 : Int))) = true then
     some ((false, ()), ())
    else
     if ((List.length t3.1.1.2.2.1 : Int) != (16 : Int)) = true then
      some ((false, ()), ())
     else
      if ((List.length t3.1.1.2.2.2.2.1 : Int) != (2 : Int)) = true then
       some ((false, ()), ())
      else
       uc9 (.p63 l0 memory1 clocks2 t3.1.1.1 t3.1.1.2.2.1 t3.1.1.2.2.2.1 t3.1.1.2.2.2.2.1)
 | .p63 l0 memory1 clocks2 C0 C1 C2 C3 =>
  (uc6 (.start C0 ([]) C1 C2 C3 ([]) ([]))) >>= fun t1 =>
  if (!t1.1.2.1) = true then
   some ((false, ()), ())
  else
   (ux3 (.start C0 ([]) C1 C2 C3 ([]) ([]))) >>= fun t2 =>
   (uF2 (.start memory1)) >>= fun t3 =>
   uc9 (.p16372 l0 clocks2 (0 : Int) C0 C1 C2 C3 t1.1.1.1 t1.1.1.2.1 t1.1.1.2.2.1 t2.2.1 t3.1.1.1 t3.1.1.2.1 t3.2.1 t3.2.2.1)
 | .p16372 l0 clocks2 i13 C0 C1 C2 C3 D0 D1 D2 B2 H0 H1 B4 B5 =>
  if (decide (i13 < clocks2)) = true then
   (ud3 (.start C0 ([]) C1 C2 C3 ([]) ([]) D0 D1 D2 ([]) B2)) >>= fun t1 =>
   (uK6 (.start t1.2.2.1)) >>= fun t2 =>
   if (t2.1.1 != (0 : Int)) = true then
    some ((false, ()), ())
   else
    if (!((2 : Int) == (0 : Int))) = true then
     if (H1 == (1 : Int)) = true then
      if (!((2 : Int) == (0 : Int))) = true then
       uc9 (.p4191389 l0 clocks2 i13 ([Int.tmod i13 (2 : Int)] : List Int) ((Int.tmod i13 (2 : Int)) == (0 : Int)) C0 C1 C2 C3 D0 D1 D2 B2 H0 H1 t1.2.2.1 t1.2.2.2.1 B4 B5)
      else none
     else
      uc9 (.p4191389 l0 clocks2 i13 ([Int.tmod i13 (2 : Int)] : List Int) false C0 C1 C2 C3 D0 D1 D2 B2 H0 H1 t1.2.2.1 t1.2.2.2.1 B4 B5)
    else none
  else
   some ((true, ()), ())
 | .p4191389 l0 clocks2 i13 turn17 s107 C0 C1 C2 C3 D0 D1 D2 B2 H0 H1 B4 B5 B6 B7 =>
  if s107 = true then
   if ((List.length B5 : Int) == (0 : Int)) = true then
    (ud9 (.start B4 B2)) >>= fun t1 =>
    some ((t1.1.1, ()), ())
   else
    some ((false, ()), ())
  else
   if (!((2 : Int) == (0 : Int))) = true then
    if ((Int.tmod i13 (2 : Int)) == (1 : Int)) = true then
     (ul1 (.start l0 H0 H1 B6 B7)) >>= fun t2 =>
     uc9 (.p4191391 l0 clocks2 i13 turn17 C0 C1 C2 C3 D0 D1 D2 t2.1.1.1 t2.1.1.2.1 B4 B5 t2.2.1 t2.2.2.1)
    else
     uc9 (.p4191391 l0 clocks2 i13 turn17 C0 C1 C2 C3 D0 D1 D2 H0 H1 B4 B5 B6 B7)
   else none
 | .p4191391 l0 clocks2 i13 turn17 C0 C1 C2 C3 D0 D1 D2 G0 G1 B3 B4 B5 B6 =>
  (ud9 (.start B4 turn17)) >>= fun t1 =>
  if (!t1.1.1) = true then
   some ((false, ()), ())
  else
   (uT4 (.start B3)) >>= fun t2 =>
   (uv5 (.start t2.1.1.1 t2.1.1.2.1 t2.2.1 t2.2.2.1 G0 G1 B5 B6)) >>= fun t3 =>
   if (!t3.1.1) = true then
    some ((false, ()), ())
   else
    if (decide ((0 : Int) ≤ (2 : Int)) && decide ((2 : Int) < (List.length B3 : Int))) = true then
     (idx B3 (2 : Int)) >>= fun t4 =>
     if (!((2 : Int) == (0 : Int))) = true then
      if (t4 != (IntKind.wrap .i64 ((1 : Int) - (Int.tmod i13 (2 : Int))))) = true then
       some ((false, ()), ())
      else
       uc9 (.p16372 l0 clocks2 (IntKind.wrap .i64 (i13 + (1 : Int))) C0 C1 C2 C3 D0 D1 D2 B3 G0 G1 B5 B6)
     else none
    else none
 partial_fixpoint
def v66 : List (Plc E v07) := [⟨15, [true, true, true], { slots := [0, 1, 2], rows := [], flat := [], keep := 0 }, _, _, (.cons (Rd.sl 40 false) (.cons (Rd.sl 3 false) (.cons (Rd.int .i64) .nil))), .nil, fun a b => .p15 a.1 a.2.1 a.2.2.1⟩,
 ⟨63, [true, true, true, true, true], { slots := [0, 1, 2, 7], rows := [], flat := [], keep := 0 }, _, _, (.cons (Rd.sl 40 false) (.cons (Rd.sl 3 false) (.cons (Rd.int .i64) (.cons (Rd.bp 0 0) .nil)))), (.cons (.var 75 (.cons Rd.str (.cons Rd.nl (.cons (Rd.sl 82 false) (.cons (Rd.sl 208 false) (.cons (Rd.sl 85 false) (.cons Rd.nl (.cons Rd.nl .nil)))))))) .nil), fun a b => .p63 a.1 a.2.1 a.2.2.1 b.1.1 b.1.2.2.1 b.1.2.2.2.1 b.1.2.2.2.2.1⟩,
 ⟨16372, [false, false, true, false, true, true, true, true, true, true, true, true, true], { slots := [0, 2, 7, 9, 11, 12, 13], rows := [], flat := [], keep := 0 }, _, _, (.cons (Rd.sl 40 false) (.cons (Rd.int .i64) (.cons (Rd.bp 0 0) (.cons (Rd.bp 1 0) (.cons (Rd.rw 2) (.cons (Rd.bp 3 0) (.cons (Rd.int .i64) .nil))))))), (.cons (.var 75 (.cons Rd.str (.cons Rd.nl (.cons (Rd.sl 82 false) (.cons (Rd.sl 208 false) (.cons (Rd.sl 85 false) (.cons Rd.nl (.cons Rd.nl .nil)))))))) (.cons (.var 109 (.cons (Rd.sl 3 false) (.cons (Rd.sl 3 false) (.cons (Rd.sl 181 false) .nil)))) (.cons (.row 3 true) (.cons (.var 27 (.cons (Rd.int .i64) (.cons (Rd.int .i64) (.cons (Rd.rw 4) (.cons (Rd.rw 5) .nil))))) (.cons (.row 3 true) (.cons (.row 3 true) .nil)))))), fun a b => .p16372 a.1 a.2.1 a.2.2.2.2.2.2.1 b.1.1 b.1.2.2.1 b.1.2.2.2.1 b.1.2.2.2.2.1 b.2.1.1 b.2.1.2.1 b.2.1.2.2.1 b.2.2.1 b.2.2.2.1.1 b.2.2.2.1.2.1 b.2.2.2.2.1 b.2.2.2.2.2.1⟩,
 ⟨4191389, [true, false, true, true, true, false, false, true, false, false, true, false, true, true, true, true, true, true, true, true, true], { slots := [0, 2, 7, 9, 11, 12, 13, 15, 16, 17, 107], rows := [], flat := [], keep := 0 }, _, _, (.cons (Rd.sl 40 false) (.cons (Rd.int .i64) (.cons (Rd.bp 0 0) (.cons (Rd.bp 1 0) (.cons (Rd.rw 2) (.cons (Rd.bp 3 0) (.cons (Rd.int .i64) (.cons (Rd.rw 4) (.cons (Rd.rw 5) (.cons (Rd.sl 3 true) (.cons Rd.bool .nil))))))))))), (.cons (.var 75 (.cons Rd.str (.cons Rd.nl (.cons (Rd.sl 82 false) (.cons (Rd.sl 208 false) (.cons (Rd.sl 85 false) (.cons Rd.nl (.cons Rd.nl .nil)))))))) (.cons (.var 109 (.cons (Rd.sl 3 false) (.cons (Rd.sl 3 false) (.cons (Rd.sl 181 false) .nil)))) (.cons (.row 3 true) (.cons (.var 27 (.cons (Rd.int .i64) (.cons (Rd.int .i64) (.cons (Rd.rw 6) (.cons (Rd.rw 7) .nil))))) (.cons (.row 3 true) (.cons (.row 3 true) (.cons (.row 3 true) (.cons (.row 3 true) .nil)))))))), fun a b => .p4191389 a.1 a.2.1 a.2.2.2.2.2.2.1 a.2.2.2.2.2.2.2.2.2.1 a.2.2.2.2.2.2.2.2.2.2.1 b.1.1 b.1.2.2.1 b.1.2.2.2.1 b.1.2.2.2.2.1 b.2.1.1 b.2.1.2.1 b.2.1.2.2.1 b.2.2.1 b.2.2.2.1.1 b.2.2.2.1.2.1 b.2.2.2.2.1 b.2.2.2.2.2.1 b.2.2.2.2.2.2.1 b.2.2.2.2.2.2.2.1⟩,
 ⟨4191391, [true, true, true, true, true, false, false, true, false, false, true, false, true, true, true, true, true, true, true, true, true], { slots := [0, 2, 7, 9, 12, 13, 15, 16, 17], rows := [], flat := [], keep := 0 }, _, _, (.cons (Rd.sl 40 false) (.cons (Rd.int .i64) (.cons (Rd.bp 0 0) (.cons (Rd.bp 1 0) (.cons (Rd.bp 2 0) (.cons (Rd.int .i64) (.cons (Rd.rw 3) (.cons (Rd.rw 4) (.cons (Rd.sl 3 true) .nil))))))))), (.cons (.var 75 (.cons Rd.str (.cons Rd.nl (.cons (Rd.sl 82 false) (.cons (Rd.sl 208 false) (.cons (Rd.sl 85 false) (.cons Rd.nl (.cons Rd.nl .nil)))))))) (.cons (.var 109 (.cons (Rd.sl 3 false) (.cons (Rd.sl 3 false) (.cons (Rd.sl 181 false) .nil)))) (.cons (.var 27 (.cons (Rd.int .i64) (.cons (Rd.int .i64) (.cons (Rd.rw 5) (.cons (Rd.rw 6) .nil))))) (.cons (.row 3 true) (.cons (.row 3 true) (.cons (.row 3 true) (.cons (.row 3 true) .nil))))))), fun a b => .p4191391 a.1 a.2.1 a.2.2.2.2.2.1 a.2.2.2.2.2.2.2.2.1 b.1.1 b.1.2.2.1 b.1.2.2.2.1 b.1.2.2.2.2.1 b.2.1.1 b.2.1.2.1 b.2.1.2.2.1 b.2.2.1.1 b.2.2.1.2.1 b.2.2.2.1 b.2.2.2.2.1 b.2.2.2.2.2.1 b.2.2.2.2.2.2.1⟩]
theorem vO2 : All (ub5 143 0 uQ9 vQ0) v66 := ⟨⟨rfl, rfl, fun _ _ => rfl, fun _ _ => rfl⟩, ⟨⟨rfl, rfl, fun _ _ => rfl, fun _ _ => rfl⟩, ⟨⟨rfl, rfl, fun _ _ => rfl, fun _ _ => rfl⟩, ⟨⟨rfl, rfl, fun _ _ => rfl, fun _ _ => rfl⟩, ⟨⟨rfl, rfl, fun _ _ => rfl, fun _ _ => rfl⟩, trivial⟩⟩⟩⟩⟩
def uY6 : Code := Tryz.f9.body.getD .skip
def vB2 : Spec E.S := (Con.add v48 (Con.add wb0 (Con.add we0 (Con.add vl6 (Con.add wd7 (Con.add xb8 (Con.add wZ5 (Con.add w85 (Con.add w31 (Con.add xb2 (Con.add w10 (Con.add v97 (Con.add xx1 (Con.add uA8 (Con.add xD4 (Con.add xB7 (Con.add um2 ub3)))))))))))))))))
theorem vz0 : ub0 E vB2 := (Con.add_ok vE8 (Con.add_ok vH9 (Con.add_ok vJ2 (Con.add_ok u95 (Con.add_ok vS6 (Con.add_ok wr9 (Con.add_ok wE1 (Con.add_ok wm2 (Con.add_ok wC6 (Con.add_ok wJ0 (Con.add_ok wI6 (Con.add_ok va8 (Con.add_ok w76 (Con.add_ok uj3 (Con.add_ok wT6 (Con.add_ok w73 (Con.add_ok ut4 ua6)))))))))))))))))
theorem w12 : ∀ pt r, uc9 pt = some r → Good E Tryz.f9 uY6 0 (uy6.av r) (uy6.bx r) (uQ9 pt) (vQ0 pt) := by
 refine uc9.partial_correctness (fun pt r => Good E Tryz.f9 uY6 0 (uy6.av r) (uy6.bx r) (uQ9 pt) (vQ0 pt)) ?_
 intro run' ih pt r hr
 cases pt <;> exact ua8 (spec := vB2) (wr := (mkWr [] [])) (l := v66) (z := 143) (p := uy6) E_ok vO2.mem rfl vz0 ih (Eq.trans (by kernel_rfl) hr)
def vl4 : Con E := ⟨9, _, _, (.cons (Rw.sl 40) (.cons (Rw.sl 3) (.cons (Rd.int .i64).w .nil))), .nil, 0, xy8, fun a b => uc9 (.start a.1 a.2.1 a.2.2.1), uy6.av, uy6.bx⟩
theorem vP0 : vl4.Ok := fun a b r h => ub6 (fn := Tryz.f9) (code := uY6) E_ok (by kernel_rfl) (by kernel_rfl) (by kernel_rfl) (Nat.le_of_ble_eq_true rfl) (w12 (.start a.1 a.2.1 a.2.2.1) r h)
end
end Go.Proofs.YtjededkgblbamaaGreatDoor.Ev.F
