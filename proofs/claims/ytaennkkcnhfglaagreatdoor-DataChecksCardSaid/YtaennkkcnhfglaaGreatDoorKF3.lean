/- A part of the proof. -/
import Derived.Test.YtaennkkcnhfglaaGreatDoorKF2
set_option linter.unusedVariables false
set_option maxRecDepth 100000
namespace Go.Proofs.YtaennkkcnhfglaaGreatDoor.Ev.F
open Go.Proofs Go.Proofs.YtaennkkcnhfglaaGreatDoor.Ev
noncomputable section
inductive wc7 where
 | start (l0 : (List ua2)) (t1_0 : Int) (t1_1 : Int) (t1_2 : ByteArray) (t1_3 : (List ua1))
def vp3 : wc7 → List Bool
 | .start .. => []
def xb8 : wc7 → St E.S
 | .start l0 t1_0 t1_1 t1_2 t1_3 => st0 27 [.sl 103 l0 false, .agg [.v (.int .i64 t1_0), .v (.int .i64 t1_1), .v (.string t1_2), .sl 25 t1_3 false]] []
abbrev xG0 : Type := ((Int × Unit) × Unit)
def uT3 : Res E (Int × Unit) Unit := { rows := [], flat := [], keep := 0, done := [0], rl := (.cons (Rd.int .i64) .nil), rb := .nil }
def u40 : wc7 → Option xG0
 | .start l0 t1_0 t1_1 t1_2 t1_3 =>
  (u03 (.start l0 ([]) t1_0 t1_1 t1_2 t1_3)) >>= fun t1 =>
  if (t1.1.1 != (0 : Int)) = true then
   some ((t1.1.1, ()), ())
  else
   (uc1 (.start l0 t1_0 t1_1 t1_2 t1_3 (0 : Int) (0 : Int) (0 : Int))) >>= fun t2 =>
   if (t2.1.1.2.1 != (0 : Int)) = true then
    some ((t2.1.1.2.1, ()), ())
   else
    (run_z99 (.start l0 t1_0 t1_1 t1_2 t1_3)) >>= fun t3 =>
    (u04 (.start t3.1.1)) >>= fun t4 =>
    if (!t4.1.1) = true then
     some (((25 : Int), ()), ())
    else
     some (((0 : Int), ()), ())
def wu1 : List (Plc E wc7) := []
theorem wb9 : All (ub7 27 0 vp3 xb8) wu1 := trivial
def vE3 : Code := Tryz.f63.body.getD .skip
def vN1 : Spec E.S := (Con.add vT3 (Con.add w34 (Con.add w31 (Con.add vT1 ub0))))
theorem vN2 : ua9 E vN1 := (Con.add_ok vo1 (Con.add_ok wF3 (Con.add_ok wF0 (Con.add_ok vn9 ua7))))
theorem w47 : ∀ pt r, u40 pt = some r → Good E Tryz.f63 vE3 0 (uT3.av r) (uT3.bx r) (vp3 pt) (xb8 pt) := by
 intro pt r hr
 cases pt <;> exact ua8 (spec := vN1) (wr := (mkWr [] [])) (l := wu1) (z := 27) (p := uT3) (run' := fun _ => none) E_ok wb9.mem rfl vN2 (fun _ _ h => by cases h) (Eq.trans (by kernel_rfl) hr)
def wh6 : Con E := ⟨63, _, _, (.cons (Rw.sl 103) (.cons (Rw.agg (.cons (Rd.int .i64).w (.cons (Rd.int .i64).w (.cons Rd.str.w (.cons (Rw.sl 25) .nil))))) .nil)), .nil, 0, xG0, fun a b => u40 (.start a.1 a.2.1.1 a.2.1.2.1 a.2.1.2.2.1 a.2.1.2.2.2.1), uT3.av, uT3.bx⟩
theorem vR4 : wh6.Ok := fun a b r h => ub2 (fn := Tryz.f63) (code := vE3) E_ok (by kernel_rfl) (by kernel_rfl) (by kernel_rfl) (Nat.le_of_ble_eq_true rfl) (w47 (.start a.1 a.2.1.1 a.2.1.2.1 a.2.1.2.2.1 a.2.1.2.2.2.1) r h)
inductive wc8 where
 | start (l0 : (List ua2)) (t1_0 : Int) (t1_1 : Int) (t1_2 : ByteArray) (t1_3 : (List ua1))
def vp4 : wc8 → List Bool
 | .start .. => []
def xb9 : wc8 → St E.S
 | .start l0 t1_0 t1_1 t1_2 t1_3 => st0 14 [.sl 103 l0 false, .agg [.v (.int .i64 t1_0), .v (.int .i64 t1_1), .v (.string t1_2), .sl 25 t1_3 false]] []
abbrev xG1 : Type := ((Int × Unit) × Unit)
def uT4 : Res E (Int × Unit) Unit := { rows := [], flat := [], keep := 0, done := [0], rl := (.cons (Rd.int .i64) .nil), rb := .nil }
def uL0 : wc8 → Option xG1
 | .start l0 t1_0 t1_1 t1_2 t1_3 =>
  (vA0 (.start l0)) >>= fun t1 =>
  if (t1.1.1 != (0 : Int)) = true then
   some ((t1.1.1, ()), ())
  else
   (u40 (.start l0 t1_0 t1_1 t1_2 t1_3)) >>= fun t2 =>
   some ((t2.1.1, ()), ())
def wu2 : List (Plc E wc8) := []
theorem wc0 : All (ub7 14 0 vp4 xb9) wu2 := trivial
def vE4 : Code := Tryz.f12.body.getD .skip
def vN3 : Spec E.S := (Con.add wh6 (Con.add w29 ub0))
theorem vN4 : ua9 E vN3 := (Con.add_ok vR4 (Con.add_ok wE8 ua7))
theorem w48 : ∀ pt r, uL0 pt = some r → Good E Tryz.f12 vE4 0 (uT4.av r) (uT4.bx r) (vp4 pt) (xb9 pt) := by
 intro pt r hr
 cases pt <;> exact ua8 (spec := vN3) (wr := (mkWr [] [])) (l := wu2) (z := 14) (p := uT4) (run' := fun _ => none) E_ok wc0.mem rfl vN4 (fun _ _ h => by cases h) (Eq.trans (by kernel_rfl) hr)
def wh7 : Con E := ⟨12, _, _, (.cons (Rw.sl 103) (.cons (Rw.agg (.cons (Rd.int .i64).w (.cons (Rd.int .i64).w (.cons Rd.str.w (.cons (Rw.sl 25) .nil))))) .nil)), .nil, 0, xG1, fun a b => uL0 (.start a.1 a.2.1.1 a.2.1.2.1 a.2.1.2.2.1 a.2.1.2.2.2.1), uT4.av, uT4.bx⟩
theorem vR5 : wh7.Ok := fun a b r h => ub2 (fn := Tryz.f12) (code := vE4) E_ok (by kernel_rfl) (by kernel_rfl) (by kernel_rfl) (Nat.le_of_ble_eq_true rfl) (w48 (.start a.1 a.2.1.1 a.2.1.2.1 a.2.1.2.2.1 a.2.1.2.2.2.1) r h)
inductive wc9 where
 | start (all0 : (List ua0)) (name1 : ByteArray)
 | p52 (all0 : (List ua0)) (name1 : ByteArray) (i5 : Int)
def uY5 : wc9 → List Bool
 | .start .. => []
 | .p52 .. => [false, false, true, false, true]
def wb6 : wc9 → St E.S
 | .start all0 name1 => st0 20 [.sl 56 all0 false, .v (.string name1)] []
 | .p52 all0 name1 i5 => mkSt 20 [0, 1, 5] [.sl 56 all0 false, .v (.string name1), .v (.int .i64 i5)] []
abbrev xG2 : Type := ((Int × Unit) × Unit)
def uB5 : Res E (Int × Unit) Unit := { rows := [], flat := [], keep := 0, done := [0], rl := (.cons (Rd.int .i64) .nil), rb := .nil }
def uk5 : wc9 → Option xG2
 | .start all0 name1 =>
  uk5 (.p52 all0 name1 (0 : Int))
 | .p52 all0 name1 i5 =>
  if (decide (i5 < (List.length all0 : Int))) = true then
   (idx all0 i5) >>= fun t1 =>
   if (seq t1.Name name1) = true then
    some ((i5, ()), ())
   else
    uk5 (.p52 all0 name1 (IntKind.wrap .i64 (i5 + (1 : Int))))
  else
   some (((-1 : Int), ()), ())
 partial_fixpoint
def wu3 : List (Plc E wc9) := [⟨52, [false, false, true, false, true], { slots := [0, 1, 5], rows := [], flat := [], keep := 0 }, _, _, (.cons (Rd.sl 56 false) (.cons Rd.str (.cons (Rd.int .i64) .nil))), .nil, fun a b => .p52 a.1 a.2.1 a.2.2.1⟩]
theorem wc1 : All (ub7 20 0 uY5 wb6) wu3 := ⟨⟨rfl, rfl, fun _ _ => rfl, fun _ _ => rfl⟩, trivial⟩
def u58 : Code := Tryz.f29.body.getD .skip
def vN5 : Spec E.S := ub0
theorem vN6 : ua9 E vN5 := ua7
theorem w49 : ∀ pt r, uk5 pt = some r → Good E Tryz.f29 u58 0 (uB5.av r) (uB5.bx r) (uY5 pt) (wb6 pt) := by
 refine uk5.partial_correctness (fun pt r => Good E Tryz.f29 u58 0 (uB5.av r) (uB5.bx r) (uY5 pt) (wb6 pt)) ?_
 intro run' ih pt r hr
 cases pt <;> exact ua8 (spec := vN5) (wr := (mkWr [] [])) (l := wu3) (z := 20) (p := uB5) E_ok wc1.mem rfl vN6 ih (Eq.trans (by kernel_rfl) hr)
def wh8 : Con E := ⟨29, _, _, (.cons (Rw.sl 56) (.cons Rd.str.w .nil)), .nil, 0, xG2, fun a b => uk5 (.start a.1 a.2.1), uB5.av, uB5.bx⟩
theorem vR6 : wh8.Ok := fun a b r h => ub2 (fn := Tryz.f29) (code := u58) E_ok (by kernel_rfl) (by kernel_rfl) (by kernel_rfl) (Nat.le_of_ble_eq_true rfl) (w49 (.start a.1 a.2.1) r h)
inductive u06 where
 | start (a0_0 : Int) (a0_1 : Int) (a0_2 : ByteArray) (a0_3 : (List ua1)) (b1_0 : Int) (b1_1 : Int) (b1_2 : ByteArray) (b1_3 : (List ua1))
 | p7 (C0 : Int) (C1 : Int) (C2 : ByteArray) (C3 : (List ua1)) (D0 : Int) (D1 : Int) (D2 : ByteArray) (D3 : (List ua1))
 | p116 (i5 : Int) (C0 : Int) (C1 : Int) (C2 : ByteArray) (C3 : (List ua1)) (D0 : Int) (D1 : Int) (D2 : ByteArray) (D3 : (List ua1))
def uy6 : u06 → List Bool
 | .start .. => []
 | .p7 .. => [true, true]
 | .p116 .. => [false, false, true, false, true, true]
def vh9 : u06 → St E.S
 | .start a0_0 a0_1 a0_2 a0_3 b1_0 b1_1 b1_2 b1_3 => st0 53 [.agg [.v (.int .i64 a0_0), .v (.int .i64 a0_1), .v (.string a0_2), .sl 25 a0_3 false], .agg [.v (.int .i64 b1_0), .v (.int .i64 b1_1), .v (.string b1_2), .sl 25 b1_3 false]] []
 | .p7 C0 C1 C2 C3 D0 D1 D2 D3 => mkSt 53 [2, 3] [.bp 0 0, .bp 1 0] [.var 25 [.v (.int .i64 C0), .v (.int .i64 C1), .v (.string C2), .sl 25 C3 false], .var 25 [.v (.int .i64 D0), .v (.int .i64 D1), .v (.string D2), .sl 25 D3 false]]
 | .p116 i5 C0 C1 C2 C3 D0 D1 D2 D3 => mkSt 53 [2, 3, 5] [.bp 0 0, .bp 1 0, .v (.int .i64 i5)] [.var 25 [.v (.int .i64 C0), .v (.int .i64 C1), .v (.string C2), .sl 25 C3 false], .var 25 [.v (.int .i64 D0), .v (.int .i64 D1), .v (.string D2), .sl 25 D3 false]]
abbrev u50 : Type := ((Bool × Unit) × Unit)
def uj9 : Res E (Bool × Unit) Unit := { rows := [], flat := [], keep := 0, done := [0], rl := (.cons Rd.bool .nil), rb := .nil }
def ug9 : u06 → Option u50
 | .start a0_0 a0_1 a0_2 a0_3 b1_0 b1_1 b1_2 b1_3 =>
  if (a0_0 != b1_0) = true then
   some ((false, ()), ())
  else
   if (a0_1 != b1_1) = true then
    some ((false, ()), ())
   else
    if (!(seq a0_2 b1_2)) = true then
     some ((false, ()), ())
    else
     if ((List.length a0_3 : Int) != (List.length b1_3 : Int)) = true then
      some ((false, ()), ())
     else
      ug9 (.p7 a0_0 a0_1 a0_2 a0_3 b1_0 b1_1 b1_2 b1_3)
 | .p7 C0 C1 C2 C3 D0 D1 D2 D3 =>
  ug9 (.p116 (0 : Int) C0 C1 C2 C3 D0 D1 D2 D3)
 | .p116 i5 C0 C1 C2 C3 D0 D1 D2 D3 =>
  if (decide (i5 < (List.length C3 : Int))) = true then
   (idx C3 i5) >>= fun t1 =>
   (idx D3 i5) >>= fun t2 =>
   (ug9 (.start t1.Kind t1.Value t1.Name t1.Parts t2.Kind t2.Value t2.Name t2.Parts)) >>= fun t3 =>
   if (!t3.1.1) = true then
    some ((false, ()), ())
   else
    ug9 (.p116 (IntKind.wrap .i64 (i5 + (1 : Int))) C0 C1 C2 C3 D0 D1 D2 D3)
  else
   some ((true, ()), ())
 partial_fixpoint
def wu4 : List (Plc E u06) := [⟨7, [true, true], { slots := [2, 3], rows := [], flat := [], keep := 0 }, _, _, (.cons (Rd.bp 0 0) (.cons (Rd.bp 1 0) .nil)), (.cons (.var 25 (.cons (Rd.int .i64) (.cons (Rd.int .i64) (.cons Rd.str (.cons (Rd.sl 25 false) .nil))))) (.cons (.var 25 (.cons (Rd.int .i64) (.cons (Rd.int .i64) (.cons Rd.str (.cons (Rd.sl 25 false) .nil))))) .nil)), fun a b => .p7 b.1.1 b.1.2.1 b.1.2.2.1 b.1.2.2.2.1 b.2.1.1 b.2.1.2.1 b.2.1.2.2.1 b.2.1.2.2.2.1⟩,
 ⟨116, [false, false, true, false, true, true], { slots := [2, 3, 5], rows := [], flat := [], keep := 0 }, _, _, (.cons (Rd.bp 0 0) (.cons (Rd.bp 1 0) (.cons (Rd.int .i64) .nil))), (.cons (.var 25 (.cons (Rd.int .i64) (.cons (Rd.int .i64) (.cons Rd.str (.cons (Rd.sl 25 false) .nil))))) (.cons (.var 25 (.cons (Rd.int .i64) (.cons (Rd.int .i64) (.cons Rd.str (.cons (Rd.sl 25 false) .nil))))) .nil)), fun a b => .p116 a.2.2.1 b.1.1 b.1.2.1 b.1.2.2.1 b.1.2.2.2.1 b.2.1.1 b.2.1.2.1 b.2.1.2.2.1 b.2.1.2.2.2.1⟩]
theorem wc2 : All (ub7 53 0 uy6 vh9) wu4 := ⟨⟨rfl, rfl, fun _ _ => rfl, fun _ _ => rfl⟩, ⟨⟨rfl, rfl, fun _ _ => rfl, fun _ _ => rfl⟩, trivial⟩⟩
def uy0 : Code := Tryz.f30.body.getD .skip
def wk1 (run' : u06 → Option u50) : Con E := ⟨30, ((Int × (Int × (ByteArray × ((List ua1) × Unit)))) × ((Int × (Int × (ByteArray × ((List ua1) × Unit)))) × Unit)), Unit, (RwL.cons (Rw.agg (RwL.cons (Rd.int .i64).w (RwL.cons (Rd.int .i64).w (RwL.cons Rd.str.w (RwL.cons (Rw.sl 25) RwL.nil))))) (RwL.cons (Rw.agg (RwL.cons (Rd.int .i64).w (RwL.cons (Rd.int .i64).w (RwL.cons Rd.str.w (RwL.cons (Rw.sl 25) RwL.nil))))) RwL.nil)), RdBL.nil, 0, u50, fun a b => run' (.start a.1.1 a.1.2.1 a.1.2.2.1 a.1.2.2.2.1 a.2.1.1 a.2.1.2.1 a.2.1.2.2.1 a.2.1.2.2.2.1), uj9.av, uj9.bx⟩
theorem vV1 {run' : u06 → Option u50} (ih : ∀ pt r, run' pt = some r → Good E Tryz.f30 uy0 0 (uj9.av r) (uj9.bx r) (uy6 pt) (vh9 pt)) : (wk1 run').Ok := fun a b r h => ub2 (fn := Tryz.f30) (code := uy0) E_ok (by kernel_rfl) (by kernel_rfl) (by kernel_rfl) (Nat.le_of_ble_eq_true rfl) (ih (.start a.1.1 a.1.2.1 a.1.2.2.1 a.1.2.2.2.1 a.2.1.1 a.2.1.2.1 a.2.1.2.2.1 a.2.1.2.2.2.1) r h)
def vN7 (run' : u06 → Option u50) : Spec E.S := (Con.add (wk1 run') ub0)
theorem vN8 {run' : u06 → Option u50} (ih : ∀ pt r, run' pt = some r → Good E Tryz.f30 uy0 0 (uj9.av r) (uj9.bx r) (uy6 pt) (vh9 pt)) : ua9 E (vN7 run') := (Con.add_ok (vV1 ih) ua7)
theorem w50 : ∀ pt r, ug9 pt = some r → Good E Tryz.f30 uy0 0 (uj9.av r) (uj9.bx r) (uy6 pt) (vh9 pt) := by
 refine ug9.partial_correctness (fun pt r => Good E Tryz.f30 uy0 0 (uj9.av r) (uj9.bx r) (uy6 pt) (vh9 pt)) ?_
 intro run' ih pt r hr
 cases pt <;> exact ua8 (spec := (vN7 run')) (wr := (mkWr [] [])) (l := wu4) (z := 53) (p := uj9) E_ok wc2.mem rfl (vN8 ih) ih (Eq.trans (by kernel_rfl) hr)
def wh9 : Con E := ⟨30, _, _, (.cons (Rw.agg (.cons (Rd.int .i64).w (.cons (Rd.int .i64).w (.cons Rd.str.w (.cons (Rw.sl 25) .nil))))) (.cons (Rw.agg (.cons (Rd.int .i64).w (.cons (Rd.int .i64).w (.cons Rd.str.w (.cons (Rw.sl 25) .nil))))) .nil)), .nil, 0, u50, fun a b => ug9 (.start a.1.1 a.1.2.1 a.1.2.2.1 a.1.2.2.2.1 a.2.1.1 a.2.1.2.1 a.2.1.2.2.1 a.2.1.2.2.2.1), uj9.av, uj9.bx⟩
theorem vR7 : wh9.Ok := fun a b r h => ub2 (fn := Tryz.f30) (code := uy0) E_ok (by kernel_rfl) (by kernel_rfl) (by kernel_rfl) (Nat.le_of_ble_eq_true rfl) (w50 (.start a.1.1 a.1.2.1 a.1.2.2.1 a.1.2.2.2.1 a.2.1.1 a.2.1.2.1 a.2.1.2.2.1 a.2.1.2.2.2.1) r h)
inductive wd0 where
 | start (l0 : (List ua2)) (t1_0 : Int) (t1_1 : Int) (t1_2 : ByteArray) (t1_3 : (List ua1)) (name2 : ByteArray)
 | p511 (l0 : (List ua2)) (name2 : ByteArray) (all12 : (List ua6)) (g13 : Int) (C0 : Int) (C1 : Int) (C2 : ByteArray) (C3 : (List ua1))
 | p32767 (all12 : (List ua6)) (own15 : (List ua0)) (at16 : Int)
 | p524276 (all12 : (List ua6)) (own15 : (List ua0)) (at16 : Int) (j17 : Int)
def uY6 : wd0 → List Bool
 | .start .. => []
 | .p511 .. => [true, true, true, true, true, true, true, true]
 | .p32767 .. => [true, true, true, true, true, true, true, true, true, true, true, true, true, true]
 | .p524276 .. => [false, false, true, false, true, true, true, true, true, true, true, true, true, true, true, true, true, true]
def wb7 : wd0 → St E.S
 | .start l0 t1_0 t1_1 t1_2 t1_3 name2 => st0 150 [.sl 103 l0 false, .agg [.v (.int .i64 t1_0), .v (.int .i64 t1_1), .v (.string t1_2), .sl 25 t1_3 false], .v (.string name2)] []
 | .p511 l0 name2 all12 g13 C0 C1 C2 C3 => mkSt 150 [0, 2, 4, 12, 13] [.sl 103 l0 false, .v (.string name2), .bp 0 0, .sl 58 all12 false, .v (.int .i64 g13)] [.var 25 [.v (.int .i64 C0), .v (.int .i64 C1), .v (.string C2), .sl 25 C3 false]]
 | .p32767 all12 own15 at16 => mkSt 150 [12, 15, 16] [.sl 58 all12 false, .sl 56 own15 false, .v (.int .i64 at16)] []
 | .p524276 all12 own15 at16 j17 => mkSt 150 [12, 15, 16, 17] [.sl 58 all12 false, .sl 56 own15 false, .v (.int .i64 at16), .v (.int .i64 j17)] []
abbrev xG3 : Type := ((Bool × Unit) × Unit)
def uB6 : Res E (Bool × Unit) Unit := { rows := [], flat := [], keep := 0, done := [0], rl := (.cons Rd.bool .nil), rb := .nil }
def uh0 : wd0 → Option xG3
 | .start l0 t1_0 t1_1 t1_2 t1_3 name2 =>
  (u02 .start) >>= fun t1 =>
  if (!t1.1.1) = true then
   some ((false, ()), ())
  else
   (ue0 (.start l0)) >>= fun t2 =>
   if (!t2.1.1) = true then
    some ((true, ()), ())
   else
    (ug3 (.start l0)) >>= fun t3 =>
    (uH2 (.start t3.2.1)) >>= fun t4 =>
    (up7 (.start l0)) >>= fun t5 =>
    (ug3 (.start l0)) >>= fun t6 =>
    (vz9 (.start t6.2.1 t1_0 t1_1 t1_2 t1_3)) >>= fun t7 =>
    (ug3 (.start l0)) >>= fun t8 =>
    (vh1 (.start t8.2.1 t1_0 t1_1 t1_2 t1_3 name2)) >>= fun t9 =>
    if (t4.1.2.1 != t5.1.2.1) = true then
     some ((false, ()), ())
    else
     if (t4.1.1 != t5.1.1) = true then
      some ((false, ()), ())
     else
      (uL0 (.start l0 t1_0 t1_1 t1_2 t1_3)) >>= fun t10 =>
      if (t7.1.1 != t10.1.1) = true then
       some ((false, ()), ())
      else
       uh0 (.p511 l0 name2 t9.1.1 t9.1.2.1 t1_0 t1_1 t1_2 t1_3)
 | .p511 l0 name2 all12 g13 C0 C1 C2 C3 =>
  (uL0 (.start l0 C0 C1 C2 C3)) >>= fun t1 =>
  if (t1.1.1 != (0 : Int)) = true then
   if (g13 == t1.1.1) = true then
    some (((List.length all12 : Int) == (0 : Int), ()), ())
   else
    some ((false, ()), ())
  else
   (uD2 (.start C0 C1 C2 C3)) >>= fun t2 =>
   if t2.1.1 = true then
    if (g13 == (6 : Int)) = true then
     some (((List.length all12 : Int) == (0 : Int), ()), ())
    else
     some ((false, ()), ())
   else
    (uf4 (.start l0 C0 C1 C2 C3)) >>= fun t3 =>
    (uk5 (.start t3.1.1 name2)) >>= fun t4 =>
    if (decide (t4.1.1 < (0 : Int))) = true then
     if (g13 == (6 : Int)) = true then
      some (((List.length all12 : Int) == (0 : Int), ()), ())
     else
      some ((false, ()), ())
    else
     if (g13 != (0 : Int)) = true then
      some ((false, ()), ())
     else
      (idx t3.1.1 t4.1.1) >>= fun t5 =>
      if ((List.length all12 : Int) != (List.length t5.Fields : Int)) = true then
       some ((false, ()), ())
      else
       uh0 (.p32767 all12 t3.1.1 t4.1.1)
 | .p32767 all12 own15 at16 =>
  uh0 (.p524276 all12 own15 at16 (0 : Int))
 | .p524276 all12 own15 at16 j17 =>
  if (decide (j17 < (List.length all12 : Int))) = true then
   (idx all12 j17) >>= fun t1 =>
   (idx own15 at16) >>= fun t2 =>
   (idx t2.Fields j17) >>= fun t3 =>
   if (!(seq t1.Name t3.Name)) = true then
    some ((false, ()), ())
   else
    (idx all12 j17) >>= fun t4 =>
    (idx own15 at16) >>= fun t5 =>
    (idx t5.Fields j17) >>= fun t6 =>
    (ug9 (.start t4.Type_.Kind t4.Type_.Value t4.Type_.Name t4.Type_.Parts t6.Type_.Kind t6.Type_.Value t6.Type_.Name t6.Type_.Parts)) >>= fun t7 =>
    if (!t7.1.1) = true then
     some ((false, ()), ())
    else
     uh0 (.p524276 all12 own15 at16 (IntKind.wrap .i64 (j17 + (1 : Int))))
  else
   some ((true, ()), ())
 partial_fixpoint
def wu5 : List (Plc E wd0) := [⟨511, [true, true, true, true, true, true, true, true], { slots := [0, 2, 4, 12, 13], rows := [], flat := [], keep := 0 }, _, _, (.cons (Rd.sl 103 false) (.cons Rd.str (.cons (Rd.bp 0 0) (.cons (Rd.sl 58 false) (.cons (Rd.int .i64) .nil))))), (.cons (.var 25 (.cons (Rd.int .i64) (.cons (Rd.int .i64) (.cons Rd.str (.cons (Rd.sl 25 false) .nil))))) .nil), fun a b => .p511 a.1 a.2.1 a.2.2.2.1 a.2.2.2.2.1 b.1.1 b.1.2.1 b.1.2.2.1 b.1.2.2.2.1⟩,
 ⟨32767, [true, true, true, true, true, true, true, true, true, true, true, true, true, true], { slots := [12, 15, 16], rows := [], flat := [], keep := 0 }, _, _, (.cons (Rd.sl 58 false) (.cons (Rd.sl 56 false) (.cons (Rd.int .i64) .nil))), .nil, fun a b => .p32767 a.1 a.2.1 a.2.2.1⟩,
 ⟨524276, [false, false, true, false, true, true, true, true, true, true, true, true, true, true, true, true, true, true], { slots := [12, 15, 16, 17], rows := [], flat := [], keep := 0 }, _, _, (.cons (Rd.sl 58 false) (.cons (Rd.sl 56 false) (.cons (Rd.int .i64) (.cons (Rd.int .i64) .nil)))), .nil, fun a b => .p524276 a.1 a.2.1 a.2.2.1 a.2.2.2.1⟩]
theorem wc3 : All (ub7 150 0 uY6 wb7) wu5 := ⟨⟨rfl, rfl, fun _ _ => rfl, fun _ _ => rfl⟩, ⟨⟨rfl, rfl, fun _ _ => rfl, fun _ _ => rfl⟩, ⟨⟨rfl, rfl, fun _ _ => rfl, fun _ _ => rfl⟩, trivial⟩⟩⟩
def u59 : Code := Tryz.f4.body.getD .skip
def vN9 : Spec E.S := (Con.add wh9 (Con.add wh8 (Con.add u62 (Con.add vw1 (Con.add wh7 (Con.add w27 (Con.add w26 (Con.add vT2 (Con.add vS3 (Con.add w20 (Con.add w17 (Con.add w14 ub0))))))))))))
theorem vO0 : ua9 E vN9 := (Con.add_ok vR7 (Con.add_ok vR6 (Con.add_ok uJ3 (Con.add_ok uX0 (Con.add_ok vR5 (Con.add_ok wE7 (Con.add_ok wE6 (Con.add_ok vo0 (Con.add_ok vn1 (Con.add_ok wE1 (Con.add_ok wD8 (Con.add_ok wD6 ua7))))))))))))
theorem w51 : ∀ pt r, uh0 pt = some r → Good E Tryz.f4 u59 0 (uB6.av r) (uB6.bx r) (uY6 pt) (wb7 pt) := by
 refine uh0.partial_correctness (fun pt r => Good E Tryz.f4 u59 0 (uB6.av r) (uB6.bx r) (uY6 pt) (wb7 pt)) ?_
 intro run' ih pt r hr
 cases pt <;> exact ua8 (spec := vN9) (wr := (mkWr [] [])) (l := wu5) (z := 150) (p := uB6) E_ok wc3.mem rfl vO0 ih (Eq.trans (by kernel_rfl) hr)
def vv7 : Con E := ⟨4, _, _, (.cons (Rw.sl 103) (.cons (Rw.agg (.cons (Rd.int .i64).w (.cons (Rd.int .i64).w (.cons Rd.str.w (.cons (Rw.sl 25) .nil))))) (.cons Rd.str.w .nil))), .nil, 0, xG3, fun a b => uh0 (.start a.1 a.2.1.1 a.2.1.2.1 a.2.1.2.2.1 a.2.1.2.2.2.1 a.2.2.1), uB6.av, uB6.bx⟩
theorem vR8 : vv7.Ok := fun a b r h => ub2 (fn := Tryz.f4) (code := u59) E_ok (by kernel_rfl) (by kernel_rfl) (by kernel_rfl) (Nat.le_of_ble_eq_true rfl) (w51 (.start a.1 a.2.1.1 a.2.1.2.1 a.2.1.2.2.1 a.2.1.2.2.2.1 a.2.2.1) r h)
end
end Go.Proofs.YtaennkkcnhfglaaGreatDoor.Ev.F
