/- A part of the proof. -/
import Derived.Test.YtaennkkcnhfglaaGreatDoorLF2
set_option linter.unusedVariables false
set_option maxRecDepth 100000
namespace Go.Proofs.YtaennkkcnhfglaaGreatDoor.Ev.F
open Go.Proofs Go.Proofs.YtaennkkcnhfglaaGreatDoor.Ev
noncomputable section
inductive vG3 where
 | start (l0 : (List ua2)) (t1_0 : Int) (t1_1 : Int) (t1_2 : ByteArray) (t1_3 : (List ua0)) (before2_0 : Int) (before2_1 : Int) (before2_2 : Int)
 | p31 (l0 : (List ua2)) (C0 : Int) (C1 : Int) (C2 : ByteArray) (C3 : (List ua0)) (D0 : Int) (D1 : Int) (D2 : Int) (G0 : Int) (G1 : Int) (G2 : Int)
 | p63 (l0 : (List ua2)) (C0 : Int) (C1 : Int) (C2 : ByteArray) (C3 : (List ua0)) (D0 : Int) (D1 : Int) (D2 : Int) (G0 : Int) (G1 : Int) (G2 : Int)
 | p127 (l0 : (List ua2)) (C0 : Int) (C1 : Int) (C2 : ByteArray) (C3 : (List ua0)) (D0 : Int) (D1 : Int) (D2 : Int) (G0 : Int) (G1 : Int) (G2 : Int)
 | p8180 (l0 : (List ua2)) (all8 : (List ua1)) (i9 : Int) (C0 : Int) (C1 : Int) (C2 : Int) (D0 : Int) (D1 : Int) (D2 : Int)
 | p523556 (l0 : (List ua2)) (all8 : (List ua1)) (i9 : Int) (k10 : Int) (C0 : Int) (C1 : Int) (C2 : Int) (D0 : Int) (D1 : Int) (D2 : Int)
def uI5 : vG3 → List Bool
 | .start .. => []
 | .p31 .. => [true, true, true, true]
 | .p63 .. => [true, true, true, true, true]
 | .p127 .. => [true, true, true, true, true, true]
 | .p8180 .. => [false, false, true, false, true, true, true, true, true, true, true, true]
 | .p523556 .. => [false, false, true, false, false, true, false, false, true, false, true, true, true, true, true, true, true, true]
def vV1 : vG3 → St E.S
 | .start l0 t1_0 t1_1 t1_2 t1_3 before2_0 before2_1 before2_2 => st0 113 [.sl 103 l0 false, .agg [.v (.int .i64 t1_0), .v (.int .i64 t1_1), .v (.string t1_2), .sl 25 t1_3 false], .agg [.v (.int .i64 before2_0), .v (.int .i64 before2_1), .v (.int .i64 before2_2)]] []
 | .p31 l0 C0 C1 C2 C3 D0 D1 D2 G0 G1 G2 => mkSt 113 [0, 4, 6, 7] [.sl 103 l0 false, .bp 0 0, .bp 1 0, .bp 2 0] [.var 25 [.v (.int .i64 C0), .v (.int .i64 C1), .v (.string C2), .sl 25 C3 false], .var 143 [.v (.int .i64 D0), .v (.int .i64 D1), .v (.int .i64 D2)], .var 143 [.v (.int .i64 G0), .v (.int .i64 G1), .v (.int .i64 G2)]]
 | .p63 l0 C0 C1 C2 C3 D0 D1 D2 G0 G1 G2 => mkSt 113 [0, 4, 6, 7] [.sl 103 l0 false, .bp 0 0, .bp 1 0, .bp 2 0] [.var 25 [.v (.int .i64 C0), .v (.int .i64 C1), .v (.string C2), .sl 25 C3 false], .var 143 [.v (.int .i64 D0), .v (.int .i64 D1), .v (.int .i64 D2)], .var 143 [.v (.int .i64 G0), .v (.int .i64 G1), .v (.int .i64 G2)]]
 | .p127 l0 C0 C1 C2 C3 D0 D1 D2 G0 G1 G2 => mkSt 113 [0, 4, 6, 7] [.sl 103 l0 false, .bp 0 0, .bp 1 0, .bp 2 0] [.var 25 [.v (.int .i64 C0), .v (.int .i64 C1), .v (.string C2), .sl 25 C3 false], .var 143 [.v (.int .i64 D0), .v (.int .i64 D1), .v (.int .i64 D2)], .var 143 [.v (.int .i64 G0), .v (.int .i64 G1), .v (.int .i64 G2)]]
 | .p8180 l0 all8 i9 C0 C1 C2 D0 D1 D2 => mkSt 113 [0, 6, 7, 8, 9] [.sl 103 l0 false, .bp 0 0, .bp 1 0, .sl 56 all8 false, .v (.int .i64 i9)] [.var 143 [.v (.int .i64 C0), .v (.int .i64 C1), .v (.int .i64 C2)], .var 143 [.v (.int .i64 D0), .v (.int .i64 D1), .v (.int .i64 D2)]]
 | .p523556 l0 all8 i9 k10 C0 C1 C2 D0 D1 D2 => mkSt 113 [0, 6, 7, 8, 9, 10] [.sl 103 l0 false, .bp 0 0, .bp 1 0, .sl 56 all8 false, .v (.int .i64 i9), .v (.int .i64 k10)] [.var 143 [.v (.int .i64 C0), .v (.int .i64 C1), .v (.int .i64 C2)], .var 143 [.v (.int .i64 D0), .v (.int .i64 D1), .v (.int .i64 D2)]]
abbrev vW0 : Type := (((Int × (Int × (Int × Unit))) × Unit) × Unit)
def uq4 : Res E ((Int × (Int × (Int × Unit))) × Unit) Unit := { rows := [], flat := [], keep := 0, done := [0], rl := (.cons (Rd.agg (.cons (Rd.int .i64) (.cons (Rd.int .i64) (.cons (Rd.int .i64) .nil)))) .nil), rb := .nil }
def uc4 : vG3 → Option vW0
 | .start l0 t1_0 t1_1 t1_2 t1_3 before2_0 before2_1 before2_2 =>
  (uT1 (.start t1_0 t1_1 t1_2 t1_3)) >>= fun t1 =>
  if (!t1.1.1) = true then
   some (((IntKind.wrap .i64 (before2_0 + (1 : Int)), ((8 : Int), (before2_2, ()))), ()), ())
  else
   if (t1_0 == (2 : Int)) = true then
    some (((IntKind.wrap .i64 (before2_0 + (1 : Int)), ((26 : Int), (before2_2, ()))), ()), ())
   else
    (uz5 (.start t1_0 t1_1 t1_2 t1_3)) >>= fun t2 =>
    if t2.1.1 = true then
     (idx t1_3 (0 : Int)) >>= fun t3 =>
     if (t3.Kind != (2 : Int)) = true then
      some (((IntKind.wrap .i64 (before2_0 + (1 : Int)), ((26 : Int), (before2_2, ()))), ()), ())
     else
      uc4 (.p31 l0 t1_0 t1_1 t1_2 t1_3 (0 : Int) (0 : Int) (0 : Int) (IntKind.wrap .i64 (before2_0 + (1 : Int))) (0 : Int) before2_2)
    else
     uc4 (.p31 l0 t1_0 t1_1 t1_2 t1_3 (0 : Int) (0 : Int) (0 : Int) (IntKind.wrap .i64 (before2_0 + (1 : Int))) (0 : Int) before2_2)
 | .p31 l0 C0 C1 C2 C3 D0 D1 D2 G0 G1 G2 =>
  (uz5 (.start C0 C1 C2 C3)) >>= fun t1 =>
  if t1.1.1 = true then
   (idx C3 (0 : Int)) >>= fun t2 =>
   (u33 (.start t2.Value)) >>= fun t3 =>
   if (!t3.1.1) = true then
    some (((G0, ((25 : Int), (G2, ()))), ()), ())
   else
    uc4 (.p63 l0 C0 C1 C2 C3 D0 D1 D2 G0 G1 G2)
  else
   uc4 (.p63 l0 C0 C1 C2 C3 D0 D1 D2 G0 G1 G2)
 | .p63 l0 C0 C1 C2 C3 D0 D1 D2 G0 G1 G2 =>
  if (decide (G0 > (200 : Int))) = true then
   some (((G0, ((8 : Int), (G2, ()))), ()), ())
  else
   if (decide (G2 ≥ (40 : Int))) = true then
    some (((G0, ((8 : Int), (G2, ()))), ()), ())
   else
    uc4 (.p127 l0 C0 C1 C2 C3 D0 D1 D2 G0 G1 G2)
 | .p127 l0 C0 C1 C2 C3 D0 D1 D2 G0 G1 G2 =>
  (uz5 (.start C0 C1 C2 C3)) >>= fun t1 =>
  if t1.1.1 = true then
   some (((G0, (G1, (G2, ()))), ()), ())
  else
   (ue7 (.start l0 C0 C1 C2 C3)) >>= fun t2 =>
   uc4 (.p8180 l0 t2.1.1 (0 : Int) D0 D1 D2 G0 G1 G2)
 | .p8180 l0 all8 i9 C0 C1 C2 D0 D1 D2 =>
  if (decide (i9 < (List.length all8 : Int))) = true then
   uc4 (.p523556 l0 all8 i9 (0 : Int) C0 C1 C2 D0 D1 D2)
  else
   some (((D0, (D1, (D2, ()))), ()), ())
 | .p523556 l0 all8 i9 k10 C0 C1 C2 D0 D1 D2 =>
  (idx all8 i9) >>= fun t1 =>
  if (decide (k10 < (List.length t1.Fields : Int))) = true then
   (idx all8 i9) >>= fun t2 =>
   (idx t2.Fields k10) >>= fun t3 =>
   (uc4 (.start l0 t3.Type_.Kind t3.Type_.Value t3.Type_.Name t3.Type_.Parts D0 (0 : Int) (IntKind.wrap .i64 (D2 + (1 : Int))))) >>= fun t4 =>
   if (t4.1.1.2.1 != (0 : Int)) = true then
    some (((t4.1.1.1, (t4.1.1.2.1, (D2, ()))), ()), ())
   else
    uc4 (.p523556 l0 all8 i9 (IntKind.wrap .i64 (k10 + (1 : Int))) C0 C1 C2 t4.1.1.1 t4.1.1.2.1 D2)
  else
   uc4 (.p8180 l0 all8 (IntKind.wrap .i64 (i9 + (1 : Int))) C0 C1 C2 D0 D1 D2)
 partial_fixpoint
def xv6 : List (Plc E vG3) := [⟨31, [true, true, true, true], { slots := [0, 4, 6, 7], rows := [], flat := [], keep := 0 }, _, _, (.cons (Rd.sl 103 false) (.cons (Rd.bp 0 0) (.cons (Rd.bp 1 0) (.cons (Rd.bp 2 0) .nil)))), (.cons (.var 25 (.cons (Rd.int .i64) (.cons (Rd.int .i64) (.cons Rd.str (.cons (Rd.sl 25 false) .nil))))) (.cons (.var 143 (.cons (Rd.int .i64) (.cons (Rd.int .i64) (.cons (Rd.int .i64) .nil)))) (.cons (.var 143 (.cons (Rd.int .i64) (.cons (Rd.int .i64) (.cons (Rd.int .i64) .nil)))) .nil))), fun a b => .p31 a.1 b.1.1 b.1.2.1 b.1.2.2.1 b.1.2.2.2.1 b.2.1.1 b.2.1.2.1 b.2.1.2.2.1 b.2.2.1.1 b.2.2.1.2.1 b.2.2.1.2.2.1⟩,
 ⟨63, [true, true, true, true, true], { slots := [0, 4, 6, 7], rows := [], flat := [], keep := 0 }, _, _, (.cons (Rd.sl 103 false) (.cons (Rd.bp 0 0) (.cons (Rd.bp 1 0) (.cons (Rd.bp 2 0) .nil)))), (.cons (.var 25 (.cons (Rd.int .i64) (.cons (Rd.int .i64) (.cons Rd.str (.cons (Rd.sl 25 false) .nil))))) (.cons (.var 143 (.cons (Rd.int .i64) (.cons (Rd.int .i64) (.cons (Rd.int .i64) .nil)))) (.cons (.var 143 (.cons (Rd.int .i64) (.cons (Rd.int .i64) (.cons (Rd.int .i64) .nil)))) .nil))), fun a b => .p63 a.1 b.1.1 b.1.2.1 b.1.2.2.1 b.1.2.2.2.1 b.2.1.1 b.2.1.2.1 b.2.1.2.2.1 b.2.2.1.1 b.2.2.1.2.1 b.2.2.1.2.2.1⟩,
 ⟨127, [true, true, true, true, true, true], { slots := [0, 4, 6, 7], rows := [], flat := [], keep := 0 }, _, _, (.cons (Rd.sl 103 false) (.cons (Rd.bp 0 0) (.cons (Rd.bp 1 0) (.cons (Rd.bp 2 0) .nil)))), (.cons (.var 25 (.cons (Rd.int .i64) (.cons (Rd.int .i64) (.cons Rd.str (.cons (Rd.sl 25 false) .nil))))) (.cons (.var 143 (.cons (Rd.int .i64) (.cons (Rd.int .i64) (.cons (Rd.int .i64) .nil)))) (.cons (.var 143 (.cons (Rd.int .i64) (.cons (Rd.int .i64) (.cons (Rd.int .i64) .nil)))) .nil))), fun a b => .p127 a.1 b.1.1 b.1.2.1 b.1.2.2.1 b.1.2.2.2.1 b.2.1.1 b.2.1.2.1 b.2.1.2.2.1 b.2.2.1.1 b.2.2.1.2.1 b.2.2.1.2.2.1⟩,
 ⟨8180, [false, false, true, false, true, true, true, true, true, true, true, true], { slots := [0, 6, 7, 8, 9], rows := [], flat := [], keep := 0 }, _, _, (.cons (Rd.sl 103 false) (.cons (Rd.bp 0 0) (.cons (Rd.bp 1 0) (.cons (Rd.sl 56 false) (.cons (Rd.int .i64) .nil))))), (.cons (.var 143 (.cons (Rd.int .i64) (.cons (Rd.int .i64) (.cons (Rd.int .i64) .nil)))) (.cons (.var 143 (.cons (Rd.int .i64) (.cons (Rd.int .i64) (.cons (Rd.int .i64) .nil)))) .nil)), fun a b => .p8180 a.1 a.2.2.2.1 a.2.2.2.2.1 b.1.1 b.1.2.1 b.1.2.2.1 b.2.1.1 b.2.1.2.1 b.2.1.2.2.1⟩,
 ⟨523556, [false, false, true, false, false, true, false, false, true, false, true, true, true, true, true, true, true, true], { slots := [0, 6, 7, 8, 9, 10], rows := [], flat := [], keep := 0 }, _, _, (.cons (Rd.sl 103 false) (.cons (Rd.bp 0 0) (.cons (Rd.bp 1 0) (.cons (Rd.sl 56 false) (.cons (Rd.int .i64) (.cons (Rd.int .i64) .nil)))))), (.cons (.var 143 (.cons (Rd.int .i64) (.cons (Rd.int .i64) (.cons (Rd.int .i64) .nil)))) (.cons (.var 143 (.cons (Rd.int .i64) (.cons (Rd.int .i64) (.cons (Rd.int .i64) .nil)))) .nil)), fun a b => .p523556 a.1 a.2.2.2.1 a.2.2.2.2.1 a.2.2.2.2.2.1 b.1.1 b.1.2.1 b.1.2.2.1 b.2.1.1 b.2.1.2.1 b.2.1.2.2.1⟩]
theorem w08 : All (ub8 113 0 uI5 vV1) xv6 := ⟨⟨rfl, rfl, fun _ _ => rfl, fun _ _ => rfl⟩, ⟨⟨rfl, rfl, fun _ _ => rfl, fun _ _ => rfl⟩, ⟨⟨rfl, rfl, fun _ _ => rfl, fun _ _ => rfl⟩, ⟨⟨rfl, rfl, fun _ _ => rfl, fun _ _ => rfl⟩, ⟨⟨rfl, rfl, fun _ _ => rfl, fun _ _ => rfl⟩, trivial⟩⟩⟩⟩⟩
def uL4 : Code := Tryz.f104.body.getD .skip
def xg1 (run' : vG3 → Option vW0) : Con E := ⟨104, ((List ua2) × ((Int × (Int × (ByteArray × ((List ua0) × Unit)))) × ((Int × (Int × (Int × Unit))) × Unit))), Unit, (RwL.cons (Rw.sl 103) (RwL.cons (Rw.agg (RwL.cons (Rd.int .i64).w (RwL.cons (Rd.int .i64).w (RwL.cons Rd.str.w (RwL.cons (Rw.sl 25) RwL.nil))))) (RwL.cons (Rw.agg (RwL.cons (Rd.int .i64).w (RwL.cons (Rd.int .i64).w (RwL.cons (Rd.int .i64).w RwL.nil)))) RwL.nil))), RdBL.nil, 0, vW0, fun a b => run' (.start a.1 a.2.1.1 a.2.1.2.1 a.2.1.2.2.1 a.2.1.2.2.2.1 a.2.2.1.1 a.2.2.1.2.1 a.2.2.1.2.2.1), uq4.av, uq4.bx⟩
theorem wQ0 {run' : vG3 → Option vW0} (ih : ∀ pt r, run' pt = some r → Good E Tryz.f104 uL4 0 (uq4.av r) (uq4.bx r) (uI5 pt) (vV1 pt)) : (xg1 run').Ok := fun a b r h => ub4 (fn := Tryz.f104) (code := uL4) E_ok (by kernel_rfl) (by kernel_rfl) (by kernel_rfl) (Nat.le_of_ble_eq_true rfl) (ih (.start a.1 a.2.1.1 a.2.1.2.1 a.2.1.2.2.1 a.2.1.2.2.2.1 a.2.2.1.1 a.2.2.1.2.1 a.2.2.1.2.2.1) r h)
def wA4 (run' : vG3 → Option vW0) : Spec E.S := (Con.add (xg1 run') (Con.add uP3 (Con.add vZ2 (Con.add va3 (Con.add vA6 ub1)))))
theorem wh2 {run' : vG3 → Option vW0} (ih : ∀ pt r, run' pt = some r → Good E Tryz.f104 uL4 0 (uq4.av r) (uq4.bx r) (uI5 pt) (vV1 pt)) : ub0 E (wA4 run') := (Con.add_ok (wQ0 ih) (Con.add_ok uu2 (Con.add_ok vs2 (Con.add_ok uL6 (Con.add_ok u01 ua7)))))
theorem xJ5 : ∀ pt r, uc4 pt = some r → Good E Tryz.f104 uL4 0 (uq4.av r) (uq4.bx r) (uI5 pt) (vV1 pt) := by
 refine uc4.partial_correctness (fun pt r => Good E Tryz.f104 uL4 0 (uq4.av r) (uq4.bx r) (uI5 pt) (vV1 pt)) ?_
 intro run' ih pt r hr
 cases pt <;> exact ua9 (spec := (wA4 run')) (wr := (mkWr [] [])) (l := xv6) (z := 113) (p := uq4) E_ok w08.mem rfl (wh2 ih) ih (Eq.trans (by kernel_rfl) hr)
def xa2 : Con E := ⟨104, _, _, (.cons (Rw.sl 103) (.cons (Rw.agg (.cons (Rd.int .i64).w (.cons (Rd.int .i64).w (.cons Rd.str.w (.cons (Rw.sl 25) .nil))))) (.cons (Rw.agg (.cons (Rd.int .i64).w (.cons (Rd.int .i64).w (.cons (Rd.int .i64).w .nil)))) .nil))), .nil, 0, vW0, fun a b => uc4 (.start a.1 a.2.1.1 a.2.1.2.1 a.2.1.2.2.1 a.2.1.2.2.2.1 a.2.2.1.1 a.2.2.1.2.1 a.2.2.1.2.2.1), uq4.av, uq4.bx⟩
theorem wM3 : xa2.Ok := fun a b r h => ub4 (fn := Tryz.f104) (code := uL4) E_ok (by kernel_rfl) (by kernel_rfl) (by kernel_rfl) (Nat.le_of_ble_eq_true rfl) (xJ5 (.start a.1 a.2.1.1 a.2.1.2.1 a.2.1.2.2.1 a.2.1.2.2.2.1 a.2.2.1.1 a.2.2.1.2.1 a.2.2.1.2.2.1) r h)
inductive xy8 where
 | start (n0 : Int)
def vP6 : xy8 → List Bool
 | .start .. => []
def xT7 : xy8 → St E.S
 | .start n0 => st0 5 [.v (.int .i64 n0)] []
abbrev x98 : Type := ((Int × Unit) × Unit)
def vj5 : Res E (Int × Unit) Unit := { rows := [], flat := [], keep := 0, done := [0], rl := (.cons (Rd.int .i64) .nil), rb := .nil }
def u34 : xy8 → Option x98
 | .start n0 =>
  if (decide ((0 : Int) ≤ n0)) = true then
   some ((shl .i64 (1 : Int) n0, ()), ())
  else none
def xv7 : List (Plc E xy8) := []
theorem w09 : All (ub8 5 0 vP6 xT7) xv7 := trivial
def wo0 : Code := Tryz.f18.body.getD .skip
def wA5 : Spec E.S := ub1
theorem wh3 : ub0 E wA5 := ua7
theorem xJ6 : ∀ pt r, u34 pt = some r → Good E Tryz.f18 wo0 0 (vj5.av r) (vj5.bx r) (vP6 pt) (xT7 pt) := by
 intro pt r hr
 cases pt <;> exact ua9 (spec := wA5) (wr := (mkWr [] [])) (l := xv7) (z := 5) (p := vj5) (run' := fun _ => none) E_ok w09.mem rfl wh3 (fun _ _ h => by cases h) (Eq.trans (by kernel_rfl) hr)
def vZ3 : Con E := ⟨18, _, _, (.cons (Rd.int .i64).w .nil), .nil, 0, x98, fun a b => u34 (.start a.1), vj5.av, vj5.bx⟩
theorem vs3 : vZ3.Ok := fun a b r h => ub4 (fn := Tryz.f18) (code := wo0) E_ok (by kernel_rfl) (by kernel_rfl) (by kernel_rfl) (Nat.le_of_ble_eq_true rfl) (xJ6 (.start a.1) r h)
inductive xy9 where
 | start (count0 : Int)
 | p56 (count0 : Int) (n3 : Int)
def vf3 : xy9 → List Bool
 | .start .. => []
 | .p56 .. => [false, false, false, true, true]
def xl7 : xy9 → St E.S
 | .start count0 => st0 11 [.v (.int .i64 count0)] []
 | .p56 count0 n3 => mkSt 11 [0, 3] [.v (.int .i64 count0), .v (.int .i64 n3)] []
abbrev x99 : Type := ((Int × Unit) × Unit)
def uS8 : Res E (Int × Unit) Unit := { rows := [], flat := [], keep := 0, done := [0], rl := (.cons (Rd.int .i64) .nil), rb := .nil }
def us9 : xy9 → Option x99
 | .start count0 =>
  us9 (.p56 count0 (0 : Int))
 | .p56 count0 n3 =>
  (u34 (.start n3)) >>= fun t1 =>
  if (decide (t1.1.1 < count0)) = true then
   us9 (.p56 count0 (IntKind.wrap .i64 (n3 + (1 : Int))))
  else
   some ((n3, ()), ())
 partial_fixpoint
def xv8 : List (Plc E xy9) := [⟨56, [false, false, false, true, true], { slots := [0, 3], rows := [], flat := [], keep := 0 }, _, _, (.cons (Rd.int .i64) (.cons (Rd.int .i64) .nil)), .nil, fun a b => .p56 a.1 a.2.1⟩]
theorem w10 : All (ub8 11 0 vf3 xl7) xv8 := ⟨⟨rfl, rfl, fun _ _ => rfl, fun _ _ => rfl⟩, trivial⟩
def vA1 : Code := Tryz.f46.body.getD .skip
def wA6 : Spec E.S := (Con.add vZ3 ub1)
theorem wh4 : ub0 E wA6 := (Con.add_ok vs3 ua7)
theorem xJ7 : ∀ pt r, us9 pt = some r → Good E Tryz.f46 vA1 0 (uS8.av r) (uS8.bx r) (vf3 pt) (xl7 pt) := by
 refine us9.partial_correctness (fun pt r => Good E Tryz.f46 vA1 0 (uS8.av r) (uS8.bx r) (vf3 pt) (xl7 pt)) ?_
 intro run' ih pt r hr
 cases pt <;> exact ua9 (spec := wA6) (wr := (mkWr [] [])) (l := xv8) (z := 11) (p := uS8) E_ok w10.mem rfl wh4 ih (Eq.trans (by kernel_rfl) hr)
def vZ4 : Con E := ⟨46, _, _, (.cons (Rd.int .i64).w .nil), .nil, 0, x99, fun a b => us9 (.start a.1), uS8.av, uS8.bx⟩
theorem vs4 : vZ4.Ok := fun a b r h => ub4 (fn := Tryz.f46) (code := vA1) E_ok (by kernel_rfl) (by kernel_rfl) (by kernel_rfl) (Nat.le_of_ble_eq_true rfl) (xJ7 (.start a.1) r h)
inductive vo5 where
 | start (l0 : (List ua2)) (c1_0 : ByteArray) (c1_1 : (List ua6))
 | p116 (l0 : (List ua2)) (n5 : Int) (i6 : Int) (C0 : ByteArray) (C1 : (List ua6))
def uw1 : vo5 → List Bool
 | .start .. => []
 | .p116 .. => [false, false, true, false, true, true]
def vm8 : vo5 → St E.S
 | .start l0 c1_0 c1_1 => st0 25 [.sl 103 l0 false, .agg [.v (.string c1_0), .sl 58 c1_1 false]] []
 | .p116 l0 n5 i6 C0 C1 => mkSt 25 [0, 3, 5, 6] [.sl 103 l0 false, .bp 0 0, .v (.int .i64 n5), .v (.int .i64 i6)] [.var 56 [.v (.string C0), .sl 58 C1 false]]
abbrev vw8 : Type := ((Int × Unit) × Unit)
def uk0 : Res E (Int × Unit) Unit := { rows := [], flat := [], keep := 0, done := [0], rl := (.cons (Rd.int .i64) .nil), rb := .nil }
inductive u38 where
 | start (l0 : (List ua2)) (t1_0 : Int) (t1_1 : Int) (t1_2 : ByteArray) (t1_3 : (List ua0))
def uu5 : u38 → List Bool
 | .start .. => []
def u35 : u38 → St E.S
 | .start l0 t1_0 t1_1 t1_2 t1_3 => st0 21 [.sl 103 l0 false, .agg [.v (.int .i64 t1_0), .v (.int .i64 t1_1), .v (.string t1_2), .sl 25 t1_3 false]] []
abbrev u87 : Type := ((Int × Unit) × Unit)
def uh7 : Res E (Int × Unit) Unit := { rows := [], flat := [], keep := 0, done := [0], rl := (.cons (Rd.int .i64) .nil), rb := .nil }
inductive uN8 where
 | start (l0 : (List ua2)) (t1_0 : Int) (t1_1 : Int) (t1_2 : ByteArray) (t1_3 : (List ua0))
 | p116 (l0 : (List ua2)) (all5 : (List ua1)) (most6 : Int) (i7 : Int)
def uo8 : uN8 → List Bool
 | .start .. => []
 | .p116 .. => [false, false, true, false, true, true]
def uT3 : uN8 → St E.S
 | .start l0 t1_0 t1_1 t1_2 t1_3 => st0 26 [.sl 103 l0 false, .agg [.v (.int .i64 t1_0), .v (.int .i64 t1_1), .v (.string t1_2), .sl 25 t1_3 false]] []
 | .p116 l0 all5 most6 i7 => mkSt 26 [0, 5, 6, 7] [.sl 103 l0 false, .sl 56 all5 false, .v (.int .i64 most6), .v (.int .i64 i7)] []
abbrev uT9 : Type := ((Int × Unit) × Unit)
def ug4 : Res E (Int × Unit) Unit := { rows := [], flat := [], keep := 0, done := [0], rl := (.cons (Rd.int .i64) .nil), rb := .nil }
mutual
def uo2 : vo5 → Option vw8
 | .start l0 c1_0 c1_1 =>
  uo2 (.p116 l0 (0 : Int) (0 : Int) c1_0 c1_1)
 | .p116 l0 n5 i6 C0 C1 =>
  if (decide (i6 < (List.length C1 : Int))) = true then
   (idx C1 i6) >>= fun t1 =>
   (run_z100 (.start l0 t1.Type_.Kind t1.Type_.Value t1.Type_.Name t1.Type_.Parts)) >>= fun t2 =>
   uo2 (.p116 l0 (IntKind.wrap .i64 (n5 + t2.1.1)) (IntKind.wrap .i64 (i6 + (1 : Int))) C0 C1)
  else
   some ((n5, ()), ())
 partial_fixpoint
def run_z100 : u38 → Option u87
 | .start l0 t1_0 t1_1 t1_2 t1_3 =>
  (uz5 (.start t1_0 t1_1 t1_2 t1_3)) >>= fun t1 =>
  if t1.1.1 = true then
   (idx t1_3 (0 : Int)) >>= fun t2 =>
   some ((t2.Value, ()), ())
  else
   (ue7 (.start l0 t1_0 t1_1 t1_2 t1_3)) >>= fun t3 =>
   (us9 (.start (List.length t3.1.1 : Int))) >>= fun t4 =>
   (run_z101 (.start l0 t1_0 t1_1 t1_2 t1_3)) >>= fun t5 =>
   some ((IntKind.wrap .i64 (t4.1.1 + t5.1.1), ()), ())
 partial_fixpoint
def run_z101 : uN8 → Option uT9
 | .start l0 t1_0 t1_1 t1_2 t1_3 =>
  (ue7 (.start l0 t1_0 t1_1 t1_2 t1_3)) >>= fun t1 =>
  run_z101 (.p116 l0 t1.1.1 (0 : Int) (0 : Int))
 | .p116 l0 all5 most6 i7 =>
  if (decide (i7 < (List.length all5 : Int))) = true then
   (idx all5 i7) >>= fun t1 =>
   (uo2 (.start l0 t1.Name t1.Fields)) >>= fun t2 =>
   run_z101 (.p116 l0 all5 (if t2.1.1 > most6 then t2.1.1 else most6) (IntKind.wrap .i64 (i7 + (1 : Int))))
  else
   some ((most6, ()), ())
 partial_fixpoint
end
def xv9 : List (Plc E vo5) := [⟨116, [false, false, true, false, true, true], { slots := [0, 3, 5, 6], rows := [], flat := [], keep := 0 }, _, _, (.cons (Rd.sl 103 false) (.cons (Rd.bp 0 0) (.cons (Rd.int .i64) (.cons (Rd.int .i64) .nil)))), (.cons (.var 56 (.cons Rd.str (.cons (Rd.sl 58 false) .nil))) .nil), fun a b => .p116 a.1 a.2.2.1 a.2.2.2.1 b.1.1 b.1.2.1⟩]
theorem w11 : All (ub8 25 0 uw1 vm8) xv9 := ⟨⟨rfl, rfl, fun _ _ => rfl, fun _ _ => rfl⟩, trivial⟩
def uy1 : Code := Tryz.f87.body.getD .skip
def v24 (run' : vo5 → Option vw8) : Con E := ⟨87, ((List ua2) × ((ByteArray × ((List ua6) × Unit)) × Unit)), Unit, (RwL.cons (Rw.sl 103) (RwL.cons (Rw.agg (RwL.cons Rd.str.w (RwL.cons (Rw.sl 58) RwL.nil))) RwL.nil)), RdBL.nil, 0, vw8, fun a b => run' (.start a.1 a.2.1.1 a.2.1.2.1), uk0.av, uk0.bx⟩
theorem vu9 {run' : vo5 → Option vw8} (ih : ∀ pt r, run' pt = some r → Good E Tryz.f87 uy1 0 (uk0.av r) (uk0.bx r) (uw1 pt) (vm8 pt)) : (v24 run').Ok := fun a b r h => ub4 (fn := Tryz.f87) (code := uy1) E_ok (by kernel_rfl) (by kernel_rfl) (by kernel_rfl) (Nat.le_of_ble_eq_true rfl) (ih (.start a.1 a.2.1.1 a.2.1.2.1) r h)
def wB0 : List (Plc E u38) := []
theorem wh9 : All (ub8 21 0 uu5 u35) wB0 := trivial
def uu8 : Code := Tryz.f13.body.getD .skip
def wq9 (run' : u38 → Option u87) : Con E := ⟨13, ((List ua2) × ((Int × (Int × (ByteArray × ((List ua0) × Unit)))) × Unit)), Unit, (RwL.cons (Rw.sl 103) (RwL.cons (Rw.agg (RwL.cons (Rd.int .i64).w (RwL.cons (Rd.int .i64).w (RwL.cons Rd.str.w (RwL.cons (Rw.sl 25) RwL.nil))))) RwL.nil)), RdBL.nil, 0, u87, fun a b => run' (.start a.1 a.2.1.1 a.2.1.2.1 a.2.1.2.2.1 a.2.1.2.2.2.1), uh7.av, uh7.bx⟩
theorem v11 {run' : u38 → Option u87} (ih : ∀ pt r, run' pt = some r → Good E Tryz.f13 uu8 0 (uh7.av r) (uh7.bx r) (uu5 pt) (u35 pt)) : (wq9 run').Ok := fun a b r h => ub4 (fn := Tryz.f13) (code := uu8) E_ok (by kernel_rfl) (by kernel_rfl) (by kernel_rfl) (Nat.le_of_ble_eq_true rfl) (ih (.start a.1 a.2.1.1 a.2.1.2.1 a.2.1.2.2.1 a.2.1.2.2.2.1) r h)
def wB1 : List (Plc E uN8) := [⟨116, [false, false, true, false, true, true], { slots := [0, 5, 6, 7], rows := [], flat := [], keep := 0 }, _, _, (.cons (Rd.sl 103 false) (.cons (Rd.sl 56 false) (.cons (Rd.int .i64) (.cons (Rd.int .i64) .nil)))), .nil, fun a b => .p116 a.1 a.2.1 a.2.2.1 a.2.2.2.1⟩]
theorem wi0 : All (ub8 26 0 uo8 uT3) wB1 := ⟨⟨rfl, rfl, fun _ _ => rfl, fun _ _ => rfl⟩, trivial⟩
def ur4 : Code := Tryz.f45.body.getD .skip
def vC8 (run' : uN8 → Option uT9) : Con E := ⟨45, ((List ua2) × ((Int × (Int × (ByteArray × ((List ua0) × Unit)))) × Unit)), Unit, (RwL.cons (Rw.sl 103) (RwL.cons (Rw.agg (RwL.cons (Rd.int .i64).w (RwL.cons (Rd.int .i64).w (RwL.cons Rd.str.w (RwL.cons (Rw.sl 25) RwL.nil))))) RwL.nil)), RdBL.nil, 0, uT9, fun a b => run' (.start a.1 a.2.1.1 a.2.1.2.1 a.2.1.2.2.1 a.2.1.2.2.2.1), ug4.av, ug4.bx⟩
theorem vf5 {run' : uN8 → Option uT9} (ih : ∀ pt r, run' pt = some r → Good E Tryz.f45 ur4 0 (ug4.av r) (ug4.bx r) (uo8 pt) (uT3 pt)) : (vC8 run').Ok := fun a b r h => ub4 (fn := Tryz.f45) (code := ur4) E_ok (by kernel_rfl) (by kernel_rfl) (by kernel_rfl) (Nat.le_of_ble_eq_true rfl) (ih (.start a.1 a.2.1.1 a.2.1.2.1 a.2.1.2.2.1 a.2.1.2.2.2.1) r h)
def wA7 (r_z99 : vo5 → Option vw8) (r_z100 : u38 → Option u87) : Spec E.S := (Con.add (wq9 r_z100) (Con.add (v24 r_z99) ub1))
theorem wh5 {r_z99 : vo5 → Option vw8} (h_z99 : ∀ pt r, r_z99 pt = some r → Good E Tryz.f87 uy1 0 (uk0.av r) (uk0.bx r) (uw1 pt) (vm8 pt)) {r_z100 : u38 → Option u87} (h_z100 : ∀ pt r, r_z100 pt = some r → Good E Tryz.f13 uu8 0 (uh7.av r) (uh7.bx r) (uu5 pt) (u35 pt)) : ub0 E (wA7 r_z99 r_z100) := (Con.add_ok (v11 h_z100) (Con.add_ok (vu9 h_z99) ua7))
def vS0 (r_z101 : uN8 → Option uT9) : Spec E.S := (Con.add (vC8 r_z101) (Con.add vZ4 (Con.add uP3 (Con.add va3 ub1))))
theorem vS1 {r_z101 : uN8 → Option uT9} (h_z101 : ∀ pt r, r_z101 pt = some r → Good E Tryz.f45 ur4 0 (ug4.av r) (ug4.bx r) (uo8 pt) (uT3 pt)) : ub0 E (vS0 r_z101) := (Con.add_ok (vf5 h_z101) (Con.add_ok vs4 (Con.add_ok uu2 (Con.add_ok uL6 ua7))))
def vS2 (r_z99 : vo5 → Option vw8) (r_z101 : uN8 → Option uT9) : Spec E.S := (Con.add (vC8 r_z101) (Con.add (v24 r_z99) (Con.add uP3 ub1)))
theorem vS3 {r_z99 : vo5 → Option vw8} (h_z99 : ∀ pt r, r_z99 pt = some r → Good E Tryz.f87 uy1 0 (uk0.av r) (uk0.bx r) (uw1 pt) (vm8 pt)) {r_z101 : uN8 → Option uT9} (h_z101 : ∀ pt r, r_z101 pt = some r → Good E Tryz.f45 ur4 0 (ug4.av r) (ug4.bx r) (uo8 pt) (uT3 pt)) : ub0 E (vS2 r_z99 r_z101) := (Con.add_ok (vf5 h_z101) (Con.add_ok (vu9 h_z99) (Con.add_ok uu2 ua7)))
theorem vb5 : (∀ pt r, uo2 pt = some r → Good E Tryz.f87 uy1 0 (uk0.av r) (uk0.bx r) (uw1 pt) (vm8 pt)) ∧ (∀ pt r, run_z100 pt = some r → Good E Tryz.f13 uu8 0 (uh7.av r) (uh7.bx r) (uu5 pt) (u35 pt)) ∧ (∀ pt r, run_z101 pt = some r → Good E Tryz.f45 ur4 0 (ug4.av r) (ug4.bx r) (uo8 pt) (uT3 pt)) := by
  refine uo2.mutual_partial_correctness (fun pt r => Good E Tryz.f87 uy1 0 (uk0.av r) (uk0.bx r) (uw1 pt) (vm8 pt)) (fun pt r => Good E Tryz.f13 uu8 0 (uh7.av r) (uh7.bx r) (uu5 pt) (u35 pt)) (fun pt r => Good E Tryz.f45 ur4 0 (ug4.av r) (ug4.bx r) (uo8 pt) (uT3 pt)) ?_ ?_ ?_
  · intro r_z99 r_z100 h_z99 h_z100 pt r hr
    cases pt <;> exact ua9 (spec := (wA7 r_z99 r_z100)) (wr := (mkWr [] [])) (l := xv9) (z := 25) (p := uk0) E_ok w11.mem rfl (wh5 h_z99 h_z100) h_z99 (Eq.trans (by kernel_rfl) hr)
  · intro r_z101 h_z101 pt r hr
    cases pt <;> exact ua9 (spec := (vS0 r_z101)) (wr := (mkWr [] [])) (l := wB0) (z := 21) (p := uh7) (run' := fun _ => none) E_ok wh9.mem rfl (vS1 h_z101) (fun _ _ h => by cases h) (Eq.trans (by kernel_rfl) hr)
  · intro r_z99 r_z101 h_z99 h_z101 pt r hr
    cases pt <;> exact ua9 (spec := (vS2 r_z99 r_z101)) (wr := (mkWr [] [])) (l := wB1) (z := 26) (p := ug4) E_ok wi0.mem rfl (vS3 h_z99 h_z101) h_z101 (Eq.trans (by kernel_rfl) hr)
theorem xJ8 : ∀ pt r, uo2 pt = some r → Good E Tryz.f87 uy1 0 (uk0.av r) (uk0.bx r) (uw1 pt) (vm8 pt) := vb5.1
theorem xb5 : ∀ pt r, run_z100 pt = some r → Good E Tryz.f13 uu8 0 (uh7.av r) (uh7.bx r) (uu5 pt) (u35 pt) := vb5.2.1
theorem xb6 : ∀ pt r, run_z101 pt = some r → Good E Tryz.f45 ur4 0 (ug4.av r) (ug4.bx r) (uo8 pt) (uT3 pt) := vb5.2.2
def xa3 : Con E := ⟨87, _, _, (.cons (Rw.sl 103) (.cons (Rw.agg (.cons Rd.str.w (.cons (Rw.sl 58) .nil))) .nil)), .nil, 0, vw8, fun a b => uo2 (.start a.1 a.2.1.1 a.2.1.2.1), uk0.av, uk0.bx⟩
theorem wM4 : xa3.Ok := fun a b r h => ub4 (fn := Tryz.f87) (code := uy1) E_ok (by kernel_rfl) (by kernel_rfl) (by kernel_rfl) (Nat.le_of_ble_eq_true rfl) (xJ8 (.start a.1 a.2.1.1 a.2.1.2.1) r h)
def u59 : Con E := ⟨13, _, _, (.cons (Rw.sl 103) (.cons (Rw.agg (.cons (Rd.int .i64).w (.cons (Rd.int .i64).w (.cons Rd.str.w (.cons (Rw.sl 25) .nil))))) .nil)), .nil, 0, u87, fun a b => run_z100 (.start a.1 a.2.1.1 a.2.1.2.1 a.2.1.2.2.1 a.2.1.2.2.2.1), uh7.av, uh7.bx⟩
theorem uP1 : u59.Ok := fun a b r h => ub4 (fn := Tryz.f13) (code := uu8) E_ok (by kernel_rfl) (by kernel_rfl) (by kernel_rfl) (Nat.le_of_ble_eq_true rfl) (xb5 (.start a.1 a.2.1.1 a.2.1.2.1 a.2.1.2.2.1 a.2.1.2.2.2.1) r h)
def wo1 : Con E := ⟨45, _, _, (.cons (Rw.sl 103) (.cons (Rw.agg (.cons (Rd.int .i64).w (.cons (Rd.int .i64).w (.cons Rd.str.w (.cons (Rw.sl 25) .nil))))) .nil)), .nil, 0, uT9, fun a b => run_z101 (.start a.1 a.2.1.1 a.2.1.2.1 a.2.1.2.2.1 a.2.1.2.2.2.1), ug4.av, ug4.bx⟩
theorem vX1 : wo1.Ok := fun a b r h => ub4 (fn := Tryz.f45) (code := ur4) E_ok (by kernel_rfl) (by kernel_rfl) (by kernel_rfl) (Nat.le_of_ble_eq_true rfl) (xb6 (.start a.1 a.2.1.1 a.2.1.2.1 a.2.1.2.2.1 a.2.1.2.2.2.1) r h)
inductive wj1 where
 | start (l0 : (List ua2)) (t1_0 : Int) (t1_1 : Int) (t1_2 : ByteArray) (t1_3 : (List ua0))
def vt8 : wj1 → List Bool
 | .start .. => []
def xj1 : wj1 → St E.S
 | .start l0 t1_0 t1_1 t1_2 t1_3 => st0 27 [.sl 103 l0 false, .agg [.v (.int .i64 t1_0), .v (.int .i64 t1_1), .v (.string t1_2), .sl 25 t1_3 false]] []
abbrev xN7 : Type := ((Int × Unit) × Unit)
def uW2 : Res E (Int × Unit) Unit := { rows := [], flat := [], keep := 0, done := [0], rl := (.cons (Rd.int .i64) .nil), rb := .nil }
def u78 : wj1 → Option xN7
 | .start l0 t1_0 t1_1 t1_2 t1_3 =>
  (u32 (.start l0 ([]) t1_0 t1_1 t1_2 t1_3)) >>= fun t1 =>
  if (t1.1.1 != (0 : Int)) = true then
   some ((t1.1.1, ()), ())
  else
   (uc4 (.start l0 t1_0 t1_1 t1_2 t1_3 (0 : Int) (0 : Int) (0 : Int))) >>= fun t2 =>
   if (t2.1.1.2.1 != (0 : Int)) = true then
    some ((t2.1.1.2.1, ()), ())
   else
    (run_z100 (.start l0 t1_0 t1_1 t1_2 t1_3)) >>= fun t3 =>
    (u33 (.start t3.1.1)) >>= fun t4 =>
    if (!t4.1.1) = true then
     some (((25 : Int), ()), ())
    else
     some (((0 : Int), ()), ())
def wB2 : List (Plc E wj1) := []
theorem wi1 : All (ub8 27 0 vt8 xj1) wB2 := trivial
def vJ1 : Code := Tryz.f63.body.getD .skip
def vS4 : Spec E.S := (Con.add vZ2 (Con.add u59 (Con.add xa2 (Con.add vZ1 ub1))))
theorem vS5 : ub0 E vS4 := (Con.add_ok vs2 (Con.add_ok uP1 (Con.add_ok wM3 (Con.add_ok vs1 ua7))))
theorem xb7 : ∀ pt r, u78 pt = some r → Good E Tryz.f63 vJ1 0 (uW2.av r) (uW2.bx r) (vt8 pt) (xj1 pt) := by
 intro pt r hr
 cases pt <;> exact ua9 (spec := vS4) (wr := (mkWr [] [])) (l := wB2) (z := 27) (p := uW2) (run' := fun _ => none) E_ok wi1.mem rfl vS5 (fun _ _ h => by cases h) (Eq.trans (by kernel_rfl) hr)
def wo2 : Con E := ⟨63, _, _, (.cons (Rw.sl 103) (.cons (Rw.agg (.cons (Rd.int .i64).w (.cons (Rd.int .i64).w (.cons Rd.str.w (.cons (Rw.sl 25) .nil))))) .nil)), .nil, 0, xN7, fun a b => u78 (.start a.1 a.2.1.1 a.2.1.2.1 a.2.1.2.2.1 a.2.1.2.2.2.1), uW2.av, uW2.bx⟩
theorem vX2 : wo2.Ok := fun a b r h => ub4 (fn := Tryz.f63) (code := vJ1) E_ok (by kernel_rfl) (by kernel_rfl) (by kernel_rfl) (Nat.le_of_ble_eq_true rfl) (xb7 (.start a.1 a.2.1.1 a.2.1.2.1 a.2.1.2.2.1 a.2.1.2.2.2.1) r h)
inductive wj2 where
 | start (l0 : (List ua2)) (t1_0 : Int) (t1_1 : Int) (t1_2 : ByteArray) (t1_3 : (List ua0))
def vt9 : wj2 → List Bool
 | .start .. => []
def xj2 : wj2 → St E.S
 | .start l0 t1_0 t1_1 t1_2 t1_3 => st0 14 [.sl 103 l0 false, .agg [.v (.int .i64 t1_0), .v (.int .i64 t1_1), .v (.string t1_2), .sl 25 t1_3 false]] []
abbrev xN8 : Type := ((Int × Unit) × Unit)
def uW3 : Res E (Int × Unit) Unit := { rows := [], flat := [], keep := 0, done := [0], rl := (.cons (Rd.int .i64) .nil), rb := .nil }
def uX5 : wj2 → Option xN8
 | .start l0 t1_0 t1_1 t1_2 t1_3 =>
  (vE9 (.start l0)) >>= fun t1 =>
  if (t1.1.1 != (0 : Int)) = true then
   some ((t1.1.1, ()), ())
  else
   (u78 (.start l0 t1_0 t1_1 t1_2 t1_3)) >>= fun t2 =>
   some ((t2.1.1, ()), ())
def wB3 : List (Plc E wj2) := []
theorem wi2 : All (ub8 14 0 vt9 xj2) wB3 := trivial
def vJ2 : Code := Tryz.f12.body.getD .skip
def vS6 : Spec E.S := (Con.add wo2 (Con.add xa0 ub1))
theorem vS7 : ub0 E vS6 := (Con.add_ok vX2 (Con.add_ok wM1 ua7))
theorem xb8 : ∀ pt r, uX5 pt = some r → Good E Tryz.f12 vJ2 0 (uW3.av r) (uW3.bx r) (vt9 pt) (xj2 pt) := by
 intro pt r hr
 cases pt <;> exact ua9 (spec := vS6) (wr := (mkWr [] [])) (l := wB3) (z := 14) (p := uW3) (run' := fun _ => none) E_ok wi2.mem rfl vS7 (fun _ _ h => by cases h) (Eq.trans (by kernel_rfl) hr)
def wo3 : Con E := ⟨12, _, _, (.cons (Rw.sl 103) (.cons (Rw.agg (.cons (Rd.int .i64).w (.cons (Rd.int .i64).w (.cons Rd.str.w (.cons (Rw.sl 25) .nil))))) .nil)), .nil, 0, xN8, fun a b => uX5 (.start a.1 a.2.1.1 a.2.1.2.1 a.2.1.2.2.1 a.2.1.2.2.2.1), uW3.av, uW3.bx⟩
theorem vX3 : wo3.Ok := fun a b r h => ub4 (fn := Tryz.f12) (code := vJ2) E_ok (by kernel_rfl) (by kernel_rfl) (by kernel_rfl) (Nat.le_of_ble_eq_true rfl) (xb8 (.start a.1 a.2.1.1 a.2.1.2.1 a.2.1.2.2.1 a.2.1.2.2.2.1) r h)
inductive uN9 where
 | start (l0 : (List ua2)) (c1_0 : ByteArray) (c1_1 : (List ua6))
 | p116 (l0 : (List ua2)) (n5 : Int) (i6 : Int) (C0 : ByteArray) (C1 : (List ua6))
def uo9 : uN9 → List Bool
 | .start .. => []
 | .p116 .. => [false, false, true, false, true, true]
def uT4 : uN9 → St E.S
 | .start l0 c1_0 c1_1 => st0 25 [.sl 103 l0 false, .agg [.v (.string c1_0), .sl 58 c1_1 false]] []
 | .p116 l0 n5 i6 C0 C1 => mkSt 25 [0, 3, 5, 6] [.sl 103 l0 false, .bp 0 0, .v (.int .i64 n5), .v (.int .i64 i6)] [.var 56 [.v (.string C0), .sl 58 C1 false]]
abbrev uU0 : Type := ((Int × Unit) × Unit)
def ug5 : Res E (Int × Unit) Unit := { rows := [], flat := [], keep := 0, done := [0], rl := (.cons (Rd.int .i64) .nil), rb := .nil }
inductive uO0 where
 | start (l0 : (List ua2)) (t1_0 : Int) (t1_1 : Int) (t1_2 : ByteArray) (t1_3 : (List ua0))
 | p244 (l0 : (List ua2)) (all5 : (List ua1)) (sum6 : Int) (i7 : Int)
def up0 : uO0 → List Bool
 | .start .. => []
 | .p244 .. => [false, false, true, false, true, true, true]
def uT5 : uO0 → St E.S
 | .start l0 t1_0 t1_1 t1_2 t1_3 => st0 34 [.sl 103 l0 false, .agg [.v (.int .i64 t1_0), .v (.int .i64 t1_1), .v (.string t1_2), .sl 25 t1_3 false]] []
 | .p244 l0 all5 sum6 i7 => mkSt 34 [0, 5, 6, 7] [.sl 103 l0 false, .sl 56 all5 false, .v (.int .i64 sum6), .v (.int .i64 i7)] []
abbrev uU1 : Type := ((Int × Unit) × Unit)
def ug6 : Res E (Int × Unit) Unit := { rows := [], flat := [], keep := 0, done := [0], rl := (.cons (Rd.int .i64) .nil), rb := .nil }
mutual
def uk7 : uN9 → Option uU0
 | .start l0 c1_0 c1_1 =>
  uk7 (.p116 l0 (1 : Int) (0 : Int) c1_0 c1_1)
 | .p116 l0 n5 i6 C0 C1 =>
  if (decide (i6 < (List.length C1 : Int))) = true then
   (idx C1 i6) >>= fun t1 =>
   (run_z105 (.start l0 t1.Type_.Kind t1.Type_.Value t1.Type_.Name t1.Type_.Parts)) >>= fun t2 =>
   uk7 (.p116 l0 (IntKind.wrap .i64 (n5 * t2.1.1)) (IntKind.wrap .i64 (i6 + (1 : Int))) C0 C1)
  else
   some ((n5, ()), ())
 partial_fixpoint
def run_z105 : uO0 → Option uU1
 | .start l0 t1_0 t1_1 t1_2 t1_3 =>
  (uz5 (.start t1_0 t1_1 t1_2 t1_3)) >>= fun t1 =>
  if t1.1.1 = true then
   (idx t1_3 (0 : Int)) >>= fun t2 =>
   (u34 (.start t2.Value)) >>= fun t3 =>
   some ((t3.1.1, ()), ())
  else
   (ue7 (.start l0 t1_0 t1_1 t1_2 t1_3)) >>= fun t4 =>
   run_z105 (.p244 l0 t4.1.1 (0 : Int) (0 : Int))
 | .p244 l0 all5 sum6 i7 =>
  if (decide (i7 < (List.length all5 : Int))) = true then
   (idx all5 i7) >>= fun t1 =>
   (uk7 (.start l0 t1.Name t1.Fields)) >>= fun t2 =>
   run_z105 (.p244 l0 all5 (IntKind.wrap .i64 (sum6 + t2.1.1)) (IntKind.wrap .i64 (i7 + (1 : Int))))
  else
   some ((sum6, ()), ())
 partial_fixpoint
end
def wB4 : List (Plc E uN9) := [⟨116, [false, false, true, false, true, true], { slots := [0, 3, 5, 6], rows := [], flat := [], keep := 0 }, _, _, (.cons (Rd.sl 103 false) (.cons (Rd.bp 0 0) (.cons (Rd.int .i64) (.cons (Rd.int .i64) .nil)))), (.cons (.var 56 (.cons Rd.str (.cons (Rd.sl 58 false) .nil))) .nil), fun a b => .p116 a.1 a.2.2.1 a.2.2.2.1 b.1.1 b.1.2.1⟩]
theorem wi3 : All (ub8 25 0 uo9 uT4) wB4 := ⟨⟨rfl, rfl, fun _ _ => rfl, fun _ _ => rfl⟩, trivial⟩
def ur5 : Code := Tryz.f86.body.getD .skip
def vC9 (run' : uN9 → Option uU0) : Con E := ⟨86, ((List ua2) × ((ByteArray × ((List ua6) × Unit)) × Unit)), Unit, (RwL.cons (Rw.sl 103) (RwL.cons (Rw.agg (RwL.cons Rd.str.w (RwL.cons (Rw.sl 58) RwL.nil))) RwL.nil)), RdBL.nil, 0, uU0, fun a b => run' (.start a.1 a.2.1.1 a.2.1.2.1), ug5.av, ug5.bx⟩
theorem vf6 {run' : uN9 → Option uU0} (ih : ∀ pt r, run' pt = some r → Good E Tryz.f86 ur5 0 (ug5.av r) (ug5.bx r) (uo9 pt) (uT4 pt)) : (vC9 run').Ok := fun a b r h => ub4 (fn := Tryz.f86) (code := ur5) E_ok (by kernel_rfl) (by kernel_rfl) (by kernel_rfl) (Nat.le_of_ble_eq_true rfl) (ih (.start a.1 a.2.1.1 a.2.1.2.1) r h)
def wB5 : List (Plc E uO0) := [⟨244, [false, false, true, false, true, true, true], { slots := [0, 5, 6, 7], rows := [], flat := [], keep := 0 }, _, _, (.cons (Rd.sl 103 false) (.cons (Rd.sl 56 false) (.cons (Rd.int .i64) (.cons (Rd.int .i64) .nil)))), .nil, fun a b => .p244 a.1 a.2.1 a.2.2.1 a.2.2.2.1⟩]
theorem wi4 : All (ub8 34 0 up0 uT5) wB5 := ⟨⟨rfl, rfl, fun _ _ => rfl, fun _ _ => rfl⟩, trivial⟩
def ur6 : Code := Tryz.f38.body.getD .skip
def vD0 (run' : uO0 → Option uU1) : Con E := ⟨38, ((List ua2) × ((Int × (Int × (ByteArray × ((List ua0) × Unit)))) × Unit)), Unit, (RwL.cons (Rw.sl 103) (RwL.cons (Rw.agg (RwL.cons (Rd.int .i64).w (RwL.cons (Rd.int .i64).w (RwL.cons Rd.str.w (RwL.cons (Rw.sl 25) RwL.nil))))) RwL.nil)), RdBL.nil, 0, uU1, fun a b => run' (.start a.1 a.2.1.1 a.2.1.2.1 a.2.1.2.2.1 a.2.1.2.2.2.1), ug6.av, ug6.bx⟩
theorem vf7 {run' : uO0 → Option uU1} (ih : ∀ pt r, run' pt = some r → Good E Tryz.f38 ur6 0 (ug6.av r) (ug6.bx r) (up0 pt) (uT5 pt)) : (vD0 run').Ok := fun a b r h => ub4 (fn := Tryz.f38) (code := ur6) E_ok (by kernel_rfl) (by kernel_rfl) (by kernel_rfl) (Nat.le_of_ble_eq_true rfl) (ih (.start a.1 a.2.1.1 a.2.1.2.1 a.2.1.2.2.1 a.2.1.2.2.2.1) r h)
def vS8 (r_z104 : uN9 → Option uU0) (r_z105 : uO0 → Option uU1) : Spec E.S := (Con.add (vD0 r_z105) (Con.add (vC9 r_z104) ub1))
theorem vS9 {r_z104 : uN9 → Option uU0} (h_z104 : ∀ pt r, r_z104 pt = some r → Good E Tryz.f86 ur5 0 (ug5.av r) (ug5.bx r) (uo9 pt) (uT4 pt)) {r_z105 : uO0 → Option uU1} (h_z105 : ∀ pt r, r_z105 pt = some r → Good E Tryz.f38 ur6 0 (ug6.av r) (ug6.bx r) (up0 pt) (uT5 pt)) : ub0 E (vS8 r_z104 r_z105) := (Con.add_ok (vf7 h_z105) (Con.add_ok (vf6 h_z104) ua7))
def vT0 (r_z104 : uN9 → Option uU0) (r_z105 : uO0 → Option uU1) : Spec E.S := (Con.add (vD0 r_z105) (Con.add (vC9 r_z104) (Con.add uP3 (Con.add vZ3 (Con.add va3 ub1)))))
theorem vT1 {r_z104 : uN9 → Option uU0} (h_z104 : ∀ pt r, r_z104 pt = some r → Good E Tryz.f86 ur5 0 (ug5.av r) (ug5.bx r) (uo9 pt) (uT4 pt)) {r_z105 : uO0 → Option uU1} (h_z105 : ∀ pt r, r_z105 pt = some r → Good E Tryz.f38 ur6 0 (ug6.av r) (ug6.bx r) (up0 pt) (uT5 pt)) : ub0 E (vT0 r_z104 r_z105) := (Con.add_ok (vf7 h_z105) (Con.add_ok (vf6 h_z104) (Con.add_ok uu2 (Con.add_ok vs3 (Con.add_ok uL6 ua7)))))
theorem vt0 : (∀ pt r, uk7 pt = some r → Good E Tryz.f86 ur5 0 (ug5.av r) (ug5.bx r) (uo9 pt) (uT4 pt)) ∧ (∀ pt r, run_z105 pt = some r → Good E Tryz.f38 ur6 0 (ug6.av r) (ug6.bx r) (up0 pt) (uT5 pt)) := by
  refine uk7.mutual_partial_correctness (fun pt r => Good E Tryz.f86 ur5 0 (ug5.av r) (ug5.bx r) (uo9 pt) (uT4 pt)) (fun pt r => Good E Tryz.f38 ur6 0 (ug6.av r) (ug6.bx r) (up0 pt) (uT5 pt)) ?_ ?_
  · intro r_z104 r_z105 h_z104 h_z105 pt r hr
    cases pt <;> exact ua9 (spec := (vS8 r_z104 r_z105)) (wr := (mkWr [] [])) (l := wB4) (z := 25) (p := ug5) E_ok wi3.mem rfl (vS9 h_z104 h_z105) h_z104 (Eq.trans (by kernel_rfl) hr)
  · intro r_z104 r_z105 h_z104 h_z105 pt r hr
    cases pt <;> exact ua9 (spec := (vT0 r_z104 r_z105)) (wr := (mkWr [] [])) (l := wB5) (z := 34) (p := ug6) E_ok wi4.mem rfl (vT1 h_z104 h_z105) h_z105 (Eq.trans (by kernel_rfl) hr)
theorem xb9 : ∀ pt r, uk7 pt = some r → Good E Tryz.f86 ur5 0 (ug5.av r) (ug5.bx r) (uo9 pt) (uT4 pt) := vt0.1
theorem xc0 : ∀ pt r, run_z105 pt = some r → Good E Tryz.f38 ur6 0 (ug6.av r) (ug6.bx r) (up0 pt) (uT5 pt) := vt0.2
def xz9 : Con E := ⟨86, _, _, (.cons (Rw.sl 103) (.cons (Rw.agg (.cons Rd.str.w (.cons (Rw.sl 58) .nil))) .nil)), .nil, 0, uU0, fun a b => uk7 (.start a.1 a.2.1.1 a.2.1.2.1), ug5.av, ug5.bx⟩
theorem xZ5 : xz9.Ok := fun a b r h => ub4 (fn := Tryz.f86) (code := ur5) E_ok (by kernel_rfl) (by kernel_rfl) (by kernel_rfl) (Nat.le_of_ble_eq_true rfl) (xb9 (.start a.1 a.2.1.1 a.2.1.2.1) r h)
def wo4 : Con E := ⟨38, _, _, (.cons (Rw.sl 103) (.cons (Rw.agg (.cons (Rd.int .i64).w (.cons (Rd.int .i64).w (.cons Rd.str.w (.cons (Rw.sl 25) .nil))))) .nil)), .nil, 0, uU1, fun a b => run_z105 (.start a.1 a.2.1.1 a.2.1.2.1 a.2.1.2.2.1 a.2.1.2.2.2.1), ug6.av, ug6.bx⟩
theorem vX4 : wo4.Ok := fun a b r h => ub4 (fn := Tryz.f38) (code := ur6) E_ok (by kernel_rfl) (by kernel_rfl) (by kernel_rfl) (Nat.le_of_ble_eq_true rfl) (xc0 (.start a.1 a.2.1.1 a.2.1.2.1 a.2.1.2.2.1 a.2.1.2.2.2.1) r h)
inductive wj3 where
 | start (l0 : (List ua2)) (t1_0 : Int) (t1_1 : Int) (t1_2 : ByteArray) (t1_3 : (List ua0))
 | p244 (l0 : (List ua2)) (all5 : (List ua1)) (i7 : Int) (B0 : (List ua8))
 | p125236 (l0 : (List ua2)) (all5 : (List ua1)) (i7 : Int) (low9 : Int) (k10 : Int) (B0 : (List ua8)) (D0 : ByteArray) (D1 : Int) (B2 : (List uc0))
def u16 : wj3 → List Bool
 | .start .. => []
 | .p244 .. => [false, false, true, false, true, true, true]
 | .p125236 .. => [false, false, true, false, true, true, false, false, true, false, false, true, false, true, true, true]
def wh6 : wj3 → St E.S
 | .start l0 t1_0 t1_1 t1_2 t1_3 => st0 75 [.sl 103 l0 false, .agg [.v (.int .i64 t1_0), .v (.int .i64 t1_1), .v (.string t1_2), .sl 25 t1_3 false]] []
 | .p244 l0 all5 i7 B0 => mkSt 75 [0, 5, 6, 7] [.sl 103 l0 false, .sl 56 all5 false, .rw 0, .v (.int .i64 i7)] [.row 81 B0 false]
 | .p125236 l0 all5 i7 low9 k10 B0 D0 D1 B2 => mkSt 75 [0, 5, 6, 7, 8, 9, 10] [.sl 103 l0 false, .sl 56 all5 false, .rw 0, .v (.int .i64 i7), .bp 1 0, .v (.int .i64 low9), .v (.int .i64 k10)] [.row 81 B0 false, .var 81 [.v (.string D0), .v (.int .i64 D1), .rw 2], .row 75 B2 false]
abbrev xN9 : Type := ((Unit × Unit) × ((List ua8) × Unit))
def uD0 : Res E (Unit × Unit) ((List ua8) × Unit) := { rows := [(0, 81)], flat := [], keep := 0, done := [0], rl := (.cons (Rd.rw 0) .nil), rb := (.cons (.row 81 true) .nil) }
def uf6 : wj3 → Option xN9
 | .start l0 t1_0 t1_1 t1_2 t1_3 =>
  (ue7 (.start l0 t1_0 t1_1 t1_2 t1_3)) >>= fun t1 =>
  uf6 (.p244 l0 t1.1.1 (0 : Int) ([] : List ua8))
 | .p244 l0 all5 i7 B0 =>
  if (decide (i7 < (List.length all5 : Int))) = true then
   (idx all5 i7) >>= fun t1 =>
   (idx all5 i7) >>= fun t2 =>
   (uo2 (.start l0 t2.Name t2.Fields)) >>= fun t3 =>
   uf6 (.p125236 l0 all5 i7 t3.1.1 (0 : Int) B0 t1.Name i7 ([] : List uc0))
  else
   some (((), ()), (B0, ()))
 | .p125236 l0 all5 i7 low9 k10 B0 D0 D1 B2 =>
  (idx all5 i7) >>= fun t1 =>
  if (decide (k10 < (List.length t1.Fields : Int))) = true then
   (idx all5 i7) >>= fun t2 =>
   (idx t2.Fields k10) >>= fun t3 =>
   (run_z100 (.start l0 t3.Type_.Kind t3.Type_.Value t3.Type_.Name t3.Type_.Parts)) >>= fun t4 =>
   if (fits (List.length B2) (List.length ([(⟨t3.Name, IntKind.wrap .i64 (low9 - t4.1.1), t4.1.1⟩ : uc0)] : List uc0)) 32) = true then
    uf6 (.p125236 l0 all5 i7 (IntKind.wrap .i64 (low9 - t4.1.1)) (IntKind.wrap .i64 (k10 + (1 : Int))) B0 D0 D1 (B2 ++ ([(⟨t3.Name, IntKind.wrap .i64 (low9 - t4.1.1), t4.1.1⟩ : uc0)] : List uc0)))
   else none
  else
   if (fits (List.length B0) (List.length ([(⟨D0, D1, B2⟩ : ua8)] : List ua8)) 48) = true then
    uf6 (.p244 l0 all5 (IntKind.wrap .i64 (i7 + (1 : Int))) (B0 ++ ([(⟨D0, D1, B2⟩ : ua8)] : List ua8)))
   else none
 partial_fixpoint
def wB6 : List (Plc E wj3) := [⟨244, [false, false, true, false, true, true, true], { slots := [0, 5, 6, 7], rows := [(6, 81)], flat := [], keep := 0 }, _, _, (.cons (Rd.sl 103 false) (.cons (Rd.sl 56 false) (.cons (Rd.rw 0) (.cons (Rd.int .i64) .nil)))), (.cons (.row 81 false) .nil), fun a b => .p244 a.1 a.2.1 a.2.2.2.1 b.1⟩,
 ⟨125236, [false, false, true, false, true, true, false, false, true, false, false, true, false, true, true, true], { slots := [0, 5, 6, 7, 8, 9, 10], rows := [], flat := [], keep := 0, up := [(true, 8, 2, 75)] }, _, _, (.cons (Rd.sl 103 false) (.cons (Rd.sl 56 false) (.cons (Rd.rw 0) (.cons (Rd.int .i64) (.cons (Rd.bp 1 0) (.cons (Rd.int .i64) (.cons (Rd.int .i64) .nil))))))), (.cons (.row 81 false) (.cons (.var 81 (.cons Rd.str (.cons (Rd.int .i64) (.cons (Rd.rw 2) .nil)))) (.cons (.row 75 false) .nil))), fun a b => .p125236 a.1 a.2.1 a.2.2.2.1 a.2.2.2.2.2.1 a.2.2.2.2.2.2.1 b.1 b.2.1.1 b.2.1.2.1 b.2.2.1⟩]
theorem wi5 : All (ub8 75 0 u16 wh6) wB6 := ⟨⟨rfl, rfl, fun _ _ => rfl, fun _ _ => rfl⟩, ⟨⟨rfl, rfl, fun _ _ => rfl, fun _ _ => rfl⟩, trivial⟩⟩
def u98 : Code := Tryz.f48.body.getD .skip
def vT2 : Spec E.S := (Con.add u59 (Con.add xa3 (Con.add uP3 ub1)))
theorem vT3 : ub0 E vT2 := (Con.add_ok uP1 (Con.add_ok wM4 (Con.add_ok uu2 ua7)))
theorem xc1 : ∀ pt r, uf6 pt = some r → Good E Tryz.f48 u98 0 (uD0.av r) (uD0.bx r) (u16 pt) (wh6 pt) := by
 refine uf6.partial_correctness (fun pt r => Good E Tryz.f48 u98 0 (uD0.av r) (uD0.bx r) (u16 pt) (wh6 pt)) ?_
 intro run' ih pt r hr
 cases pt <;> exact ua9 (spec := vT2) (wr := (mkWr [] [(15655, [8])])) (l := wB6) (z := 75) (p := uD0) E_ok wi5.mem rfl vT3 ih (Eq.trans (by kernel_rfl) hr)
def wo5 : Con E := ⟨48, _, _, (.cons (Rw.sl 103) (.cons (Rw.agg (.cons (Rd.int .i64).w (.cons (Rd.int .i64).w (.cons Rd.str.w (.cons (Rw.sl 25) .nil))))) .nil)), .nil, 0, xN9, fun a b => uf6 (.start a.1 a.2.1.1 a.2.1.2.1 a.2.1.2.2.1 a.2.1.2.2.2.1), uD0.av, uD0.bx⟩
theorem vX5 : wo5.Ok := fun a b r h => ub4 (fn := Tryz.f48) (code := u98) E_ok (by kernel_rfl) (by kernel_rfl) (by kernel_rfl) (Nat.le_of_ble_eq_true rfl) (xc1 (.start a.1 a.2.1.1 a.2.1.2.1 a.2.1.2.2.1 a.2.1.2.2.2.1) r h)
inductive wj4 where
 | start (a0 : (List ua8)) (b1 : (List ua8))
 | p116 (a0 : (List ua8)) (b1 : (List ua8)) (i5 : Int)
 | p1865 (a0 : (List ua8)) (b1 : (List ua8)) (i5 : Int)
 | p14924 (a0 : (List ua8)) (b1 : (List ua8)) (i5 : Int) (k6 : Int)
def u17 : wj4 → List Bool
 | .start .. => []
 | .p116 .. => [false, false, true, false, true, true]
 | .p1865 .. => [true, false, false, true, false, false, true, false, true, true]
 | .p14924 .. => [false, false, true, true, false, false, true, false, false, true, false, true, true]
def wh7 : wj4 → St E.S
 | .start a0 b1 => st0 84 [.sl 81 a0 false, .sl 81 b1 false] []
 | .p116 a0 b1 i5 => mkSt 84 [0, 1, 5] [.sl 81 a0 false, .sl 81 b1 false, .v (.int .i64 i5)] []
 | .p1865 a0 b1 i5 => mkSt 84 [0, 1, 5] [.sl 81 a0 false, .sl 81 b1 false, .v (.int .i64 i5)] []
 | .p14924 a0 b1 i5 k6 => mkSt 84 [0, 1, 5, 6] [.sl 81 a0 false, .sl 81 b1 false, .v (.int .i64 i5), .v (.int .i64 k6)] []
abbrev xO0 : Type := ((Bool × Unit) × Unit)
def uD1 : Res E (Bool × Unit) Unit := { rows := [], flat := [], keep := 0, done := [0], rl := (.cons Rd.bool .nil), rb := .nil }
def ue5 : wj4 → Option xO0
 | .start a0 b1 =>
  if ((List.length a0 : Int) != (List.length b1 : Int)) = true then
   some ((false, ()), ())
  else
   ue5 (.p116 a0 b1 (0 : Int))
 | .p116 a0 b1 i5 =>
  if (decide (i5 < (List.length a0 : Int))) = true then
   (idx a0 i5) >>= fun t1 =>
   (idx b1 i5) >>= fun t2 =>
   if (!(seq t1.Name t2.Name)) = true then
    some ((false, ()), ())
   else
    (idx a0 i5) >>= fun t3 =>
    (idx b1 i5) >>= fun t4 =>
    if (t3.Tag != t4.Tag) = true then
     some ((false, ()), ())
    else
     (idx a0 i5) >>= fun t5 =>
     (idx b1 i5) >>= fun t6 =>
     if ((List.length t5.Parts : Int) != (List.length t6.Parts : Int)) = true then
      some ((false, ()), ())
     else
      ue5 (.p1865 a0 b1 i5)
  else
   some ((true, ()), ())
 | .p1865 a0 b1 i5 =>
  ue5 (.p14924 a0 b1 i5 (0 : Int))
 | .p14924 a0 b1 i5 k6 =>
  (idx a0 i5) >>= fun t1 =>
  if (decide (k6 < (List.length t1.Parts : Int))) = true then
   (idx a0 i5) >>= fun t2 =>
   (idx t2.Parts k6) >>= fun t3 =>
   (idx b1 i5) >>= fun t4 =>
   (idx t4.Parts k6) >>= fun t5 =>
   if (!((seq t3.Name t5.Name) && ((t3.Low == t5.Low) && ((t3.Width == t5.Width) && true)))) = true then
    some ((false, ()), ())
   else
    ue5 (.p14924 a0 b1 i5 (IntKind.wrap .i64 (k6 + (1 : Int))))
  else
   ue5 (.p116 a0 b1 (IntKind.wrap .i64 (i5 + (1 : Int))))
 partial_fixpoint
def wB7 : List (Plc E wj4) := [⟨116, [false, false, true, false, true, true], { slots := [0, 1, 5], rows := [], flat := [], keep := 0 }, _, _, (.cons (Rd.sl 81 false) (.cons (Rd.sl 81 false) (.cons (Rd.int .i64) .nil))), .nil, fun a b => .p116 a.1 a.2.1 a.2.2.1⟩,
 ⟨1865, [true, false, false, true, false, false, true, false, true, true], { slots := [0, 1, 5], rows := [], flat := [], keep := 0 }, _, _, (.cons (Rd.sl 81 false) (.cons (Rd.sl 81 false) (.cons (Rd.int .i64) .nil))), .nil, fun a b => .p1865 a.1 a.2.1 a.2.2.1⟩,
 ⟨14924, [false, false, true, true, false, false, true, false, false, true, false, true, true], { slots := [0, 1, 5, 6], rows := [], flat := [], keep := 0 }, _, _, (.cons (Rd.sl 81 false) (.cons (Rd.sl 81 false) (.cons (Rd.int .i64) (.cons (Rd.int .i64) .nil)))), .nil, fun a b => .p14924 a.1 a.2.1 a.2.2.1 a.2.2.2.1⟩]
theorem wi6 : All (ub8 84 0 u17 wh7) wB7 := ⟨⟨rfl, rfl, fun _ _ => rfl, fun _ _ => rfl⟩, ⟨⟨rfl, rfl, fun _ _ => rfl, fun _ _ => rfl⟩, ⟨⟨rfl, rfl, fun _ _ => rfl, fun _ _ => rfl⟩, trivial⟩⟩⟩
def u99 : Code := Tryz.f47.body.getD .skip
def vT4 : Spec E.S := ub1
theorem vT5 : ub0 E vT4 := ua7
theorem xc2 : ∀ pt r, ue5 pt = some r → Good E Tryz.f47 u99 0 (uD1.av r) (uD1.bx r) (u17 pt) (wh7 pt) := by
 refine ue5.partial_correctness (fun pt r => Good E Tryz.f47 u99 0 (uD1.av r) (uD1.bx r) (u17 pt) (wh7 pt)) ?_
 intro run' ih pt r hr
 cases pt <;> exact ua9 (spec := vT4) (wr := (mkWr [] [])) (l := wB7) (z := 84) (p := uD1) E_ok wi6.mem rfl vT5 ih (Eq.trans (by kernel_rfl) hr)
def wo6 : Con E := ⟨47, _, _, (.cons (Rw.sl 81) (.cons (Rw.sl 81) .nil)), .nil, 0, xO0, fun a b => ue5 (.start a.1 a.2.1), uD1.av, uD1.bx⟩
theorem vX6 : wo6.Ok := fun a b r h => ub4 (fn := Tryz.f47) (code := u99) E_ok (by kernel_rfl) (by kernel_rfl) (by kernel_rfl) (Nat.le_of_ble_eq_true rfl) (xc2 (.start a.1 a.2.1) r h)
inductive wj5 where
 | start (l0 : (List ua2)) (t1_0 : Int) (t1_1 : Int) (t1_2 : ByteArray) (t1_3 : (List ua0))
 | p1023 (l0 : (List ua2)) (g10 : Int) (h12 : Int) (C0 : Int) (C1 : Int) (C2 : ByteArray) (C3 : (List ua0)) (B1 : (List ua8)) (G0 : ByteArray) (G1 : Int) (G2 : Int)
def u18 : wj5 → List Bool
 | .start .. => []
 | .p1023 .. => [true, true, true, true, true, true, true, true, true]
def wh8 : wj5 → St E.S
 | .start l0 t1_0 t1_1 t1_2 t1_3 => st0 154 [.sl 103 l0 false, .agg [.v (.int .i64 t1_0), .v (.int .i64 t1_1), .v (.string t1_2), .sl 25 t1_3 false]] []
 | .p1023 l0 g10 h12 C0 C1 C2 C3 B1 G0 G1 G2 => mkSt 154 [0, 3, 9, 10, 11, 12] [.sl 103 l0 false, .bp 0 0, .rw 1, .v (.int .i64 g10), .bp 2 0, .v (.int .i64 h12)] [.var 25 [.v (.int .i64 C0), .v (.int .i64 C1), .v (.string C2), .sl 25 C3 false], .row 81 B1 true, .var 75 [.v (.string G0), .v (.int .i64 G1), .v (.int .i64 G2)]]
abbrev xO1 : Type := ((Bool × Unit) × Unit)
def uD2 : Res E (Bool × Unit) Unit := { rows := [], flat := [], keep := 0, done := [0], rl := (.cons Rd.bool .nil), rb := .nil }
def uy7 : wj5 → Option xO1
 | .start l0 t1_0 t1_1 t1_2 t1_3 =>
  (u31 .start) >>= fun t1 =>
  if (!t1.1.1) = true then
   some ((false, ()), ())
  else
   (ue2 (.start l0)) >>= fun t2 =>
   if (!t2.1.1) = true then
    some ((true, ()), ())
   else
    (ug7 (.start l0)) >>= fun t3 =>
    (uJ4 (.start t3.2.1 t1_0 t1_1 t1_2 t1_3)) >>= fun t4 =>
    (ug7 (.start l0)) >>= fun t5 =>
    (vl1 (.start t5.2.1 t1_0 t1_1 t1_2 t1_3)) >>= fun t6 =>
    (ug7 (.start l0)) >>= fun t7 =>
    (ug0 (.start t7.2.1 t1_0 t1_1 t1_2 t1_3)) >>= fun t8 =>
    (ug7 (.start l0)) >>= fun t9 =>
    (uE7 (.start t9.2.1 t1_0 t1_1 t1_2 t1_3)) >>= fun t10 =>
    (uX5 (.start l0 t1_0 t1_1 t1_2 t1_3)) >>= fun t11 =>
    if (t11.1.1 != (0 : Int)) = true then
     if (t4.1.2.1 == t11.1.1) = true then
      if (t6.1.2.1 == t11.1.1) = true then
       if (t8.1.2.1 == t11.1.1) = true then
        if (t10.1.2.1 == t11.1.1) = true then
         if (t4.1.1 == (0 : Int)) = true then
          if (t6.1.1 == (0 : Int)) = true then
           if ((List.length t8.2.1 : Int) == (0 : Int)) = true then
            some ((((seq t10.1.1.1 (⟨#[]⟩ : ByteArray)) && ((t10.1.1.2.1 == (0 : Int)) && ((t10.1.1.2.2.1 == (0 : Int)) && true))), ()), ())
           else
            some ((false, ()), ())
          else
           some ((false, ()), ())
         else
          some ((false, ()), ())
        else
         some ((false, ()), ())
       else
        some ((false, ()), ())
      else
       some ((false, ()), ())
     else
      some ((false, ()), ())
    else
     if (t4.1.2.1 != (0 : Int)) = true then
      some ((false, ()), ())
     else
      (run_z100 (.start l0 t1_0 t1_1 t1_2 t1_3)) >>= fun t12 =>
      if (t4.1.1 != t12.1.1) = true then
       some ((false, ()), ())
      else
       if (t6.1.2.1 != (0 : Int)) = true then
        some ((false, ()), ())
       else
        (run_z105 (.start l0 t1_0 t1_1 t1_2 t1_3)) >>= fun t13 =>
        if (t6.1.1 != t13.1.1) = true then
         some ((false, ()), ())
        else
         uy7 (.p1023 l0 t8.1.2.1 t10.1.2.1 t1_0 t1_1 t1_2 t1_3 t8.2.1 t10.1.1.1 t10.1.1.2.1 t10.1.1.2.2.1)
 | .p1023 l0 g10 h12 C0 C1 C2 C3 B1 G0 G1 G2 =>
  (uz5 (.start C0 C1 C2 C3)) >>= fun t1 =>
  if t1.1.1 = true then
   if (g10 == (15 : Int)) = true then
    if (h12 == (15 : Int)) = true then
     if ((List.length B1 : Int) == (0 : Int)) = true then
      some ((((seq G0 (⟨#[]⟩ : ByteArray)) && ((G1 == (0 : Int)) && ((G2 == (0 : Int)) && true))), ()), ())
     else
      some ((false, ()), ())
    else
     some ((false, ()), ())
   else
    some ((false, ()), ())
  else
   (run_z101 (.start l0 C0 C1 C2 C3)) >>= fun t2 =>
   (ue7 (.start l0 C0 C1 C2 C3)) >>= fun t3 =>
   (us9 (.start (List.length t3.1.1 : Int))) >>= fun t4 =>
   if (g10 == (0 : Int)) = true then
    (uf6 (.start l0 C0 C1 C2 C3)) >>= fun t5 =>
    (ue5 (.start B1 t5.2.1)) >>= fun t6 =>
    if t6.1.1 = true then
     if (h12 == (0 : Int)) = true then
      some ((((seq G0 (⟨#[]⟩ : ByteArray)) && ((G1 == t2.1.1) && ((G2 == t4.1.1) && true))), ()), ())
     else
      some ((false, ()), ())
    else
     some ((false, ()), ())
   else
    some ((false, ()), ())
 partial_fixpoint
def wB8 : List (Plc E wj5) := [⟨1023, [true, true, true, true, true, true, true, true, true], { slots := [0, 3, 9, 10, 11, 12], rows := [], flat := [], keep := 0 }, _, _, (.cons (Rd.sl 103 false) (.cons (Rd.bp 0 0) (.cons (Rd.rw 1) (.cons (Rd.int .i64) (.cons (Rd.bp 2 0) (.cons (Rd.int .i64) .nil)))))), (.cons (.var 25 (.cons (Rd.int .i64) (.cons (Rd.int .i64) (.cons Rd.str (.cons (Rd.sl 25 false) .nil))))) (.cons (.row 81 true) (.cons (.var 75 (.cons Rd.str (.cons (Rd.int .i64) (.cons (Rd.int .i64) .nil)))) .nil))), fun a b => .p1023 a.1 a.2.2.2.1 a.2.2.2.2.2.1 b.1.1 b.1.2.1 b.1.2.2.1 b.1.2.2.2.1 b.2.1 b.2.2.1.1 b.2.2.1.2.1 b.2.2.1.2.2.1⟩]
theorem wi7 : All (ub8 154 0 u18 wh8) wB8 := ⟨⟨rfl, rfl, fun _ _ => rfl, fun _ _ => rfl⟩, trivial⟩
def va0 : Code := Tryz.f7.body.getD .skip
def vT6 : Spec E.S := (Con.add wo6 (Con.add wo5 (Con.add vZ4 (Con.add uP3 (Con.add wo1 (Con.add va3 (Con.add wo4 (Con.add u59 (Con.add wo3 (Con.add w93 (Con.add w91 (Con.add w90 (Con.add vY4 (Con.add w89 (Con.add w86 (Con.add w84 ub1))))))))))))))))
theorem vT7 : ub0 E vT6 := (Con.add_ok vX6 (Con.add_ok vX5 (Con.add_ok vs4 (Con.add_ok uu2 (Con.add_ok vX1 (Con.add_ok uL6 (Con.add_ok vX4 (Con.add_ok uP1 (Con.add_ok vX3 (Con.add_ok wL5 (Con.add_ok wL4 (Con.add_ok wL3 (Con.add_ok vr4 (Con.add_ok wL2 (Con.add_ok wK9 (Con.add_ok wK7 ua7))))))))))))))))
theorem xc3 : ∀ pt r, uy7 pt = some r → Good E Tryz.f7 va0 0 (uD2.av r) (uD2.bx r) (u18 pt) (wh8 pt) := by
 refine uy7.partial_correctness (fun pt r => Good E Tryz.f7 va0 0 (uD2.av r) (uD2.bx r) (u18 pt) (wh8 pt)) ?_
 intro run' ih pt r hr
 cases pt <;> exact ua9 (spec := vT6) (wr := (mkWr [] [])) (l := wB8) (z := 154) (p := uD2) E_ok wi7.mem rfl vT7 ih (Eq.trans (by kernel_rfl) hr)
def vA3 : Con E := ⟨7, _, _, (.cons (Rw.sl 103) (.cons (Rw.agg (.cons (Rd.int .i64).w (.cons (Rd.int .i64).w (.cons Rd.str.w (.cons (Rw.sl 25) .nil))))) .nil)), .nil, 0, xO1, fun a b => uy7 (.start a.1 a.2.1.1 a.2.1.2.1 a.2.1.2.2.1 a.2.1.2.2.2.1), uD2.av, uD2.bx⟩
theorem vX7 : vA3.Ok := fun a b r h => ub4 (fn := Tryz.f7) (code := va0) E_ok (by kernel_rfl) (by kernel_rfl) (by kernel_rfl) (Nat.le_of_ble_eq_true rfl) (xc3 (.start a.1 a.2.1.1 a.2.1.2.1 a.2.1.2.2.1 a.2.1.2.2.2.1) r h)
end
end Go.Proofs.YtaennkkcnhfglaaGreatDoor.Ev.F
