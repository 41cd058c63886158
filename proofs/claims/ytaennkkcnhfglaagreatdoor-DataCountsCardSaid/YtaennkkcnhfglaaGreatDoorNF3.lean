/- A part of the proof. -/
import Derived.Test.YtaennkkcnhfglaaGreatDoorNF2
set_option linter.unusedVariables false
set_option maxRecDepth 100000
namespace Go.Proofs.YtaennkkcnhfglaaGreatDoor.Ev.F
open Go.Proofs Go.Proofs.YtaennkkcnhfglaaGreatDoor.Ev
noncomputable section
inductive wi9 where
 | start (l0 : (List ua3)) (t1_0 : Int) (t1_1 : Int) (t1_2 : ByteArray) (t1_3 : (List ua0))
def vs2 : wi9 → List Bool
 | .start .. => []
def xi3 : wi9 → St E.S
 | .start l0 t1_0 t1_1 t1_2 t1_3 => st0 21 [.sl 103 l0 false, .agg [.v (.int .i64 t1_0), .v (.int .i64 t1_1), .v (.string t1_2), .sl 25 t1_3 false]] []
abbrev xL4 : Type := ((Int × (Int × Unit)) × Unit)
def uU7 : Res E (Int × (Int × Unit)) Unit := { rows := [], flat := [], keep := 0, done := [0, 1], rl := (.cons (Rd.int .i64) (.cons (Rd.int .i64) .nil)), rb := .nil }
def uW2 : wi9 → Option xL4
 | .start l0 t1_0 t1_1 t1_2 t1_3 =>
  (uu8 (.start l0 t1_0 t1_1 t1_2 t1_3)) >>= fun t1 =>
  if (t1.1.2.2.1 != (0 : Int)) = true then
   some (((0 : Int), (t1.1.2.2.1, ())), ())
  else
   (run_z61 (.start t1.1.1)) >>= fun t2 =>
   some ((t2.1.1, ((0 : Int), ())), ())
def wA8 : List (Plc E wi9) := []
theorem wh9 : All (ub7 21 0 vs2 xi3) wA8 := trivial
def vJ0 : Code := Tryz.f16.body.getD .skip
def vS2 : Spec E.S := (Con.add vz6 (Con.add uY9 ub0))
theorem vS3 : ua9 E vS2 := (Con.add_ok uZ0 (Con.add_ok ux9 ua7))
theorem xa8 : ∀ pt r, uW2 pt = some r → Good E Tryz.f16 vJ0 0 (uU7.av r) (uU7.bx r) (vs2 pt) (xi3 pt) := by
 intro pt r hr
 cases pt <;> exact ua8 (spec := vS2) (wr := (mkWr [] [])) (l := wA8) (z := 21) (p := uU7) (run' := fun _ => none) E_ok wh9.mem rfl vS3 (fun _ _ h => by cases h) (Eq.trans (by kernel_rfl) hr)
def wo0 : Con E := ⟨16, _, _, (.cons (Rw.sl 103) (.cons (Rw.agg (.cons (Rd.int .i64).w (.cons (Rd.int .i64).w (.cons Rd.str.w (.cons (Rw.sl 25) .nil))))) .nil)), .nil, 0, xL4, fun a b => uW2 (.start a.1 a.2.1.1 a.2.1.2.1 a.2.1.2.2.1 a.2.1.2.2.2.1), uU7.av, uU7.bx⟩
theorem vX3 : wo0.Ok := fun a b r h => ub5 (fn := Tryz.f16) (code := vJ0) E_ok (by kernel_rfl) (by kernel_rfl) (by kernel_rfl) (Nat.le_of_ble_eq_true rfl) (xa8 (.start a.1 a.2.1.1 a.2.1.2.1 a.2.1.2.2.1 a.2.1.2.2.2.1) r h)
inductive u33 where
 | start (v0_0 : ByteArray) (v0_1 : Int) (v0_2 : (List ua5)) (depth1 : Int) (count2 : Int)
 | p15 (depth1 : Int) (count2 : Int) (C0 : ByteArray) (C1 : Int) (C2 : (List ua5))
 | p244 (depth1 : Int) (count2 : Int) (i7 : Int) (C0 : ByteArray) (C1 : Int) (C2 : (List ua5))
 | p489 (depth1 : Int) (count2 : Int) (i7 : Int) (C0 : ByteArray) (C1 : Int) (C2 : (List ua5))
def uy6 : u33 → List Bool
 | .start .. => []
 | .p15 .. => [true, true, true]
 | .p244 .. => [false, false, true, false, true, true, true]
 | .p489 .. => [true, false, false, true, false, true, true, true]
def vk0 : u33 → St E.S
 | .start v0_0 v0_1 v0_2 depth1 count2 => st0 43 [.agg [.v (.string v0_0), .v (.int .i64 v0_1), .sl 37 v0_2 false], .v (.int .i64 depth1), .v (.int .i64 count2)] []
 | .p15 depth1 count2 C0 C1 C2 => mkSt 43 [1, 2, 3] [.v (.int .i64 depth1), .v (.int .i64 count2), .bp 0 0] [.var 37 [.v (.string C0), .v (.int .i64 C1), .sl 37 C2 false]]
 | .p244 depth1 count2 i7 C0 C1 C2 => mkSt 43 [1, 2, 3, 7] [.v (.int .i64 depth1), .v (.int .i64 count2), .bp 0 0, .v (.int .i64 i7)] [.var 37 [.v (.string C0), .v (.int .i64 C1), .sl 37 C2 false]]
 | .p489 depth1 count2 i7 C0 C1 C2 => mkSt 43 [1, 2, 3, 7] [.v (.int .i64 depth1), .v (.int .i64 count2), .bp 0 0, .v (.int .i64 i7)] [.var 37 [.v (.string C0), .v (.int .i64 C1), .sl 37 C2 false]]
abbrev u79 : Type := ((Int × Unit) × Unit)
def uj6 : Res E (Int × Unit) Unit := { rows := [], flat := [], keep := 0, done := [0], rl := (.cons (Rd.int .i64) .nil), rb := .nil }
def uf4 : u33 → Option u79
 | .start v0_0 v0_1 v0_2 depth1 count2 =>
  if (decide (depth1 > (40 : Int))) = true then
   some (((201 : Int), ()), ())
  else
   if (decide ((IntKind.wrap .i64 (count2 + (1 : Int))) > (200 : Int))) = true then
    some (((201 : Int), ()), ())
   else
    if (decide ((List.length v0_2 : Int) > (200 : Int))) = true then
     some (((201 : Int), ()), ())
    else
     uf4 (.p15 depth1 (IntKind.wrap .i64 (count2 + (1 : Int))) v0_0 v0_1 v0_2)
 | .p15 depth1 count2 C0 C1 C2 =>
  uf4 (.p244 depth1 count2 (0 : Int) C0 C1 C2)
 | .p244 depth1 count2 i7 C0 C1 C2 =>
  if (decide (i7 < (List.length C2 : Int))) = true then
   if (decide (count2 ≤ (200 : Int))) = true then
    uf4 (.p489 depth1 count2 i7 C0 C1 C2)
   else
    some ((count2, ()), ())
  else
   some ((count2, ()), ())
 | .p489 depth1 count2 i7 C0 C1 C2 =>
  (idx C2 i7) >>= fun t1 =>
  (uf4 (.start t1.Name t1.Number t1.Parts (IntKind.wrap .i64 (depth1 + (1 : Int))) count2)) >>= fun t2 =>
  uf4 (.p244 depth1 t2.1.1 (IntKind.wrap .i64 (i7 + (1 : Int))) C0 C1 C2)
 partial_fixpoint
def wA9 : List (Plc E u33) := [⟨15, [true, true, true], { slots := [1, 2, 3], rows := [], flat := [], keep := 0 }, _, _, (.cons (Rd.int .i64) (.cons (Rd.int .i64) (.cons (Rd.bp 0 0) .nil))), (.cons (.var 37 (.cons Rd.str (.cons (Rd.int .i64) (.cons (Rd.sl 37 false) .nil)))) .nil), fun a b => .p15 a.1 a.2.1 b.1.1 b.1.2.1 b.1.2.2.1⟩,
 ⟨244, [false, false, true, false, true, true, true], { slots := [1, 2, 3, 7], rows := [], flat := [], keep := 0 }, _, _, (.cons (Rd.int .i64) (.cons (Rd.int .i64) (.cons (Rd.bp 0 0) (.cons (Rd.int .i64) .nil)))), (.cons (.var 37 (.cons Rd.str (.cons (Rd.int .i64) (.cons (Rd.sl 37 false) .nil)))) .nil), fun a b => .p244 a.1 a.2.1 a.2.2.2.1 b.1.1 b.1.2.1 b.1.2.2.1⟩,
 ⟨489, [true, false, false, true, false, true, true, true], { slots := [1, 2, 3, 7], rows := [], flat := [], keep := 0 }, _, _, (.cons (Rd.int .i64) (.cons (Rd.int .i64) (.cons (Rd.bp 0 0) (.cons (Rd.int .i64) .nil)))), (.cons (.var 37 (.cons Rd.str (.cons (Rd.int .i64) (.cons (Rd.sl 37 false) .nil)))) .nil), fun a b => .p489 a.1 a.2.1 a.2.2.2.1 b.1.1 b.1.2.1 b.1.2.2.1⟩]
theorem wi0 : All (ub7 43 0 uy6 vk0) wA9 := ⟨⟨rfl, rfl, fun _ _ => rfl, fun _ _ => rfl⟩, ⟨⟨rfl, rfl, fun _ _ => rfl, fun _ _ => rfl⟩, ⟨⟨rfl, rfl, fun _ _ => rfl, fun _ _ => rfl⟩, trivial⟩⟩⟩
def ux6 : Code := Tryz.f72.body.getD .skip
def wq6 (run' : u33 → Option u79) : Con E := ⟨72, ((ByteArray × (Int × ((List ua5) × Unit))) × (Int × (Int × Unit))), Unit, (RwL.cons (Rw.agg (RwL.cons Rd.str.w (RwL.cons (Rd.int .i64).w (RwL.cons (Rw.sl 37) RwL.nil)))) (RwL.cons (Rd.int .i64).w (RwL.cons (Rd.int .i64).w RwL.nil))), RdBL.nil, 0, u79, fun a b => run' (.start a.1.1 a.1.2.1 a.1.2.2.1 a.2.1 a.2.2.1), uj6.av, uj6.bx⟩
theorem v13 {run' : u33 → Option u79} (ih : ∀ pt r, run' pt = some r → Good E Tryz.f72 ux6 0 (uj6.av r) (uj6.bx r) (uy6 pt) (vk0 pt)) : (wq6 run').Ok := fun a b r h => ub5 (fn := Tryz.f72) (code := ux6) E_ok (by kernel_rfl) (by kernel_rfl) (by kernel_rfl) (Nat.le_of_ble_eq_true rfl) (ih (.start a.1.1 a.1.2.1 a.1.2.2.1 a.2.1 a.2.2.1) r h)
def vS4 (run' : u33 → Option u79) : Spec E.S := (Con.add (wq6 run') ub0)
theorem vS5 {run' : u33 → Option u79} (ih : ∀ pt r, run' pt = some r → Good E Tryz.f72 ux6 0 (uj6.av r) (uj6.bx r) (uy6 pt) (vk0 pt)) : ua9 E (vS4 run') := (Con.add_ok (v13 ih) ua7)
theorem xa9 : ∀ pt r, uf4 pt = some r → Good E Tryz.f72 ux6 0 (uj6.av r) (uj6.bx r) (uy6 pt) (vk0 pt) := by
 refine uf4.partial_correctness (fun pt r => Good E Tryz.f72 ux6 0 (uj6.av r) (uj6.bx r) (uy6 pt) (vk0 pt)) ?_
 intro run' ih pt r hr
 cases pt <;> exact ua8 (spec := (vS4 run')) (wr := (mkWr [] [])) (l := wA9) (z := 43) (p := uj6) E_ok wi0.mem rfl (vS5 ih) ih (Eq.trans (by kernel_rfl) hr)
def wo1 : Con E := ⟨72, _, _, (.cons (Rw.agg (.cons Rd.str.w (.cons (Rd.int .i64).w (.cons (Rw.sl 37) .nil)))) (.cons (Rd.int .i64).w (.cons (Rd.int .i64).w .nil))), .nil, 0, u79, fun a b => uf4 (.start a.1.1 a.1.2.1 a.1.2.2.1 a.2.1 a.2.2.1), uj6.av, uj6.bx⟩
theorem vX4 : wo1.Ok := fun a b r h => ub5 (fn := Tryz.f72) (code := ux6) E_ok (by kernel_rfl) (by kernel_rfl) (by kernel_rfl) (Nat.le_of_ble_eq_true rfl) (xa9 (.start a.1.1 a.1.2.1 a.1.2.2.1 a.2.1 a.2.2.1) r h)
inductive wj0 where
 | start (v0_0 : ByteArray) (v0_1 : Int) (v0_2 : (List ua5))
def vs3 : wj0 → List Bool
 | .start .. => []
def xi4 : wj0 → St E.S
 | .start v0_0 v0_1 v0_2 => st0 6 [.agg [.v (.string v0_0), .v (.int .i64 v0_1), .sl 37 v0_2 false]] []
abbrev xL5 : Type := ((Bool × Unit) × Unit)
def uU8 : Res E (Bool × Unit) Unit := { rows := [], flat := [], keep := 0, done := [0], rl := (.cons Rd.bool .nil), rb := .nil }
def uW3 : wj0 → Option xL5
 | .start v0_0 v0_1 v0_2 =>
  (uf4 (.start v0_0 v0_1 v0_2 (1 : Int) (0 : Int))) >>= fun t1 =>
  some ((decide (t1.1.1 ≤ (200 : Int)), ()), ())
def wB0 : List (Plc E wj0) := []
theorem wi1 : All (ub7 6 0 vs3 xi4) wB0 := trivial
def vJ1 : Code := Tryz.f20.body.getD .skip
def vS6 : Spec E.S := (Con.add wo1 ub0)
theorem vS7 : ua9 E vS6 := (Con.add_ok vX4 ua7)
theorem xb0 : ∀ pt r, uW3 pt = some r → Good E Tryz.f20 vJ1 0 (uU8.av r) (uU8.bx r) (vs3 pt) (xi4 pt) := by
 intro pt r hr
 cases pt <;> exact ua8 (spec := vS6) (wr := (mkWr [] [])) (l := wB0) (z := 6) (p := uU8) (run' := fun _ => none) E_ok wi1.mem rfl vS7 (fun _ _ h => by cases h) (Eq.trans (by kernel_rfl) hr)
def wo2 : Con E := ⟨20, _, _, (.cons (Rw.agg (.cons Rd.str.w (.cons (Rd.int .i64).w (.cons (Rw.sl 37) .nil)))) .nil), .nil, 0, xL5, fun a b => uW3 (.start a.1.1 a.1.2.1 a.1.2.2.1), uU8.av, uU8.bx⟩
theorem vX5 : wo2.Ok := fun a b r h => ub5 (fn := Tryz.f20) (code := vJ1) E_ok (by kernel_rfl) (by kernel_rfl) (by kernel_rfl) (Nat.le_of_ble_eq_true rfl) (xb0 (.start a.1.1 a.1.2.1 a.1.2.2.1) r h)
inductive u34 where
 | start (v0_0 : ByteArray) (v0_1 : Int) (v0_2 : (List ua5))
 | p244 (i4 : Int) (C0 : ByteArray) (C1 : Int) (C2 : (List ua5)) (D0 : ByteArray) (D1 : Int) (G0 : ByteArray) (G1 : Int) (B3 : (List ua5))
def uy7 : u34 → List Bool
 | .start .. => []
 | .p244 .. => [false, false, true, false, true, true, true]
def vk1 : u34 → St E.S
 | .start v0_0 v0_1 v0_2 => st0 26 [.agg [.v (.string v0_0), .v (.int .i64 v0_1), .sl 37 v0_2 false]] []
 | .p244 i4 C0 C1 C2 D0 D1 G0 G1 B3 => mkSt 26 [1, 2, 3, 4] [.bp 0 0, .bp 1 0, .bp 2 0, .v (.int .i64 i4)] [.var 37 [.v (.string C0), .v (.int .i64 C1), .sl 37 C2 false], .var 37 [.v (.string D0), .v (.int .i64 D1), .nl], .var 37 [.v (.string G0), .v (.int .i64 G1), .rw 3], .row 37 B3 false]
abbrev u80 : Type := (((ByteArray × (Int × ((List ua5) × Unit))) × Unit) × Unit)
def uj7 : Res E ((ByteArray × (Int × ((List ua5) × Unit))) × Unit) Unit := { rows := [], flat := [], keep := 0, deep := [(false, 0, 2, 37)], done := [0], rl := (.cons (Rd.agg (.cons Rd.str (.cons (Rd.int .i64) (.cons (Rd.sl 37 false) .nil)))) .nil), rb := .nil }
def uj8 : u34 → Option u80
 | .start v0_0 v0_1 v0_2 =>
  uj8 (.p244 (0 : Int) v0_0 v0_1 v0_2 (⟨#[]⟩ : ByteArray) (0 : Int) v0_0 v0_1 ([] : List ua5))
 | .p244 i4 C0 C1 C2 D0 D1 G0 G1 B3 =>
  if (decide (i4 < (List.length C2 : Int))) = true then
   (idx C2 i4) >>= fun t1 =>
   (uj8 (.start t1.Name t1.Number t1.Parts)) >>= fun t2 =>
   if (fits (List.length B3) (List.length ([(⟨t2.1.1.1, t2.1.1.2.1, t2.1.1.2.2.1⟩ : ua5)] : List ua5)) 48) = true then
    uj8 (.p244 (IntKind.wrap .i64 (i4 + (1 : Int))) C0 C1 C2 D0 D1 G0 G1 (B3 ++ ([(⟨t2.1.1.1, t2.1.1.2.1, t2.1.1.2.2.1⟩ : ua5)] : List ua5)))
   else none
  else
   some (((G0, (G1, (B3, ()))), ()), ())
 partial_fixpoint
def wB1 : List (Plc E u34) := [⟨244, [false, false, true, false, true, true, true], { slots := [1, 2, 3, 4], rows := [], flat := [], keep := 0, up := [(true, 3, 2, 37)] }, _, _, (.cons (Rd.bp 0 0) (.cons (Rd.bp 1 0) (.cons (Rd.bp 2 0) (.cons (Rd.int .i64) .nil)))), (.cons (.var 37 (.cons Rd.str (.cons (Rd.int .i64) (.cons (Rd.sl 37 false) .nil)))) (.cons (.var 37 (.cons Rd.str (.cons (Rd.int .i64) (.cons Rd.nl .nil)))) (.cons (.var 37 (.cons Rd.str (.cons (Rd.int .i64) (.cons (Rd.rw 3) .nil)))) (.cons (.row 37 false) .nil)))), fun a b => .p244 a.2.2.2.1 b.1.1 b.1.2.1 b.1.2.2.1 b.2.1.1 b.2.1.2.1 b.2.2.1.1 b.2.2.1.2.1 b.2.2.2.1⟩]
theorem wi2 : All (ub7 26 0 uy7 vk1) wB1 := ⟨⟨rfl, rfl, fun _ _ => rfl, fun _ _ => rfl⟩, trivial⟩
def ux7 : Code := Tryz.f22.body.getD .skip
def wq7 (run' : u34 → Option u80) : Con E := ⟨22, ((ByteArray × (Int × ((List ua5) × Unit))) × Unit), Unit, (RwL.cons (Rw.agg (RwL.cons Rd.str.w (RwL.cons (Rd.int .i64).w (RwL.cons (Rw.sl 37) RwL.nil)))) RwL.nil), RdBL.nil, 0, u80, fun a b => run' (.start a.1.1 a.1.2.1 a.1.2.2.1), uj7.av, uj7.bx⟩
theorem v14 {run' : u34 → Option u80} (ih : ∀ pt r, run' pt = some r → Good E Tryz.f22 ux7 0 (uj7.av r) (uj7.bx r) (uy7 pt) (vk1 pt)) : (wq7 run').Ok := fun a b r h => ub5 (fn := Tryz.f22) (code := ux7) E_ok (by kernel_rfl) (by kernel_rfl) (by kernel_rfl) (Nat.le_of_ble_eq_true rfl) (ih (.start a.1.1 a.1.2.1 a.1.2.2.1) r h)
def vS8 (run' : u34 → Option u80) : Spec E.S := (Con.add (wq7 run') ub0)
theorem vS9 {run' : u34 → Option u80} (ih : ∀ pt r, run' pt = some r → Good E Tryz.f22 ux7 0 (uj7.av r) (uj7.bx r) (uy7 pt) (vk1 pt)) : ua9 E (vS8 run') := (Con.add_ok (v14 ih) ua7)
theorem xb1 : ∀ pt r, uj8 pt = some r → Good E Tryz.f22 ux7 0 (uj7.av r) (uj7.bx r) (uy7 pt) (vk1 pt) := by
 refine uj8.partial_correctness (fun pt r => Good E Tryz.f22 ux7 0 (uj7.av r) (uj7.bx r) (uy7 pt) (vk1 pt)) ?_
 intro run' ih pt r hr
 cases pt <;> exact ua8 (spec := (vS8 run')) (wr := (mkWr [] [])) (l := wB1) (z := 26) (p := uj7) E_ok wi2.mem rfl (vS9 ih) ih (Eq.trans (by kernel_rfl) hr)
def wo3 : Con E := ⟨22, _, _, (.cons (Rw.agg (.cons Rd.str.w (.cons (Rd.int .i64).w (.cons (Rw.sl 37) .nil)))) .nil), .nil, 0, u80, fun a b => uj8 (.start a.1.1 a.1.2.1 a.1.2.2.1), uj7.av, uj7.bx⟩
theorem vX6 : wo3.Ok := fun a b r h => ub5 (fn := Tryz.f22) (code := ux7) E_ok (by kernel_rfl) (by kernel_rfl) (by kernel_rfl) (Nat.le_of_ble_eq_true rfl) (xb1 (.start a.1.1 a.1.2.1 a.1.2.2.1) r h)
inductive wj1 where
 | start (l0 : (List ua3)) (t1_0 : Int) (t1_1 : Int) (t1_2 : ByteArray) (t1_3 : (List ua0))
 | p15 (l0 : (List ua3)) (C0 : Int) (C1 : Int) (C2 : ByteArray) (C3 : (List ua0))
 | p127 (l0 : (List ua3)) (w5 : Int) (count7 : Int) (C0 : Int) (C1 : Int) (C2 : ByteArray) (C3 : (List ua0))
 | p4084 (l0 : (List ua3)) (w5 : Int) (count7 : Int) (n9 : Int) (bits10 : Int) (C0 : Int) (C1 : Int) (C2 : ByteArray) (C3 : (List ua0))
 | p261415 (l0 : (List ua3)) (w5 : Int) (count7 : Int) (n9 : Int) (bits10 : Int) (C0 : Int) (C1 : Int) (C2 : ByteArray) (C3 : (List ua0)) (D0 : ByteArray) (D1 : Int) (D2 : (List ua5))
def u11 : wj1 → List Bool
 | .start .. => []
 | .p15 .. => [true, true, true]
 | .p127 .. => [true, true, true, true, true, true]
 | .p4084 .. => [false, false, true, false, true, true, true, true, true, true, true]
 | .p261415 .. => [true, true, true, false, false, true, false, false, true, false, true, true, true, true, true, true, true]
def wh7 : wj1 → St E.S
 | .start l0 t1_0 t1_1 t1_2 t1_3 => st0 101 [.sl 103 l0 false, .agg [.v (.int .i64 t1_0), .v (.int .i64 t1_1), .v (.string t1_2), .sl 25 t1_3 false]] []
 | .p15 l0 C0 C1 C2 C3 => mkSt 101 [0, 3] [.sl 103 l0 false, .bp 0 0] [.var 25 [.v (.int .i64 C0), .v (.int .i64 C1), .v (.string C2), .sl 25 C3 false]]
 | .p127 l0 w5 count7 C0 C1 C2 C3 => mkSt 101 [0, 3, 5, 7] [.sl 103 l0 false, .bp 0 0, .v (.int .i64 w5), .v (.int .i64 count7)] [.var 25 [.v (.int .i64 C0), .v (.int .i64 C1), .v (.string C2), .sl 25 C3 false]]
 | .p4084 l0 w5 count7 n9 bits10 C0 C1 C2 C3 => mkSt 101 [0, 3, 5, 7, 9, 10] [.sl 103 l0 false, .bp 0 0, .v (.int .i64 w5), .v (.int .i64 count7), .v (.int .i64 n9), .v (.int .i64 bits10)] [.var 25 [.v (.int .i64 C0), .v (.int .i64 C1), .v (.string C2), .sl 25 C3 false]]
 | .p261415 l0 w5 count7 n9 bits10 C0 C1 C2 C3 D0 D1 D2 => mkSt 101 [0, 3, 5, 7, 9, 10, 11] [.sl 103 l0 false, .bp 0 0, .v (.int .i64 w5), .v (.int .i64 count7), .v (.int .i64 n9), .v (.int .i64 bits10), .bp 1 0] [.var 25 [.v (.int .i64 C0), .v (.int .i64 C1), .v (.string C2), .sl 25 C3 false], .var 37 [.v (.string D0), .v (.int .i64 D1), .sl 37 D2 false]]
abbrev xL6 : Type := ((Bool × Unit) × Unit)
def uC1 : Res E (Bool × Unit) Unit := { rows := [], flat := [], keep := 0, done := [0], rl := (.cons Rd.bool .nil), rb := .nil }
def ug0 : wj1 → Option xL6
 | .start l0 t1_0 t1_1 t1_2 t1_3 =>
  (u26 .start) >>= fun t1 =>
  if (!t1.1.1) = true then
   some ((false, ()), ())
  else
   (ue2 (.start l0)) >>= fun t2 =>
   if (!t2.1.1) = true then
    some ((true, ()), ())
   else
    (vj1 (.start l0 t1_0 t1_1 t1_2 t1_3)) >>= fun t3 =>
    if (t3.1.1 != (0 : Int)) = true then
     some ((true, ()), ())
    else
     (run_z94 (.start l0 t1_0 t1_1 t1_2 t1_3)) >>= fun t4 =>
     if (decide (t4.1.1 > (8 : Int))) = true then
      some ((true, ()), ())
     else
      ug0 (.p15 l0 t1_0 t1_1 t1_2 t1_3)
 | .p15 l0 C0 C1 C2 C3 =>
  (ue0 (.start l0)) >>= fun t1 =>
  (uH6 (.start t1.2.1 C0 C1 C2 C3)) >>= fun t2 =>
  (ue0 (.start l0)) >>= fun t3 =>
  (uW2 (.start t3.2.1 C0 C1 C2 C3)) >>= fun t4 =>
  if (t2.1.2.1 != (0 : Int)) = true then
   some ((false, ()), ())
  else
   if (t4.1.2.1 != (0 : Int)) = true then
    some ((false, ()), ())
   else
    (uI1 (.start t2.1.1 (1 : Int) (8 : Int))) >>= fun t5 =>
    if (!t5.1.1) = true then
     some ((false, ()), ())
    else
     ug0 (.p127 l0 t2.1.1 t4.1.1 C0 C1 C2 C3)
 | .p127 l0 w5 count7 C0 C1 C2 C3 =>
  ug0 (.p4084 l0 w5 count7 (0 : Int) (0 : Int) C0 C1 C2 C3)
 | .p4084 l0 w5 count7 n9 bits10 C0 C1 C2 C3 =>
  (u29 (.start w5)) >>= fun t1 =>
  if (decide (bits10 < t1.1.1)) = true then
   (ue0 (.start l0)) >>= fun t2 =>
   (uI0 (.start t2.2.1 C0 C1 C2 C3 bits10)) >>= fun t3 =>
   if (t3.1.2.1 == (3 : Int)) = true then
    ug0 (.p4084 l0 w5 count7 n9 (IntKind.wrap .i64 (bits10 + (1 : Int))) C0 C1 C2 C3)
   else
    if (t3.1.2.1 != (0 : Int)) = true then
     some ((false, ()), ())
    else
     (uW3 (.start t3.1.1.1 t3.1.1.2.1 t3.1.1.2.2.1)) >>= fun t4 =>
     if (!t4.1.1) = true then
      some ((false, ()), ())
     else
      ug0 (.p261415 l0 w5 count7 n9 bits10 C0 C1 C2 C3 t3.1.1.1 t3.1.1.2.1 t3.1.1.2.2.1)
  else
   some ((n9 == count7, ()), ())
 | .p261415 l0 w5 count7 n9 bits10 C0 C1 C2 C3 D0 D1 D2 =>
  (ue0 (.start l0)) >>= fun t1 =>
  (uj8 (.start D0 D1 D2)) >>= fun t2 =>
  (uH9 (.start t1.2.1 C0 C1 C2 C3 t2.1.1.1 t2.1.1.2.1 t2.1.1.2.2.1)) >>= fun t3 =>
  if (t3.1.2.1 != (0 : Int)) = true then
   some ((false, ()), ())
  else
   if (t3.1.1 != bits10) = true then
    some ((false, ()), ())
   else
    ug0 (.p4084 l0 w5 count7 (IntKind.wrap .i64 (n9 + (1 : Int))) (IntKind.wrap .i64 (bits10 + (1 : Int))) C0 C1 C2 C3)
 partial_fixpoint
def wB2 : List (Plc E wj1) := [⟨15, [true, true, true], { slots := [0, 3], rows := [], flat := [], keep := 0 }, _, _, (.cons (Rd.sl 103 false) (.cons (Rd.bp 0 0) .nil)), (.cons (.var 25 (.cons (Rd.int .i64) (.cons (Rd.int .i64) (.cons Rd.str (.cons (Rd.sl 25 false) .nil))))) .nil), fun a b => .p15 a.1 b.1.1 b.1.2.1 b.1.2.2.1 b.1.2.2.2.1⟩,
 ⟨127, [true, true, true, true, true, true], { slots := [0, 3, 5, 7], rows := [], flat := [], keep := 0 }, _, _, (.cons (Rd.sl 103 false) (.cons (Rd.bp 0 0) (.cons (Rd.int .i64) (.cons (Rd.int .i64) .nil)))), (.cons (.var 25 (.cons (Rd.int .i64) (.cons (Rd.int .i64) (.cons Rd.str (.cons (Rd.sl 25 false) .nil))))) .nil), fun a b => .p127 a.1 a.2.2.1 a.2.2.2.1 b.1.1 b.1.2.1 b.1.2.2.1 b.1.2.2.2.1⟩,
 ⟨4084, [false, false, true, false, true, true, true, true, true, true, true], { slots := [0, 3, 5, 7, 9, 10], rows := [], flat := [], keep := 0 }, _, _, (.cons (Rd.sl 103 false) (.cons (Rd.bp 0 0) (.cons (Rd.int .i64) (.cons (Rd.int .i64) (.cons (Rd.int .i64) (.cons (Rd.int .i64) .nil)))))), (.cons (.var 25 (.cons (Rd.int .i64) (.cons (Rd.int .i64) (.cons Rd.str (.cons (Rd.sl 25 false) .nil))))) .nil), fun a b => .p4084 a.1 a.2.2.1 a.2.2.2.1 a.2.2.2.2.1 a.2.2.2.2.2.1 b.1.1 b.1.2.1 b.1.2.2.1 b.1.2.2.2.1⟩,
 ⟨261415, [true, true, true, false, false, true, false, false, true, false, true, true, true, true, true, true, true], { slots := [0, 3, 5, 7, 9, 10, 11], rows := [], flat := [], keep := 0 }, _, _, (.cons (Rd.sl 103 false) (.cons (Rd.bp 0 0) (.cons (Rd.int .i64) (.cons (Rd.int .i64) (.cons (Rd.int .i64) (.cons (Rd.int .i64) (.cons (Rd.bp 1 0) .nil))))))), (.cons (.var 25 (.cons (Rd.int .i64) (.cons (Rd.int .i64) (.cons Rd.str (.cons (Rd.sl 25 false) .nil))))) (.cons (.var 37 (.cons Rd.str (.cons (Rd.int .i64) (.cons (Rd.sl 37 false) .nil)))) .nil)), fun a b => .p261415 a.1 a.2.2.1 a.2.2.2.1 a.2.2.2.2.1 a.2.2.2.2.2.1 b.1.1 b.1.2.1 b.1.2.2.1 b.1.2.2.2.1 b.2.1.1 b.2.1.2.1 b.2.1.2.2.1⟩]
theorem wi3 : All (ub7 101 0 u11 wh7) wB2 := ⟨⟨rfl, rfl, fun _ _ => rfl, fun _ _ => rfl⟩, ⟨⟨rfl, rfl, fun _ _ => rfl, fun _ _ => rfl⟩, ⟨⟨rfl, rfl, fun _ _ => rfl, fun _ _ => rfl⟩, ⟨⟨rfl, rfl, fun _ _ => rfl, fun _ _ => rfl⟩, trivial⟩⟩⟩⟩
def u95 : Code := Tryz.f3.body.getD .skip
def vT0 : Spec E.S := (Con.add vY5 (Con.add wo3 (Con.add wo2 (Con.add vY6 (Con.add vZ3 (Con.add vz9 (Con.add wo0 (Con.add vY2 (Con.add wn9 (Con.add vZ4 (Con.add w94 (Con.add w81 (Con.add w79 ub0)))))))))))))
theorem vT1 : ua9 E vT0 := (Con.add_ok vq1 (Con.add_ok vX6 (Con.add_ok vX5 (Con.add_ok vq2 (Con.add_ok vq9 (Con.add_ok uZ3 (Con.add_ok vX3 (Con.add_ok vp8 (Con.add_ok vX2 (Con.add_ok vr0 (Con.add_ok wL8 (Con.add_ok wK7 (Con.add_ok wK5 ua7)))))))))))))
theorem xb2 : ∀ pt r, ug0 pt = some r → Good E Tryz.f3 u95 0 (uC1.av r) (uC1.bx r) (u11 pt) (wh7 pt) := by
 refine ug0.partial_correctness (fun pt r => Good E Tryz.f3 u95 0 (uC1.av r) (uC1.bx r) (u11 pt) (wh7 pt)) ?_
 intro run' ih pt r hr
 cases pt <;> exact ua8 (spec := vT0) (wr := (mkWr [] [])) (l := wB2) (z := 101) (p := uC1) E_ok wi3.mem rfl vT1 ih (Eq.trans (by kernel_rfl) hr)
def vz5 : Con E := ⟨3, _, _, (.cons (Rw.sl 103) (.cons (Rw.agg (.cons (Rd.int .i64).w (.cons (Rd.int .i64).w (.cons Rd.str.w (.cons (Rw.sl 25) .nil))))) .nil)), .nil, 0, xL6, fun a b => ug0 (.start a.1 a.2.1.1 a.2.1.2.1 a.2.1.2.2.1 a.2.1.2.2.2.1), uC1.av, uC1.bx⟩
theorem vX7 : vz5.Ok := fun a b r h => ub5 (fn := Tryz.f3) (code := u95) E_ok (by kernel_rfl) (by kernel_rfl) (by kernel_rfl) (Nat.le_of_ble_eq_true rfl) (xb2 (.start a.1 a.2.1.1 a.2.1.2.1 a.2.1.2.2.1 a.2.1.2.2.2.1) r h)
end
end Go.Proofs.YtaennkkcnhfglaaGreatDoor.Ev.F
