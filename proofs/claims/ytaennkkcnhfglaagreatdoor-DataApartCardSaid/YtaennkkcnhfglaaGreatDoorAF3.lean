/- A part of the proof. -/
import Derived.Test.YtaennkkcnhfglaaGreatDoorAF2
set_option linter.unusedVariables false
set_option maxRecDepth 100000
namespace Go.Proofs.YtaennkkcnhfglaaGreatDoor.Ev.F
open Go.Proofs Go.Proofs.YtaennkkcnhfglaaGreatDoor.Ev
noncomputable section
inductive vk9 where
 | start (l0 : (List ua2)) (c1_0 : ByteArray) (c1_1 : (List ua6))
 | p116 (l0 : (List ua2)) (n5 : Int) (i6 : Int) (C0 : ByteArray) (C1 : (List ua6))
def uv0 : vk9 → List Bool
 | .start .. => []
 | .p116 .. => [false, false, true, false, true, true]
def vj2 : vk9 → St E.S
 | .start l0 c1_0 c1_1 => st0 25 [.sl 103 l0 false, .agg [.v (.string c1_0), .sl 58 c1_1 false]] []
 | .p116 l0 n5 i6 C0 C1 => mkSt 25 [0, 3, 5, 6] [.sl 103 l0 false, .bp 0 0, .v (.int .i64 n5), .v (.int .i64 i6)] [.var 56 [.v (.string C0), .sl 58 C1 false]]
abbrev vt3 : Type := ((Int × Unit) × Unit)
def uj5 : Res E (Int × Unit) Unit := { rows := [], flat := [], keep := 0, done := [0], rl := (.cons (Rd.int .i64) .nil), rb := .nil }
inductive vC9 where
 | start (l0 : (List ua2)) (t1_0 : Int) (t1_1 : Int) (t1_2 : ByteArray) (t1_3 : (List ua0))
def uz6 : vC9 → List Bool
 | .start .. => []
def vs8 : vC9 → St E.S
 | .start l0 t1_0 t1_1 t1_2 t1_3 => st0 21 [.sl 103 l0 false, .agg [.v (.int .i64 t1_0), .v (.int .i64 t1_1), .v (.string t1_2), .sl 25 t1_3 false]] []
abbrev vR5 : Type := ((Int × Unit) × Unit)
def ul5 : Res E (Int × Unit) Unit := { rows := [], flat := [], keep := 0, done := [0], rl := (.cons (Rd.int .i64) .nil), rb := .nil }
inductive vl0 where
 | start (l0 : (List ua2)) (t1_0 : Int) (t1_1 : Int) (t1_2 : ByteArray) (t1_3 : (List ua0))
 | p116 (l0 : (List ua2)) (all5 : (List ua1)) (most6 : Int) (i7 : Int)
def uv1 : vl0 → List Bool
 | .start .. => []
 | .p116 .. => [false, false, true, false, true, true]
def vj3 : vl0 → St E.S
 | .start l0 t1_0 t1_1 t1_2 t1_3 => st0 26 [.sl 103 l0 false, .agg [.v (.int .i64 t1_0), .v (.int .i64 t1_1), .v (.string t1_2), .sl 25 t1_3 false]] []
 | .p116 l0 all5 most6 i7 => mkSt 26 [0, 5, 6, 7] [.sl 103 l0 false, .sl 56 all5 false, .v (.int .i64 most6), .v (.int .i64 i7)] []
abbrev vt4 : Type := ((Int × Unit) × Unit)
def uj6 : Res E (Int × Unit) Unit := { rows := [], flat := [], keep := 0, done := [0], rl := (.cons (Rd.int .i64) .nil), rb := .nil }
mutual
def uq1 : vk9 → Option vt3
 | .start l0 c1_0 c1_1 =>
  uq1 (.p116 l0 (0 : Int) (0 : Int) c1_0 c1_1)
 | .p116 l0 n5 i6 C0 C1 =>
  if (decide (i6 < (List.length C1 : Int))) = true then
   (idx C1 i6) >>= fun t1 =>
   (run_z94 (.start l0 t1.Type_.Kind t1.Type_.Value t1.Type_.Name t1.Type_.Parts)) >>= fun t2 =>
   uq1 (.p116 l0 (IntKind.wrap .i64 (n5 + t2.1.1)) (IntKind.wrap .i64 (i6 + (1 : Int))) C0 C1)
  else
   some ((n5, ()), ())
 partial_fixpoint
def run_z94 : vC9 → Option vR5
 | .start l0 t1_0 t1_1 t1_2 t1_3 =>
  (uD8 (.start t1_0 t1_1 t1_2 t1_3)) >>= fun t1 =>
  if t1.1.1 = true then
   (idx t1_3 (0 : Int)) >>= fun t2 =>
   some ((t2.Value, ()), ())
  else
   (ug2 (.start l0 t1_0 t1_1 t1_2 t1_3)) >>= fun t3 =>
   (uv6 (.start (List.length t3.1.1 : Int))) >>= fun t4 =>
   (run_z95 (.start l0 t1_0 t1_1 t1_2 t1_3)) >>= fun t5 =>
   some ((IntKind.wrap .i64 (t4.1.1 + t5.1.1), ()), ())
 partial_fixpoint
def run_z95 : vl0 → Option vt4
 | .start l0 t1_0 t1_1 t1_2 t1_3 =>
  (ug2 (.start l0 t1_0 t1_1 t1_2 t1_3)) >>= fun t1 =>
  run_z95 (.p116 l0 t1.1.1 (0 : Int) (0 : Int))
 | .p116 l0 all5 most6 i7 =>
  if (decide (i7 < (List.length all5 : Int))) = true then
   (idx all5 i7) >>= fun t1 =>
   (uq1 (.start l0 t1.Name t1.Fields)) >>= fun t2 =>
   run_z95 (.p116 l0 all5 (if t2.1.1 > most6 then t2.1.1 else most6) (IntKind.wrap .i64 (i7 + (1 : Int))))
  else
   some ((most6, ()), ())
 partial_fixpoint
end
def xo0 : List (Plc E vk9) := [⟨116, [false, false, true, false, true, true], { slots := [0, 3, 5, 6], rows := [], flat := [], keep := 0 }, _, _, (.cons (Rd.sl 103 false) (.cons (Rd.bp 0 0) (.cons (Rd.int .i64) (.cons (Rd.int .i64) .nil)))), (.cons (.var 56 (.cons Rd.str (.cons (Rd.sl 58 false) .nil))) .nil), fun a b => .p116 a.1 a.2.2.1 a.2.2.2.1 b.1.1 b.1.2.1⟩]
theorem wU0 : All (ub8 25 0 uv0 vj2) xo0 := ⟨⟨rfl, rfl, fun _ _ => rfl, fun _ _ => rfl⟩, trivial⟩
def ux1 : Code := Tryz.f87.body.getD .skip
def vW9 (run' : vk9 → Option vt3) : Con E := ⟨87, ((List ua2) × ((ByteArray × ((List ua6) × Unit)) × Unit)), Unit, (RwL.cons (Rw.sl 103) (RwL.cons (Rw.agg (RwL.cons Rd.str.w (RwL.cons (Rw.sl 58) RwL.nil))) RwL.nil)), RdBL.nil, 0, vt3, fun a b => run' (.start a.1 a.2.1.1 a.2.1.2.1), uj5.av, uj5.bx⟩
theorem vr2 {run' : vk9 → Option vt3} (ih : ∀ pt r, run' pt = some r → Good E Tryz.f87 ux1 0 (uj5.av r) (uj5.bx r) (uv0 pt) (vj2 pt)) : (vW9 run').Ok := fun a b r h => ub3 (fn := Tryz.f87) (code := ux1) E_ok (by kernel_rfl) (by kernel_rfl) (by kernel_rfl) (Nat.le_of_ble_eq_true rfl) (ih (.start a.1 a.2.1.1 a.2.1.2.1) r h)
def xo1 : List (Plc E vC9) := []
theorem wU1 : All (ub8 21 0 uz6 vs8) xo1 := trivial
def uA9 : Code := Tryz.f13.body.getD .skip
def w93 (run' : vC9 → Option vR5) : Con E := ⟨13, ((List ua2) × ((Int × (Int × (ByteArray × ((List ua0) × Unit)))) × Unit)), Unit, (RwL.cons (Rw.sl 103) (RwL.cons (Rw.agg (RwL.cons (Rd.int .i64).w (RwL.cons (Rd.int .i64).w (RwL.cons Rd.str.w (RwL.cons (Rw.sl 25) RwL.nil))))) RwL.nil)), RdBL.nil, 0, vR5, fun a b => run' (.start a.1 a.2.1.1 a.2.1.2.1 a.2.1.2.2.1 a.2.1.2.2.2.1), ul5.av, ul5.bx⟩
theorem wJ5 {run' : vC9 → Option vR5} (ih : ∀ pt r, run' pt = some r → Good E Tryz.f13 uA9 0 (ul5.av r) (ul5.bx r) (uz6 pt) (vs8 pt)) : (w93 run').Ok := fun a b r h => ub3 (fn := Tryz.f13) (code := uA9) E_ok (by kernel_rfl) (by kernel_rfl) (by kernel_rfl) (Nat.le_of_ble_eq_true rfl) (ih (.start a.1 a.2.1.1 a.2.1.2.1 a.2.1.2.2.1 a.2.1.2.2.2.1) r h)
def xo2 : List (Plc E vl0) := [⟨116, [false, false, true, false, true, true], { slots := [0, 5, 6, 7], rows := [], flat := [], keep := 0 }, _, _, (.cons (Rd.sl 103 false) (.cons (Rd.sl 56 false) (.cons (Rd.int .i64) (.cons (Rd.int .i64) .nil)))), .nil, fun a b => .p116 a.1 a.2.1 a.2.2.1 a.2.2.2.1⟩]
theorem wU2 : All (ub8 26 0 uv1 vj3) xo2 := ⟨⟨rfl, rfl, fun _ _ => rfl, fun _ _ => rfl⟩, trivial⟩
def ux2 : Code := Tryz.f45.body.getD .skip
def vX0 (run' : vl0 → Option vt4) : Con E := ⟨45, ((List ua2) × ((Int × (Int × (ByteArray × ((List ua0) × Unit)))) × Unit)), Unit, (RwL.cons (Rw.sl 103) (RwL.cons (Rw.agg (RwL.cons (Rd.int .i64).w (RwL.cons (Rd.int .i64).w (RwL.cons Rd.str.w (RwL.cons (Rw.sl 25) RwL.nil))))) RwL.nil)), RdBL.nil, 0, vt4, fun a b => run' (.start a.1 a.2.1.1 a.2.1.2.1 a.2.1.2.2.1 a.2.1.2.2.2.1), uj6.av, uj6.bx⟩
theorem vr3 {run' : vl0 → Option vt4} (ih : ∀ pt r, run' pt = some r → Good E Tryz.f45 ux2 0 (uj6.av r) (uj6.bx r) (uv1 pt) (vj3 pt)) : (vX0 run').Ok := fun a b r h => ub3 (fn := Tryz.f45) (code := ux2) E_ok (by kernel_rfl) (by kernel_rfl) (by kernel_rfl) (Nat.le_of_ble_eq_true rfl) (ih (.start a.1 a.2.1.1 a.2.1.2.1 a.2.1.2.2.1 a.2.1.2.2.2.1) r h)
def wt8 (r_z93 : vk9 → Option vt3) (r_z94 : vC9 → Option vR5) : Spec E.S := (Con.add (w93 r_z94) (Con.add (vW9 r_z93) ub0))
theorem wb7 {r_z93 : vk9 → Option vt3} (h_z93 : ∀ pt r, r_z93 pt = some r → Good E Tryz.f87 ux1 0 (uj5.av r) (uj5.bx r) (uv0 pt) (vj2 pt)) {r_z94 : vC9 → Option vR5} (h_z94 : ∀ pt r, r_z94 pt = some r → Good E Tryz.f13 uA9 0 (ul5.av r) (ul5.bx r) (uz6 pt) (vs8 pt)) : ua9 E (wt8 r_z93 r_z94) := (Con.add_ok (wJ5 h_z94) (Con.add_ok (vr2 h_z93) ua7))
def wt9 (r_z95 : vl0 → Option vt4) : Spec E.S := (Con.add (vX0 r_z95) (Con.add w34 (Con.add vx3 (Con.add vx1 ub0))))
theorem wb8 {r_z95 : vl0 → Option vt4} (h_z95 : ∀ pt r, r_z95 pt = some r → Good E Tryz.f45 ux2 0 (uj6.av r) (uj6.bx r) (uv1 pt) (vj3 pt)) : ua9 E (wt9 r_z95) := (Con.add_ok (vr3 h_z95) (Con.add_ok wF2 (Con.add_ok uX8 (Con.add_ok uX6 ua7))))
def wu0 (r_z93 : vk9 → Option vt3) (r_z95 : vl0 → Option vt4) : Spec E.S := (Con.add (vX0 r_z95) (Con.add (vW9 r_z93) (Con.add vx3 ub0)))
theorem wb9 {r_z93 : vk9 → Option vt3} (h_z93 : ∀ pt r, r_z93 pt = some r → Good E Tryz.f87 ux1 0 (uj5.av r) (uj5.bx r) (uv0 pt) (vj2 pt)) {r_z95 : vl0 → Option vt4} (h_z95 : ∀ pt r, r_z95 pt = some r → Good E Tryz.f45 ux2 0 (uj6.av r) (uj6.bx r) (uv1 pt) (vj3 pt)) : ua9 E (wu0 r_z93 r_z95) := (Con.add_ok (vr3 h_z95) (Con.add_ok (vr2 h_z93) (Con.add_ok uX8 ua7)))
theorem u82 : (∀ pt r, uq1 pt = some r → Good E Tryz.f87 ux1 0 (uj5.av r) (uj5.bx r) (uv0 pt) (vj2 pt)) ∧ (∀ pt r, run_z94 pt = some r → Good E Tryz.f13 uA9 0 (ul5.av r) (ul5.bx r) (uz6 pt) (vs8 pt)) ∧ (∀ pt r, run_z95 pt = some r → Good E Tryz.f45 ux2 0 (uj6.av r) (uj6.bx r) (uv1 pt) (vj3 pt)) := by
  refine uq1.mutual_partial_correctness (fun pt r => Good E Tryz.f87 ux1 0 (uj5.av r) (uj5.bx r) (uv0 pt) (vj2 pt)) (fun pt r => Good E Tryz.f13 uA9 0 (ul5.av r) (ul5.bx r) (uz6 pt) (vs8 pt)) (fun pt r => Good E Tryz.f45 ux2 0 (uj6.av r) (uj6.bx r) (uv1 pt) (vj3 pt)) ?_ ?_ ?_
  · intro r_z93 r_z94 h_z93 h_z94 pt r hr
    cases pt <;> exact ua8 (spec := (wt8 r_z93 r_z94)) (wr := (mkWr [] [])) (l := xo0) (z := 25) (p := uj5) E_ok wU0.mem rfl (wb7 h_z93 h_z94) h_z93 (Eq.trans (by kernel_rfl) hr)
  · intro r_z95 h_z95 pt r hr
    cases pt <;> exact ua8 (spec := (wt9 r_z95)) (wr := (mkWr [] [])) (l := xo1) (z := 21) (p := ul5) (run' := fun _ => none) E_ok wU1.mem rfl (wb8 h_z95) (fun _ _ h => by cases h) (Eq.trans (by kernel_rfl) hr)
  · intro r_z93 r_z95 h_z93 h_z95 pt r hr
    cases pt <;> exact ua8 (spec := (wu0 r_z93 r_z95)) (wr := (mkWr [] [])) (l := xo2) (z := 26) (p := uj6) E_ok wU2.mem rfl (wb9 h_z93 h_z95) h_z95 (Eq.trans (by kernel_rfl) hr)
theorem xB8 : ∀ pt r, uq1 pt = some r → Good E Tryz.f87 ux1 0 (uj5.av r) (uj5.bx r) (uv0 pt) (vj2 pt) := u82.1
theorem xB9 : ∀ pt r, run_z94 pt = some r → Good E Tryz.f13 uA9 0 (ul5.av r) (ul5.bx r) (uz6 pt) (vs8 pt) := u82.2.1
theorem xC0 : ∀ pt r, run_z95 pt = some r → Good E Tryz.f45 ux2 0 (uj6.av r) (uj6.bx r) (uv1 pt) (vj3 pt) := u82.2.2
def xS3 : Con E := ⟨87, _, _, (.cons (Rw.sl 103) (.cons (Rw.agg (.cons Rd.str.w (.cons (Rw.sl 58) .nil))) .nil)), .nil, 0, vt3, fun a b => uq1 (.start a.1 a.2.1.1 a.2.1.2.1), uj5.av, uj5.bx⟩
theorem xZ2 : xS3.Ok := fun a b r h => ub3 (fn := Tryz.f87) (code := ux1) E_ok (by kernel_rfl) (by kernel_rfl) (by kernel_rfl) (Nat.le_of_ble_eq_true rfl) (xB8 (.start a.1 a.2.1.1 a.2.1.2.1) r h)
def w35 : Con E := ⟨13, _, _, (.cons (Rw.sl 103) (.cons (Rw.agg (.cons (Rd.int .i64).w (.cons (Rd.int .i64).w (.cons Rd.str.w (.cons (Rw.sl 25) .nil))))) .nil)), .nil, 0, vR5, fun a b => run_z94 (.start a.1 a.2.1.1 a.2.1.2.1 a.2.1.2.2.1 a.2.1.2.2.2.1), ul5.av, ul5.bx⟩
theorem wF3 : w35.Ok := fun a b r h => ub3 (fn := Tryz.f13) (code := uA9) E_ok (by kernel_rfl) (by kernel_rfl) (by kernel_rfl) (Nat.le_of_ble_eq_true rfl) (xB9 (.start a.1 a.2.1.1 a.2.1.2.1 a.2.1.2.2.1 a.2.1.2.2.2.1) r h)
def xS4 : Con E := ⟨45, _, _, (.cons (Rw.sl 103) (.cons (Rw.agg (.cons (Rd.int .i64).w (.cons (Rd.int .i64).w (.cons Rd.str.w (.cons (Rw.sl 25) .nil))))) .nil)), .nil, 0, vt4, fun a b => run_z95 (.start a.1 a.2.1.1 a.2.1.2.1 a.2.1.2.2.1 a.2.1.2.2.2.1), uj6.av, uj6.bx⟩
theorem xZ3 : xS4.Ok := fun a b r h => ub3 (fn := Tryz.f45) (code := ux2) E_ok (by kernel_rfl) (by kernel_rfl) (by kernel_rfl) (Nat.le_of_ble_eq_true rfl) (xC0 (.start a.1 a.2.1.1 a.2.1.2.1 a.2.1.2.2.1 a.2.1.2.2.2.1) r h)
inductive xr2 where
 | start (l0 : (List ua2)) (t1_0 : Int) (t1_1 : Int) (t1_2 : ByteArray) (t1_3 : (List ua0))
def vM0 : xr2 → List Bool
 | .start .. => []
def xL6 : xr2 → St E.S
 | .start l0 t1_0 t1_1 t1_2 t1_3 => st0 27 [.sl 103 l0 false, .agg [.v (.int .i64 t1_0), .v (.int .i64 t1_1), .v (.string t1_2), .sl 25 t1_3 false]] []
abbrev x17 : Type := ((Int × Unit) × Unit)
def vf6 : Res E (Int × Unit) Unit := { rows := [], flat := [], keep := 0, done := [0], rl := (.cons (Rd.int .i64) .nil), rb := .nil }
def vB2 : xr2 → Option x17
 | .start l0 t1_0 t1_1 t1_2 t1_3 =>
  (u08 (.start l0 ([]) t1_0 t1_1 t1_2 t1_3)) >>= fun t1 =>
  if (t1.1.1 != (0 : Int)) = true then
   some ((t1.1.1, ()), ())
  else
   (uc3 (.start l0 t1_0 t1_1 t1_2 t1_3 (0 : Int) (0 : Int) (0 : Int))) >>= fun t2 =>
   if (t2.1.1.2.1 != (0 : Int)) = true then
    some ((t2.1.1.2.1, ()), ())
   else
    (run_z94 (.start l0 t1_0 t1_1 t1_2 t1_3)) >>= fun t3 =>
    (uR2 (.start t3.1.1)) >>= fun t4 =>
    if (!t4.1.1) = true then
     some (((25 : Int), ()), ())
    else
     some (((0 : Int), ()), ())
def xo3 : List (Plc E xr2) := []
theorem wU3 : All (ub8 27 0 vM0 xL6) xo3 := trivial
def wi1 : Code := Tryz.f63.body.getD .skip
def wu1 : Spec E.S := (Con.add vx2 (Con.add w35 (Con.add w33 (Con.add vU0 ub0))))
theorem wc0 : ua9 E wu1 := (Con.add_ok uX7 (Con.add_ok wF3 (Con.add_ok wF1 (Con.add_ok vo7 ua7))))
theorem xC1 : ∀ pt r, vB2 pt = some r → Good E Tryz.f63 wi1 0 (vf6.av r) (vf6.bx r) (vM0 pt) (xL6 pt) := by
 intro pt r hr
 cases pt <;> exact ua8 (spec := wu1) (wr := (mkWr [] [])) (l := xo3) (z := 27) (p := vf6) (run' := fun _ => none) E_ok wU3.mem rfl wc0 (fun _ _ h => by cases h) (Eq.trans (by kernel_rfl) hr)
def w36 : Con E := ⟨63, _, _, (.cons (Rw.sl 103) (.cons (Rw.agg (.cons (Rd.int .i64).w (.cons (Rd.int .i64).w (.cons Rd.str.w (.cons (Rw.sl 25) .nil))))) .nil)), .nil, 0, x17, fun a b => vB2 (.start a.1 a.2.1.1 a.2.1.2.1 a.2.1.2.2.1 a.2.1.2.2.2.1), vf6.av, vf6.bx⟩
theorem wF4 : w36.Ok := fun a b r h => ub3 (fn := Tryz.f63) (code := wi1) E_ok (by kernel_rfl) (by kernel_rfl) (by kernel_rfl) (Nat.le_of_ble_eq_true rfl) (xC1 (.start a.1 a.2.1.1 a.2.1.2.1 a.2.1.2.2.1 a.2.1.2.2.2.1) r h)
inductive xr3 where
 | start (l0 : (List ua2)) (t1_0 : Int) (t1_1 : Int) (t1_2 : ByteArray) (t1_3 : (List ua0))
def vM1 : xr3 → List Bool
 | .start .. => []
def xL7 : xr3 → St E.S
 | .start l0 t1_0 t1_1 t1_2 t1_3 => st0 14 [.sl 103 l0 false, .agg [.v (.int .i64 t1_0), .v (.int .i64 t1_1), .v (.string t1_2), .sl 25 t1_3 false]] []
abbrev x18 : Type := ((Int × Unit) × Unit)
def vf7 : Res E (Int × Unit) Unit := { rows := [], flat := [], keep := 0, done := [0], rl := (.cons (Rd.int .i64) .nil), rb := .nil }
def vh4 : xr3 → Option x18
 | .start l0 t1_0 t1_1 t1_2 t1_3 =>
  (vB1 (.start l0)) >>= fun t1 =>
  if (t1.1.1 != (0 : Int)) = true then
   some ((t1.1.1, ()), ())
  else
   (vB2 (.start l0 t1_0 t1_1 t1_2 t1_3)) >>= fun t2 =>
   some ((t2.1.1, ()), ())
def xo4 : List (Plc E xr3) := []
theorem wU4 : All (ub8 14 0 vM1 xL7) xo4 := trivial
def wi2 : Code := Tryz.f12.body.getD .skip
def wu2 : Spec E.S := (Con.add w36 (Con.add w30 ub0))
theorem wc1 : ua9 E wu2 := (Con.add_ok wF4 (Con.add_ok wE9 ua7))
theorem xC2 : ∀ pt r, vh4 pt = some r → Good E Tryz.f12 wi2 0 (vf7.av r) (vf7.bx r) (vM1 pt) (xL7 pt) := by
 intro pt r hr
 cases pt <;> exact ua8 (spec := wu2) (wr := (mkWr [] [])) (l := xo4) (z := 14) (p := vf7) (run' := fun _ => none) E_ok wU4.mem rfl wc1 (fun _ _ h => by cases h) (Eq.trans (by kernel_rfl) hr)
def w37 : Con E := ⟨12, _, _, (.cons (Rw.sl 103) (.cons (Rw.agg (.cons (Rd.int .i64).w (.cons (Rd.int .i64).w (.cons Rd.str.w (.cons (Rw.sl 25) .nil))))) .nil)), .nil, 0, x18, fun a b => vh4 (.start a.1 a.2.1.1 a.2.1.2.1 a.2.1.2.2.1 a.2.1.2.2.2.1), vf7.av, vf7.bx⟩
theorem wF5 : w37.Ok := fun a b r h => ub3 (fn := Tryz.f12) (code := wi2) E_ok (by kernel_rfl) (by kernel_rfl) (by kernel_rfl) (Nat.le_of_ble_eq_true rfl) (xC2 (.start a.1 a.2.1.1 a.2.1.2.1 a.2.1.2.2.1 a.2.1.2.2.2.1) r h)
inductive xr4 where
 | start (l0 : (List ByteArray))
def vM2 : xr4 → List Bool
 | .start .. => []
def xL8 : xr4 → St E.S
 | .start l0 => st0 6 [.sl 9 l0 false] []
abbrev x19 : Type := ((Unit × Unit) × ((List ByteArray) × Unit))
def vf8 : Res E (Unit × Unit) ((List ByteArray) × Unit) := { rows := [], flat := [], keep := 0, done := [0], rl := (.cons (Rd.rw 0) .nil), rb := (.cons (.row 9 true) .nil) }
def vB3 : xr4 → Option x19
 | .start l0 =>
  if (fits (List.length ([] : List ByteArray)) (List.length l0) 16) = true then
   some (((), ()), (([] : List ByteArray) ++ l0, ()))
  else none
def xo5 : List (Plc E xr4) := []
theorem wU5 : All (ub8 6 0 vM2 xL8) xo5 := trivial
def wi3 : Code := Tryz.f66.body.getD .skip
def wu3 : Spec E.S := ub0
theorem wc2 : ua9 E wu3 := ua7
theorem xC3 : ∀ pt r, vB3 pt = some r → Good E Tryz.f66 wi3 0 (vf8.av r) (vf8.bx r) (vM2 pt) (xL8 pt) := by
 intro pt r hr
 cases pt <;> exact ua8 (spec := wu3) (wr := (mkWr [] [])) (l := xo5) (z := 6) (p := vf8) (run' := fun _ => none) E_ok wU5.mem rfl wc2 (fun _ _ h => by cases h) (Eq.trans (by kernel_rfl) hr)
def w38 : Con E := ⟨66, _, _, (.cons (Rw.sl 9) .nil), .nil, 0, x19, fun a b => vB3 (.start a.1), vf8.av, vf8.bx⟩
theorem wF6 : w38.Ok := fun a b r h => ub3 (fn := Tryz.f66) (code := wi3) E_ok (by kernel_rfl) (by kernel_rfl) (by kernel_rfl) (Nat.le_of_ble_eq_true rfl) (xC3 (.start a.1) r h)
inductive xr5 where
 | start (l0 : (List ua6))
 | p116 (l0 : (List ua6)) (i4 : Int) (B0 : (List ua6))
def vb9 : xr5 → List Bool
 | .start .. => []
 | .p116 .. => [false, false, true, false, true, true]
def xe5 : xr5 → St E.S
 | .start l0 => st0 27 [.sl 58 l0 false] []
 | .p116 l0 i4 B0 => mkSt 27 [0, 3, 4] [.sl 58 l0 false, .rw 0, .v (.int .i64 i4)] [.row 58 B0 false]
abbrev x20 : Type := ((Unit × Unit) × ((List ua6) × Unit))
def uQ8 : Res E (Unit × Unit) ((List ua6) × Unit) := { rows := [], flat := [], keep := 0, done := [0], rl := (.cons (Rd.rw 0) .nil), rb := (.cons (.row 58 true) .nil) }
def ur7 : xr5 → Option x20
 | .start l0 =>
  ur7 (.p116 l0 (0 : Int) ([] : List ua6))
 | .p116 l0 i4 B0 =>
  if (decide (i4 < (List.length l0 : Int))) = true then
   (idx l0 i4) >>= fun t1 =>
   (idx l0 i4) >>= fun t2 =>
   (un7 (.start t2.Type_.Kind t2.Type_.Value t2.Type_.Name t2.Type_.Parts)) >>= fun t3 =>
   if (fits (List.length B0) (List.length ([(⟨t1.Name, (⟨t3.1.1.1, t3.1.1.2.1, t3.1.1.2.2.1, t3.1.1.2.2.2.1⟩ : ua0)⟩ : ua6)] : List ua6)) 72) = true then
    ur7 (.p116 l0 (IntKind.wrap .i64 (i4 + (1 : Int))) (B0 ++ ([(⟨t1.Name, (⟨t3.1.1.1, t3.1.1.2.1, t3.1.1.2.2.1, t3.1.1.2.2.2.1⟩ : ua0)⟩ : ua6)] : List ua6)))
   else none
  else
   some (((), ()), (B0, ()))
 partial_fixpoint
def xo6 : List (Plc E xr5) := [⟨116, [false, false, true, false, true, true], { slots := [0, 3, 4], rows := [(3, 58)], flat := [], keep := 0 }, _, _, (.cons (Rd.sl 58 false) (.cons (Rd.rw 0) (.cons (Rd.int .i64) .nil))), (.cons (.row 58 false) .nil), fun a b => .p116 a.1 a.2.2.1 b.1⟩]
theorem wU6 : All (ub8 27 0 vb9 xe5) xo6 := ⟨⟨rfl, rfl, fun _ _ => rfl, fun _ _ => rfl⟩, trivial⟩
def vw4 : Code := Tryz.f67.body.getD .skip
def wu4 : Spec E.S := (Con.add vU1 ub0)
theorem wc3 : ua9 E wu4 := (Con.add_ok vo8 ua7)
theorem xC4 : ∀ pt r, ur7 pt = some r → Good E Tryz.f67 vw4 0 (uQ8.av r) (uQ8.bx r) (vb9 pt) (xe5 pt) := by
 refine ur7.partial_correctness (fun pt r => Good E Tryz.f67 vw4 0 (uQ8.av r) (uQ8.bx r) (vb9 pt) (xe5 pt)) ?_
 intro run' ih pt r hr
 cases pt <;> exact ua8 (spec := wu4) (wr := (mkWr [] [])) (l := xo6) (z := 27) (p := uQ8) E_ok wU6.mem rfl wc3 ih (Eq.trans (by kernel_rfl) hr)
def w39 : Con E := ⟨67, _, _, (.cons (Rw.sl 58) .nil), .nil, 0, x20, fun a b => ur7 (.start a.1), uQ8.av, uQ8.bx⟩
theorem wF7 : w39.Ok := fun a b r h => ub3 (fn := Tryz.f67) (code := vw4) E_ok (by kernel_rfl) (by kernel_rfl) (by kernel_rfl) (Nat.le_of_ble_eq_true rfl) (xC4 (.start a.1) r h)
inductive wd4 where
 | start (l0 : (List ua2))
 | p116 (l0 : (List ua2)) (i4 : Int) (B0 : (List ua2))
 | p29844 (l0 : (List ua2)) (i4 : Int) (k6 : Int) (B0 : (List ua2)) (B1 : ByteArray) (B2 : (List ByteArray)) (B3 : (List ua1))
def uZ2 : wd4 → List Bool
 | .start .. => []
 | .p116 .. => [false, false, true, false, true, true]
 | .p29844 .. => [false, false, true, false, true, false, false, true, false, false, true, false, true, true]
def wc4 : wd4 → St E.S
 | .start l0 => st0 60 [.sl 103 l0 false] []
 | .p116 l0 i4 B0 => mkSt 60 [0, 3, 4] [.sl 103 l0 false, .rw 0, .v (.int .i64 i4)] [.row 103 B0 false]
 | .p29844 l0 i4 k6 B0 B1 B2 B3 => mkSt 60 [0, 3, 4, 5, 6] [.sl 103 l0 false, .rw 0, .v (.int .i64 i4), .bp 1 0, .v (.int .i64 k6)] [.row 103 B0 false, .var 103 [.v (.string B1), .rw 2, .rw 3], .row 9 B2 true, .row 56 B3 false]
abbrev xG0 : Type := ((Unit × Unit) × ((List ua2) × Unit))
def uC1 : Res E (Unit × Unit) ((List ua2) × Unit) := { rows := [(0, 103)], flat := [], keep := 0, done := [0], rl := (.cons (Rd.rw 0) .nil), rb := (.cons (.row 103 true) .nil) }
def ue7 : wd4 → Option xG0
 | .start l0 =>
  ue7 (.p116 l0 (0 : Int) ([] : List ua2))
 | .p116 l0 i4 B0 =>
  if (decide (i4 < (List.length l0 : Int))) = true then
   (idx l0 i4) >>= fun t1 =>
   (idx l0 i4) >>= fun t2 =>
   (vB3 (.start t2.Params)) >>= fun t3 =>
   ue7 (.p29844 l0 i4 (0 : Int) B0 t1.Name t3.2.1 ([] : List ua1))
  else
   some (((), ()), (B0, ()))
 | .p29844 l0 i4 k6 B0 B1 B2 B3 =>
  (idx l0 i4) >>= fun t1 =>
  if (decide (k6 < (List.length t1.Constructors : Int))) = true then
   (idx l0 i4) >>= fun t2 =>
   (idx t2.Constructors k6) >>= fun t3 =>
   (ur7 (.start t3.Fields)) >>= fun t4 =>
   if (fits (List.length B3) (List.length ([(⟨t3.Name, t4.2.1⟩ : ua1)] : List ua1)) 40) = true then
    ue7 (.p29844 l0 i4 (IntKind.wrap .i64 (k6 + (1 : Int))) B0 B1 B2 (B3 ++ ([(⟨t3.Name, t4.2.1⟩ : ua1)] : List ua1)))
   else none
  else
   if (fits (List.length B0) (List.length ([(⟨B1, B2, B3⟩ : ua2)] : List ua2)) 64) = true then
    ue7 (.p116 l0 (IntKind.wrap .i64 (i4 + (1 : Int))) (B0 ++ ([(⟨B1, B2, B3⟩ : ua2)] : List ua2)))
   else none
 partial_fixpoint
def wu7 : List (Plc E wd4) := [⟨116, [false, false, true, false, true, true], { slots := [0, 3, 4], rows := [(3, 103)], flat := [], keep := 0 }, _, _, (.cons (Rd.sl 103 false) (.cons (Rd.rw 0) (.cons (Rd.int .i64) .nil))), (.cons (.row 103 false) .nil), fun a b => .p116 a.1 a.2.2.1 b.1⟩,
 ⟨29844, [false, false, true, false, true, false, false, true, false, false, true, false, true, true], { slots := [0, 3, 4, 5, 6], rows := [], flat := [], keep := 0, up := [(true, 5, 2, 56)] }, _, _, (.cons (Rd.sl 103 false) (.cons (Rd.rw 0) (.cons (Rd.int .i64) (.cons (Rd.bp 1 0) (.cons (Rd.int .i64) .nil))))), (.cons (.row 103 false) (.cons (.var 103 (.cons Rd.str (.cons (Rd.rw 2) (.cons (Rd.rw 3) .nil)))) (.cons (.row 9 true) (.cons (.row 56 false) .nil)))), fun a b => .p29844 a.1 a.2.2.1 a.2.2.2.2.1 b.1 b.2.1.1 b.2.2.1 b.2.2.2.1⟩]
theorem wc7 : All (ub8 60 0 uZ2 wc4) wu7 := ⟨⟨rfl, rfl, fun _ _ => rfl, fun _ _ => rfl⟩, ⟨⟨rfl, rfl, fun _ _ => rfl, fun _ _ => rfl⟩, trivial⟩⟩
def u66 : Code := Tryz.f15.body.getD .skip
def vO4 : Spec E.S := (Con.add w39 (Con.add w38 ub0))
theorem vO5 : ua9 E vO4 := (Con.add_ok wF7 (Con.add_ok wF6 ua7))
theorem w51 : ∀ pt r, ue7 pt = some r → Good E Tryz.f15 u66 0 (uC1.av r) (uC1.bx r) (uZ2 pt) (wc4 pt) := by
 refine ue7.partial_correctness (fun pt r => Good E Tryz.f15 u66 0 (uC1.av r) (uC1.bx r) (uZ2 pt) (wc4 pt)) ?_
 intro run' ih pt r hr
 cases pt <;> exact ua8 (spec := vO4) (wr := (mkWr [] [(3731, [5])])) (l := wu7) (z := 60) (p := uC1) E_ok wc7.mem rfl vO5 ih (Eq.trans (by kernel_rfl) hr)
def wi4 : Con E := ⟨15, _, _, (.cons (Rw.sl 103) .nil), .nil, 0, xG0, fun a b => ue7 (.start a.1), uC1.av, uC1.bx⟩
theorem vS4 : wi4.Ok := fun a b r h => ub3 (fn := Tryz.f15) (code := u66) E_ok (by kernel_rfl) (by kernel_rfl) (by kernel_rfl) (Nat.le_of_ble_eq_true rfl) (w51 (.start a.1) r h)
inductive wd5 where
 | start (l0 : (List ua2)) (t1_0 : Int) (t1_1 : Int) (t1_2 : ByteArray) (t1_3 : (List ua0))
 | p1012 (s31 : (Option (List data_variant))) (s32 : Int) (s33 : Int) (B0 : (List ub2))
 | p2074228 (low13 : Int) (s31 : (Option (List data_variant))) (s32 : Int) (s33 : Int) (s45 : (Option (List (Option ua4)))) (s46 : Int) (s47 : Int) (B0 : (List ub2)) (D0 : ByteArray) (D1 : (List ua6)) (D2 : (Option (List (Option ua4)))) (G0 : ByteArray) (G1 : Int) (B3 : (List uc9))
def uZ3 : wd5 → List Bool
 | .start .. => []
 | .p1012 .. => [false, false, true, false, true, true, true, true, true]
 | .p2074228 .. => [false, false, true, false, true, true, true, false, false, true, true, false, false, true, false, true, true, true, true, true]
def wc5 : wd5 → St E.S
 | .start l0 t1_0 t1_1 t1_2 t1_3 => st0 78 [.sl 103 l0 false, .agg [.v (.int .i64 t1_0), .v (.int .i64 t1_1), .v (.string t1_2), .sl 25 t1_3 false]] []
 | .p1012 s31 s32 s33 B0 => mkSt 78 [9, 31, 32, 33] [.rw 0, .so 125 s31, .v (.int .i64 s32), .v (.int .i64 s33)] [.row 81 B0 false]
 | .p2074228 low13 s31 s32 s33 s45 s46 s47 B0 D0 D1 D2 G0 G1 B3 => mkSt 78 [9, 11, 12, 13, 31, 32, 33, 45, 46, 47] [.rw 0, .bp 1 0, .bp 2 0, .v (.int .i64 low13), .so 125 s31, .v (.int .i64 s32), .v (.int .i64 s33), .so 105 s45, .v (.int .i64 s46), .v (.int .i64 s47)] [.row 81 B0 false, .var 125 [.v (.string D0), .sl 58 D1 false, .so 105 D2], .var 81 [.v (.string G0), .v (.int .i64 G1), .rw 3], .row 75 B3 false]
abbrev xG1 : Type := ((Unit × (Int × Unit)) × ((List ub2) × Unit))
def uC2 : Res E (Unit × (Int × Unit)) ((List ub2) × Unit) := { rows := [(0, 81)], flat := [], keep := 0, done := [0, 1], rl := (.cons (Rd.rw 0) (.cons (Rd.int .i64) .nil)), rb := (.cons (.row 81 true) .nil) }
def ud5 : wd5 → Option xG1
 | .start l0 t1_0 t1_1 t1_2 t1_3 =>
  (ur5 (.start l0 t1_0 t1_1 t1_2 t1_3)) >>= fun t1 =>
  if (t1.1.2.2.1 != (0 : Int)) = true then
   some (((), (t1.1.2.2.1, ())), (([] : List ub2), ()))
  else
   (un4 (.start t1.1.1)) >>= fun t2 =>
   if t2.1.1 = true then
    some (((), ((15 : Int), ())), (([] : List ub2), ()))
   else
    t1.1.1 >>= fun t3 =>
    ud5 (.p1012 t3.constructors (List.length (Option.getD t3.constructors []) : Int) (0 : Int) ([] : List ub2))
 | .p1012 s31 s32 s33 B0 =>
  if (decide (s33 < s32)) = true then
   (idx (Option.getD s31 []) s33) >>= fun t1 =>
   (uh9 (.start t1.name t1.fields t1.parts)) >>= fun t2 =>
   ud5 (.p2074228 t2.1.1 s31 s32 s33 t1.parts (List.length (Option.getD t1.parts []) : Int) (0 : Int) B0 t1.name t1.fields t1.parts t1.name s33 ([] : List uc9))
  else
   some (((), ((0 : Int), ())), (B0, ()))
 | .p2074228 low13 s31 s32 s33 s45 s46 s47 B0 D0 D1 D2 G0 G1 B3 =>
  if (decide (s47 < s46)) = true then
   (idx (Option.getD s45 []) s47) >>= fun t1 =>
   (run_z41 (.start t1)) >>= fun t2 =>
   (idx D1 s47) >>= fun t3 =>
   (run_z41 (.start t1)) >>= fun t4 =>
   if (fits (List.length B3) (List.length ([(⟨t3.Name, IntKind.wrap .i64 (low13 - t2.1.1), t4.1.1⟩ : uc9)] : List uc9)) 32) = true then
    ud5 (.p2074228 (IntKind.wrap .i64 (low13 - t2.1.1)) s31 s32 s33 s45 s46 (IntKind.wrap .i64 (s47 + (1 : Int))) B0 D0 D1 D2 G0 G1 (B3 ++ ([(⟨t3.Name, IntKind.wrap .i64 (low13 - t2.1.1), t4.1.1⟩ : uc9)] : List uc9)))
   else none
  else
   if (fits (List.length B0) (List.length ([(⟨G0, G1, B3⟩ : ub2)] : List ub2)) 48) = true then
    ud5 (.p1012 s31 s32 (IntKind.wrap .i64 (s33 + (1 : Int))) (B0 ++ ([(⟨G0, G1, B3⟩ : ub2)] : List ub2)))
   else none
 partial_fixpoint
def wu8 : List (Plc E wd5) := [⟨1012, [false, false, true, false, true, true, true, true, true], { slots := [9, 31, 32, 33], rows := [(9, 81)], flat := [], keep := 0 }, _, _, (.cons (Rd.rw 0) (.cons (Rd.so 125) (.cons (Rd.int .i64) (.cons (Rd.int .i64) .nil)))), (.cons (.row 81 false) .nil), fun a b => .p1012 a.2.1 a.2.2.1 a.2.2.2.1 b.1⟩,
 ⟨2074228, [false, false, true, false, true, true, true, false, false, true, true, false, false, true, false, true, true, true, true, true], { slots := [9, 11, 12, 13, 31, 32, 33, 45, 46, 47], rows := [], flat := [], keep := 0, up := [(true, 12, 2, 75)] }, _, _, (.cons (Rd.rw 0) (.cons (Rd.bp 1 0) (.cons (Rd.bp 2 0) (.cons (Rd.int .i64) (.cons (Rd.so 125) (.cons (Rd.int .i64) (.cons (Rd.int .i64) (.cons (Rd.so 105) (.cons (Rd.int .i64) (.cons (Rd.int .i64) .nil)))))))))), (.cons (.row 81 false) (.cons (.var 125 (.cons Rd.str (.cons (Rd.sl 58 false) (.cons (Rd.so 105) .nil)))) (.cons (.var 81 (.cons Rd.str (.cons (Rd.int .i64) (.cons (Rd.rw 3) .nil)))) (.cons (.row 75 false) .nil)))), fun a b => .p2074228 a.2.2.2.1 a.2.2.2.2.1 a.2.2.2.2.2.1 a.2.2.2.2.2.2.1 a.2.2.2.2.2.2.2.1 a.2.2.2.2.2.2.2.2.1 a.2.2.2.2.2.2.2.2.2.1 b.1 b.2.1.1 b.2.1.2.1 b.2.1.2.2.1 b.2.2.1.1 b.2.2.1.2.1 b.2.2.2.1⟩]
theorem wc8 : All (ub8 78 0 uZ3 wc5) wu8 := ⟨⟨rfl, rfl, fun _ _ => rfl, fun _ _ => rfl⟩, ⟨⟨rfl, rfl, fun _ _ => rfl, fun _ _ => rfl⟩, trivial⟩⟩
def u67 : Code := Tryz.f42.body.getD .skip
def vO6 : Spec E.S := (Con.add uN3 (Con.add vT3 (Con.add uB0 (Con.add uN4 ub0))))
theorem vO7 : ua9 E vO6 := (Con.add_ok ut0 (Con.add_ok vo0 (Con.add_ok um1 (Con.add_ok ut1 ua7))))
theorem w52 : ∀ pt r, ud5 pt = some r → Good E Tryz.f42 u67 0 (uC2.av r) (uC2.bx r) (uZ3 pt) (wc5 pt) := by
 refine ud5.partial_correctness (fun pt r => Good E Tryz.f42 u67 0 (uC2.av r) (uC2.bx r) (uZ3 pt) (wc5 pt)) ?_
 intro run' ih pt r hr
 cases pt <;> exact ua8 (spec := vO6) (wr := (mkWr [] [(259279, [12])])) (l := wu8) (z := 78) (p := uC2) E_ok wc8.mem rfl vO7 ih (Eq.trans (by kernel_rfl) hr)
def wi5 : Con E := ⟨42, _, _, (.cons (Rw.sl 103) (.cons (Rw.agg (.cons (Rd.int .i64).w (.cons (Rd.int .i64).w (.cons Rd.str.w (.cons (Rw.sl 25) .nil))))) .nil)), .nil, 0, xG1, fun a b => ud5 (.start a.1 a.2.1.1 a.2.1.2.1 a.2.1.2.2.1 a.2.1.2.2.2.1), uC2.av, uC2.bx⟩
theorem vS5 : wi5.Ok := fun a b r h => ub3 (fn := Tryz.f42) (code := u67) E_ok (by kernel_rfl) (by kernel_rfl) (by kernel_rfl) (Nat.le_of_ble_eq_true rfl) (w52 (.start a.1 a.2.1.1 a.2.1.2.1 a.2.1.2.2.1 a.2.1.2.2.2.1) r h)
inductive wd6 where
 | start (l0 : (List ua2)) (t1_0 : Int) (t1_1 : Int) (t1_2 : ByteArray) (t1_3 : (List ua0))
def vq2 : wd6 → List Bool
 | .start .. => []
def xc2 : wd6 → St E.S
 | .start l0 t1_0 t1_1 t1_2 t1_3 => st0 28 [.sl 103 l0 false, .agg [.v (.int .i64 t1_0), .v (.int .i64 t1_1), .v (.string t1_2), .sl 25 t1_3 false]] []
abbrev xG2 : Type := (((ByteArray × (Int × (Int × Unit))) × (Int × Unit)) × Unit)
def uT6 : Res E ((ByteArray × (Int × (Int × Unit))) × (Int × Unit)) Unit := { rows := [], flat := [], keep := 0, done := [0, 1], rl := (.cons (Rd.agg (.cons Rd.str (.cons (Rd.int .i64) (.cons (Rd.int .i64) .nil)))) (.cons (Rd.int .i64) .nil)), rb := .nil }
def us7 : wd6 → Option xG2
 | .start l0 t1_0 t1_1 t1_2 t1_3 =>
  (ur5 (.start l0 t1_0 t1_1 t1_2 t1_3)) >>= fun t1 =>
  if (t1.1.2.2.1 != (0 : Int)) = true then
   some ((((⟨#[]⟩ : ByteArray), ((0 : Int), ((0 : Int), ()))), (t1.1.2.2.1, ())), ())
  else
   (un4 (.start t1.1.1)) >>= fun t2 =>
   if t2.1.1 = true then
    some ((((⟨#[]⟩ : ByteArray), ((0 : Int), ((0 : Int), ()))), ((15 : Int), ())), ())
   else
    (run_z42 (.start t1.1.1)) >>= fun t3 =>
    (uI0 (.start t1.1.1)) >>= fun t4 =>
    some ((((⟨#[]⟩ : ByteArray), (t3.1.1, (t4.1.1, ()))), ((0 : Int), ())), ())
def wu9 : List (Plc E wd6) := []
theorem wc9 : All (ub8 28 0 vq2 xc2) wu9 := trivial
def vG0 : Code := Tryz.f43.body.getD .skip
def vO8 : Spec E.S := (Con.add vT2 (Con.add vw7 (Con.add uB0 (Con.add uN4 ub0))))
theorem vO9 : ua9 E vO8 := (Con.add_ok vn9 (Con.add_ok uX2 (Con.add_ok um1 (Con.add_ok ut1 ua7))))
theorem w53 : ∀ pt r, us7 pt = some r → Good E Tryz.f43 vG0 0 (uT6.av r) (uT6.bx r) (vq2 pt) (xc2 pt) := by
 intro pt r hr
 cases pt <;> exact ua8 (spec := vO8) (wr := (mkWr [] [])) (l := wu9) (z := 28) (p := uT6) (run' := fun _ => none) E_ok wc9.mem rfl vO9 (fun _ _ h => by cases h) (Eq.trans (by kernel_rfl) hr)
def wi6 : Con E := ⟨43, _, _, (.cons (Rw.sl 103) (.cons (Rw.agg (.cons (Rd.int .i64).w (.cons (Rd.int .i64).w (.cons Rd.str.w (.cons (Rw.sl 25) .nil))))) .nil)), .nil, 0, xG2, fun a b => us7 (.start a.1 a.2.1.1 a.2.1.2.1 a.2.1.2.2.1 a.2.1.2.2.2.1), uT6.av, uT6.bx⟩
theorem vS6 : wi6.Ok := fun a b r h => ub3 (fn := Tryz.f43) (code := vG0) E_ok (by kernel_rfl) (by kernel_rfl) (by kernel_rfl) (Nat.le_of_ble_eq_true rfl) (w53 (.start a.1 a.2.1.1 a.2.1.2.1 a.2.1.2.2.1 a.2.1.2.2.2.1) r h)
inductive wd7 where
 | start (l0 : (List ua2)) (t1_0 : Int) (t1_1 : Int) (t1_2 : ByteArray) (t1_3 : (List ua0))
 | p15 (l0 : (List ua2)) (C0 : Int) (C1 : Int) (C2 : ByteArray) (C3 : (List ua0))
 | p255 (w5 : Int) (B0 : (List ub2)) (D0 : ByteArray) (D1 : Int) (D2 : Int)
 | p8180 (w5 : Int) (fills11 : Bool) (i12 : Int) (B0 : (List ub2)) (D0 : ByteArray) (D1 : Int) (D2 : Int)
 | p130889 (w5 : Int) (fills11 : Bool) (i12 : Int) (B0 : (List ub2)) (D0 : ByteArray) (D1 : Int) (D2 : Int)
 | p4188468 (w5 : Int) (fills11 : Bool) (i12 : Int) (used13 : Int) (k14 : Int) (B0 : (List ub2)) (D0 : ByteArray) (D1 : Int) (D2 : Int)
 | p134030995 (w5 : Int) (fills11 : Bool) (i12 : Int) (used13 : Int) (k14 : Int) (B0 : (List ub2)) (D0 : ByteArray) (D1 : Int) (D2 : Int) (G0 : ByteArray) (G1 : Int) (G2 : Int)
 | p2144495924 (w5 : Int) (fills11 : Bool) (i12 : Int) (used13 : Int) (k14 : Int) (j16 : Int) (B0 : (List ub2)) (D0 : ByteArray) (D1 : Int) (D2 : Int) (G0 : ByteArray) (G1 : Int) (G2 : Int)
def uZ4 : wd7 → List Bool
 | .start .. => []
 | .p15 .. => [true, true, true]
 | .p255 .. => [true, true, true, true, true, true, true]
 | .p8180 .. => [false, false, true, false, true, true, true, true, true, true, true, true]
 | .p130889 .. => [true, false, false, true, false, false, true, false, true, true, true, true, true, true, true, true]
 | .p4188468 .. => [false, false, true, false, true, true, false, false, true, false, false, true, false, true, true, true, true, true, true, true, true]
 | .p134030995 .. => [true, true, false, false, true, false, false, true, false, true, true, false, false, true, false, false, true, false, true, true, true, true, true, true, true, true]
 | .p2144495924 .. => [false, false, true, false, true, true, false, false, true, false, false, true, false, true, true, false, false, true, false, false, true, false, true, true, true, true, true, true, true, true]
def wc6 : wd7 → St E.S
 | .start l0 t1_0 t1_1 t1_2 t1_3 => st0 215 [.sl 103 l0 false, .agg [.v (.int .i64 t1_0), .v (.int .i64 t1_1), .v (.string t1_2), .sl 25 t1_3 false]] []
 | .p15 l0 C0 C1 C2 C3 => mkSt 215 [0, 3] [.sl 103 l0 false, .bp 0 0] [.var 25 [.v (.int .i64 C0), .v (.int .i64 C1), .v (.string C2), .sl 25 C3 false]]
 | .p255 w5 B0 D0 D1 D2 => mkSt 215 [5, 7, 9] [.v (.int .i64 w5), .rw 0, .bp 1 0] [.row 81 B0 true, .var 75 [.v (.string D0), .v (.int .i64 D1), .v (.int .i64 D2)]]
 | .p8180 w5 fills11 i12 B0 D0 D1 D2 => mkSt 215 [5, 7, 9, 11, 12] [.v (.int .i64 w5), .rw 0, .bp 1 0, .v (.bool fills11), .v (.int .i64 i12)] [.row 81 B0 true, .var 75 [.v (.string D0), .v (.int .i64 D1), .v (.int .i64 D2)]]
 | .p130889 w5 fills11 i12 B0 D0 D1 D2 => mkSt 215 [5, 7, 9, 11, 12] [.v (.int .i64 w5), .rw 0, .bp 1 0, .v (.bool fills11), .v (.int .i64 i12)] [.row 81 B0 true, .var 75 [.v (.string D0), .v (.int .i64 D1), .v (.int .i64 D2)]]
 | .p4188468 w5 fills11 i12 used13 k14 B0 D0 D1 D2 => mkSt 215 [5, 7, 9, 11, 12, 13, 14] [.v (.int .i64 w5), .rw 0, .bp 1 0, .v (.bool fills11), .v (.int .i64 i12), .v (.int .i64 used13), .v (.int .i64 k14)] [.row 81 B0 true, .var 75 [.v (.string D0), .v (.int .i64 D1), .v (.int .i64 D2)]]
 | .p134030995 w5 fills11 i12 used13 k14 B0 D0 D1 D2 G0 G1 G2 => mkSt 215 [5, 7, 9, 11, 12, 13, 14, 15] [.v (.int .i64 w5), .rw 0, .bp 1 0, .v (.bool fills11), .v (.int .i64 i12), .v (.int .i64 used13), .v (.int .i64 k14), .bp 2 0] [.row 81 B0 true, .var 75 [.v (.string D0), .v (.int .i64 D1), .v (.int .i64 D2)], .var 75 [.v (.string G0), .v (.int .i64 G1), .v (.int .i64 G2)]]
 | .p2144495924 w5 fills11 i12 used13 k14 j16 B0 D0 D1 D2 G0 G1 G2 => mkSt 215 [5, 7, 9, 11, 12, 13, 14, 15, 16] [.v (.int .i64 w5), .rw 0, .bp 1 0, .v (.bool fills11), .v (.int .i64 i12), .v (.int .i64 used13), .v (.int .i64 k14), .bp 2 0, .v (.int .i64 j16)] [.row 81 B0 true, .var 75 [.v (.string D0), .v (.int .i64 D1), .v (.int .i64 D2)], .var 75 [.v (.string G0), .v (.int .i64 G1), .v (.int .i64 G2)]]
abbrev xG3 : Type := ((Bool × Unit) × Unit)
def uC3 : Res E (Bool × Unit) Unit := { rows := [], flat := [], keep := 0, done := [0], rl := (.cons Rd.bool .nil), rb := .nil }
def uc2 : wd7 → Option xG3
 | .start l0 t1_0 t1_1 t1_2 t1_3 =>
  (u07 .start) >>= fun t1 =>
  if (!t1.1.1) = true then
   some ((false, ()), ())
  else
   (ue4 (.start l0)) >>= fun t2 =>
   if (!t2.1.1) = true then
    some ((true, ()), ())
   else
    (vh4 (.start l0 t1_0 t1_1 t1_2 t1_3)) >>= fun t3 =>
    if (t3.1.1 != (0 : Int)) = true then
     some ((true, ()), ())
    else
     (uD8 (.start t1_0 t1_1 t1_2 t1_3)) >>= fun t4 =>
     if t4.1.1 = true then
      some ((true, ()), ())
     else
      uc2 (.p15 l0 t1_0 t1_1 t1_2 t1_3)
 | .p15 l0 C0 C1 C2 C3 =>
  (ue7 (.start l0)) >>= fun t1 =>
  (uI1 (.start t1.2.1 C0 C1 C2 C3)) >>= fun t2 =>
  (ue7 (.start l0)) >>= fun t3 =>
  (ud5 (.start t3.2.1 C0 C1 C2 C3)) >>= fun t4 =>
  (ue7 (.start l0)) >>= fun t5 =>
  (us7 (.start t5.2.1 C0 C1 C2 C3)) >>= fun t6 =>
  if (t2.1.2.1 != (0 : Int)) = true then
   some ((false, ()), ())
  else
   if (t4.1.2.1 != (0 : Int)) = true then
    some ((false, ()), ())
   else
    if (t6.1.2.1 != (0 : Int)) = true then
     some ((false, ()), ())
    else
     (uR2 (.start t2.1.1)) >>= fun t7 =>
     if (!t7.1.1) = true then
      some ((false, ()), ())
     else
      (uy5 (.start t6.1.1.2.2.1 (0 : Int) t2.1.1)) >>= fun t8 =>
      if (!t8.1.1) = true then
       some ((false, ()), ())
      else
       if ((IntKind.wrap .i64 (t6.1.1.2.1 + t6.1.1.2.2.1)) != t2.1.1) = true then
        some ((false, ()), ())
       else
        (u09 (.start t6.1.1.2.2.1)) >>= fun t9 =>
        if (decide ((List.length t4.2.1 : Int) > t9.1.1)) = true then
         some ((false, ()), ())
        else
         uc2 (.p255 t2.1.1 t4.2.1 t6.1.1.1 t6.1.1.2.1 t6.1.1.2.2.1)
 | .p255 w5 B0 D0 D1 D2 =>
  uc2 (.p8180 w5 false (0 : Int) B0 D0 D1 D2)
 | .p8180 w5 fills11 i12 B0 D0 D1 D2 =>
  if (decide (i12 < (List.length B0 : Int))) = true then
   if (decide ((0 : Int) ≤ i12) && decide (i12 < (List.length B0 : Int))) = true then
    (idx B0 i12) >>= fun t1 =>
    if (t1.Tag != i12) = true then
     some ((false, ()), ())
    else
     if (decide ((0 : Int) ≤ i12) && decide (i12 < (List.length B0 : Int))) = true then
      (idx B0 i12) >>= fun t2 =>
      if (decide ((List.length t2.Parts : Int) > (8 : Int))) = true then
       some ((false, ()), ())
      else
       uc2 (.p130889 w5 fills11 i12 B0 D0 D1 D2)
     else none
   else none
  else
   if (decide (D2 > (0 : Int))) = true then
    some ((true, ()), ())
   else
    some ((fills11, ()), ())
 | .p130889 w5 fills11 i12 B0 D0 D1 D2 =>
  uc2 (.p4188468 w5 fills11 i12 (0 : Int) (0 : Int) B0 D0 D1 D2)
 | .p4188468 w5 fills11 i12 used13 k14 B0 D0 D1 D2 =>
  if (decide ((0 : Int) ≤ i12) && decide (i12 < (List.length B0 : Int))) = true then
   (idx B0 i12) >>= fun t1 =>
   if (decide (k14 < (List.length t1.Parts : Int))) = true then
    if (decide ((0 : Int) ≤ i12) && decide (i12 < (List.length B0 : Int))) = true then
     (idx B0 i12) >>= fun t2 =>
     (idx t2.Parts k14) >>= fun t3 =>
     (uy5 (.start t3.Width (0 : Int) w5)) >>= fun t4 =>
     if (!t4.1.1) = true then
      some ((false, ()), ())
     else
      (uy5 (.start t3.Low (0 : Int) (IntKind.wrap .i64 (w5 - t3.Width)))) >>= fun t5 =>
      if (!t5.1.1) = true then
       some ((false, ()), ())
      else
       if (decide ((IntKind.wrap .i64 (t3.Low + t3.Width)) > D1)) = true then
        some ((false, ()), ())
       else
        uc2 (.p134030995 w5 fills11 i12 used13 k14 B0 D0 D1 D2 t3.Name t3.Low t3.Width)
    else none
   else
    if fills11 = true then
     uc2 (.p8180 w5 true (IntKind.wrap .i64 (i12 + (1 : Int))) B0 D0 D1 D2)
    else
     uc2 (.p8180 w5 (used13 == w5) (IntKind.wrap .i64 (i12 + (1 : Int))) B0 D0 D1 D2)
  else none
 | .p134030995 w5 fills11 i12 used13 k14 B0 D0 D1 D2 G0 G1 G2 =>
  uc2 (.p2144495924 w5 fills11 i12 used13 k14 (0 : Int) B0 D0 D1 D2 G0 G1 G2)
 | .p2144495924 w5 fills11 i12 used13 k14 j16 B0 D0 D1 D2 G0 G1 G2 =>
  if (decide (j16 < k14)) = true then
   if (decide ((0 : Int) ≤ i12) && decide (i12 < (List.length B0 : Int))) = true then
    (idx B0 i12) >>= fun t1 =>
    (idx t1.Parts j16) >>= fun t2 =>
    if (decide (t2.Low < (IntKind.wrap .i64 (G1 + G2)))) = true then
     if (decide (G1 < (IntKind.wrap .i64 (t2.Low + t2.Width)))) = true then
      if (decide (t2.Width > (0 : Int))) = true then
       if (decide (G2 > (0 : Int))) = true then
        some ((false, ()), ())
       else
        uc2 (.p2144495924 w5 fills11 i12 used13 k14 (IntKind.wrap .i64 (j16 + (1 : Int))) B0 D0 D1 D2 G0 G1 G2)
      else
       uc2 (.p2144495924 w5 fills11 i12 used13 k14 (IntKind.wrap .i64 (j16 + (1 : Int))) B0 D0 D1 D2 G0 G1 G2)
     else
      uc2 (.p2144495924 w5 fills11 i12 used13 k14 (IntKind.wrap .i64 (j16 + (1 : Int))) B0 D0 D1 D2 G0 G1 G2)
    else
     uc2 (.p2144495924 w5 fills11 i12 used13 k14 (IntKind.wrap .i64 (j16 + (1 : Int))) B0 D0 D1 D2 G0 G1 G2)
   else none
  else
   uc2 (.p4188468 w5 fills11 i12 (IntKind.wrap .i64 (used13 + G2)) (IntKind.wrap .i64 (k14 + (1 : Int))) B0 D0 D1 D2)
 partial_fixpoint
def wv0 : List (Plc E wd7) := [⟨15, [true, true, true], { slots := [0, 3], rows := [], flat := [], keep := 0 }, _, _, (.cons (Rd.sl 103 false) (.cons (Rd.bp 0 0) .nil)), (.cons (.var 25 (.cons (Rd.int .i64) (.cons (Rd.int .i64) (.cons Rd.str (.cons (Rd.sl 25 false) .nil))))) .nil), fun a b => .p15 a.1 b.1.1 b.1.2.1 b.1.2.2.1 b.1.2.2.2.1⟩,
 ⟨255, [true, true, true, true, true, true, true], { slots := [5, 7, 9], rows := [], flat := [], keep := 0 }, _, _, (.cons (Rd.int .i64) (.cons (Rd.rw 0) (.cons (Rd.bp 1 0) .nil))), (.cons (.row 81 true) (.cons (.var 75 (.cons Rd.str (.cons (Rd.int .i64) (.cons (Rd.int .i64) .nil)))) .nil)), fun a b => .p255 a.1 b.1 b.2.1.1 b.2.1.2.1 b.2.1.2.2.1⟩,
 ⟨8180, [false, false, true, false, true, true, true, true, true, true, true, true], { slots := [5, 7, 9, 11, 12], rows := [], flat := [], keep := 0 }, _, _, (.cons (Rd.int .i64) (.cons (Rd.rw 0) (.cons (Rd.bp 1 0) (.cons Rd.bool (.cons (Rd.int .i64) .nil))))), (.cons (.row 81 true) (.cons (.var 75 (.cons Rd.str (.cons (Rd.int .i64) (.cons (Rd.int .i64) .nil)))) .nil)), fun a b => .p8180 a.1 a.2.2.2.1 a.2.2.2.2.1 b.1 b.2.1.1 b.2.1.2.1 b.2.1.2.2.1⟩,
 ⟨130889, [true, false, false, true, false, false, true, false, true, true, true, true, true, true, true, true], { slots := [5, 7, 9, 11, 12], rows := [], flat := [], keep := 0 }, _, _, (.cons (Rd.int .i64) (.cons (Rd.rw 0) (.cons (Rd.bp 1 0) (.cons Rd.bool (.cons (Rd.int .i64) .nil))))), (.cons (.row 81 true) (.cons (.var 75 (.cons Rd.str (.cons (Rd.int .i64) (.cons (Rd.int .i64) .nil)))) .nil)), fun a b => .p130889 a.1 a.2.2.2.1 a.2.2.2.2.1 b.1 b.2.1.1 b.2.1.2.1 b.2.1.2.2.1⟩,
 ⟨4188468, [false, false, true, false, true, true, false, false, true, false, false, true, false, true, true, true, true, true, true, true, true], { slots := [5, 7, 9, 11, 12, 13, 14], rows := [], flat := [], keep := 0 }, _, _, (.cons (Rd.int .i64) (.cons (Rd.rw 0) (.cons (Rd.bp 1 0) (.cons Rd.bool (.cons (Rd.int .i64) (.cons (Rd.int .i64) (.cons (Rd.int .i64) .nil))))))), (.cons (.row 81 true) (.cons (.var 75 (.cons Rd.str (.cons (Rd.int .i64) (.cons (Rd.int .i64) .nil)))) .nil)), fun a b => .p4188468 a.1 a.2.2.2.1 a.2.2.2.2.1 a.2.2.2.2.2.1 a.2.2.2.2.2.2.1 b.1 b.2.1.1 b.2.1.2.1 b.2.1.2.2.1⟩,
 ⟨134030995, [true, true, false, false, true, false, false, true, false, true, true, false, false, true, false, false, true, false, true, true, true, true, true, true, true, true], { slots := [5, 7, 9, 11, 12, 13, 14, 15], rows := [], flat := [], keep := 0 }, _, _, (.cons (Rd.int .i64) (.cons (Rd.rw 0) (.cons (Rd.bp 1 0) (.cons Rd.bool (.cons (Rd.int .i64) (.cons (Rd.int .i64) (.cons (Rd.int .i64) (.cons (Rd.bp 2 0) .nil)))))))), (.cons (.row 81 true) (.cons (.var 75 (.cons Rd.str (.cons (Rd.int .i64) (.cons (Rd.int .i64) .nil)))) (.cons (.var 75 (.cons Rd.str (.cons (Rd.int .i64) (.cons (Rd.int .i64) .nil)))) .nil))), fun a b => .p134030995 a.1 a.2.2.2.1 a.2.2.2.2.1 a.2.2.2.2.2.1 a.2.2.2.2.2.2.1 b.1 b.2.1.1 b.2.1.2.1 b.2.1.2.2.1 b.2.2.1.1 b.2.2.1.2.1 b.2.2.1.2.2.1⟩,
 ⟨2144495924, [false, false, true, false, true, true, false, false, true, false, false, true, false, true, true, false, false, true, false, false, true, false, true, true, true, true, true, true, true, true], { slots := [5, 7, 9, 11, 12, 13, 14, 15, 16], rows := [], flat := [], keep := 0 }, _, _, (.cons (Rd.int .i64) (.cons (Rd.rw 0) (.cons (Rd.bp 1 0) (.cons Rd.bool (.cons (Rd.int .i64) (.cons (Rd.int .i64) (.cons (Rd.int .i64) (.cons (Rd.bp 2 0) (.cons (Rd.int .i64) .nil))))))))), (.cons (.row 81 true) (.cons (.var 75 (.cons Rd.str (.cons (Rd.int .i64) (.cons (Rd.int .i64) .nil)))) (.cons (.var 75 (.cons Rd.str (.cons (Rd.int .i64) (.cons (Rd.int .i64) .nil)))) .nil))), fun a b => .p2144495924 a.1 a.2.2.2.1 a.2.2.2.2.1 a.2.2.2.2.2.1 a.2.2.2.2.2.2.1 a.2.2.2.2.2.2.2.2.1 b.1 b.2.1.1 b.2.1.2.1 b.2.1.2.2.1 b.2.2.1.1 b.2.2.1.2.1 b.2.2.1.2.2.1⟩]
theorem wd0 : All (ub8 215 0 uZ4 wc6) wv0 := ⟨⟨rfl, rfl, fun _ _ => rfl, fun _ _ => rfl⟩, ⟨⟨rfl, rfl, fun _ _ => rfl, fun _ _ => rfl⟩, ⟨⟨rfl, rfl, fun _ _ => rfl, fun _ _ => rfl⟩, ⟨⟨rfl, rfl, fun _ _ => rfl, fun _ _ => rfl⟩, ⟨⟨rfl, rfl, fun _ _ => rfl, fun _ _ => rfl⟩, ⟨⟨rfl, rfl, fun _ _ => rfl, fun _ _ => rfl⟩, ⟨⟨rfl, rfl, fun _ _ => rfl, fun _ _ => rfl⟩, trivial⟩⟩⟩⟩⟩⟩⟩
def u68 : Code := Tryz.f6.body.getD .skip
def vP0 : Spec E.S := (Con.add vU2 (Con.add vx0 (Con.add vx2 (Con.add wi6 (Con.add wi5 (Con.add vT4 (Con.add wi4 (Con.add vx1 (Con.add w37 (Con.add w23 (Con.add w21 ub0)))))))))))
theorem vP1 : ua9 E vP0 := (Con.add_ok vo9 (Con.add_ok uX5 (Con.add_ok uX7 (Con.add_ok vS6 (Con.add_ok vS5 (Con.add_ok vo1 (Con.add_ok vS4 (Con.add_ok uX6 (Con.add_ok wF5 (Con.add_ok wE3 (Con.add_ok wE1 ua7)))))))))))
theorem w54 : ∀ pt r, uc2 pt = some r → Good E Tryz.f6 u68 0 (uC3.av r) (uC3.bx r) (uZ4 pt) (wc6 pt) := by
 refine uc2.partial_correctness (fun pt r => Good E Tryz.f6 u68 0 (uC3.av r) (uC3.bx r) (uZ4 pt) (wc6 pt)) ?_
 intro run' ih pt r hr
 cases pt <;> exact ua8 (spec := vP0) (wr := (mkWr [] [])) (l := wv0) (z := 215) (p := uC3) E_ok wd0.mem rfl vP1 ih (Eq.trans (by kernel_rfl) hr)
def vw6 : Con E := ⟨6, _, _, (.cons (Rw.sl 103) (.cons (Rw.agg (.cons (Rd.int .i64).w (.cons (Rd.int .i64).w (.cons Rd.str.w (.cons (Rw.sl 25) .nil))))) .nil)), .nil, 0, xG3, fun a b => uc2 (.start a.1 a.2.1.1 a.2.1.2.1 a.2.1.2.2.1 a.2.1.2.2.2.1), uC3.av, uC3.bx⟩
theorem vS7 : vw6.Ok := fun a b r h => ub3 (fn := Tryz.f6) (code := u68) E_ok (by kernel_rfl) (by kernel_rfl) (by kernel_rfl) (Nat.le_of_ble_eq_true rfl) (w54 (.start a.1 a.2.1.1 a.2.1.2.1 a.2.1.2.2.1 a.2.1.2.2.2.1) r h)
end
end Go.Proofs.YtaennkkcnhfglaaGreatDoor.Ev.F
