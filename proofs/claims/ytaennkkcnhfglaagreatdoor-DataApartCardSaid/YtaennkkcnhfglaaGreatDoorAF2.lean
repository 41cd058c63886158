/- A part of the proof. -/
import Derived.Test.YtaennkkcnhfglaaGreatDoorAF1
set_option linter.unusedVariables false
set_option maxRecDepth 100000
namespace Go.Proofs.YtaennkkcnhfglaaGreatDoor.Ev.F
open Go.Proofs Go.Proofs.YtaennkkcnhfglaaGreatDoor.Ev
noncomputable section
inductive u53 where
 | start (i0 : Int) (part1_0 : ByteArray) (part1_1 : Int) (part1_2 : (List ua5)) (C0 : ByteArray) (C1 : (List ua6)) (C2 : (Option (List (Option ua4))))
def uz3 : u53 → List Bool
 | .start .. => []
def vs5 : u53 → St E.S
 | .start i0 part1_0 part1_1 part1_2 C0 C1 C2 => st0 13 [.v (.int .i64 i0), .agg [.v (.string part1_0), .v (.int .i64 part1_1), .sl 37 part1_2 false], .bp 0 0] [.var 125 [.v (.string C0), .sl 58 C1 false, .so 105 C2]]
abbrev vD6 : Type := ((Int × Unit) × ((ByteArray × ((List ua6) × ((Option (List (Option ua4))) × Unit))) × Unit))
def ul2 : Res E (Int × Unit) ((ByteArray × ((List ua6) × ((Option (List (Option ua4))) × Unit))) × Unit) := { rows := [], flat := [], keep := 1, done := [0], rl := (.cons (Rd.int .i64) .nil), rb := (.cons (.var 125 (.cons Rd.str (.cons (Rd.sl 58 false) (.cons (Rd.so 105) .nil)))) .nil) }
inductive u54 where
 | start (x0 : (Option ua4)) (v1_0 : ByteArray) (v1_1 : Int) (v1_2 : (List ua5))
def uz4 : u54 → List Bool
 | .start .. => []
def vs6 : u54 → St E.S
 | .start x0 v1_0 v1_1 v1_2 => st0 72 [.op 128 x0, .agg [.v (.string v1_0), .v (.int .i64 v1_1), .sl 37 v1_2 false]] []
abbrev vD7 : Type := ((Int × Unit) × Unit)
def ul3 : Res E (Int × Unit) Unit := { rows := [], flat := [], keep := 0, done := [0], rl := (.cons (Rd.int .i64) .nil), rb := .nil }
inductive uW3 where
 | start (l0 : (List ua5)) (C0 : ByteArray) (C1 : (List ua6)) (C2 : (Option (List (Option ua4))))
 | p52 (s9 : (List ua5)) (s10 : Int) (s11 : Int) (C0 : ByteArray) (C1 : (List ua6)) (C2 : (Option (List (Option ua4))))
def uu5 : uW3 → List Bool
 | .start .. => []
 | .p52 .. => [false, false, true, false, true]
def vi7 : uW3 → St E.S
 | .start l0 C0 C1 C2 => st0 25 [.sl 37 l0 false, .fn 143 [.bp 0 0]] [.var 125 [.v (.string C0), .sl 58 C1 false, .so 105 C2]]
 | .p52 s9 s10 s11 C0 C1 C2 => mkSt 25 [1, 9, 10, 11] [.fn 143 [.bp 0 0], .sl 37 s9 false, .v (.int .i64 s10), .v (.int .i64 s11)] [.var 125 [.v (.string C0), .sl 58 C1 false, .so 105 C2]]
abbrev vl5 : Type := ((Int × (Int × Unit)) × ((ByteArray × ((List ua6) × ((Option (List (Option ua4))) × Unit))) × Unit))
def uj0 : Res E (Int × (Int × Unit)) ((ByteArray × ((List ua6) × ((Option (List (Option ua4))) × Unit))) × Unit) := { rows := [], flat := [], keep := 1, done := [0, 1], rl := (.cons (Rd.int .i64) (.cons (Rd.int .i64) .nil)), rb := (.cons (.var 125 (.cons Rd.str (.cons (Rd.sl 58 false) (.cons (Rd.so 105) .nil)))) .nil) }
mutual
def uI3 : u53 → Option vD6
 | .start i0 part1_0 part1_1 part1_2 C0 C1 C2 =>
  (idx (Option.getD C2 []) i0) >>= fun t1 =>
  (run_z53 (.start t1 part1_0 part1_1 part1_2)) >>= fun t2 =>
  some ((t2.1.1, ()), ((C0, (C1, (C2, ()))), ()))
 partial_fixpoint
def run_z53 : u54 → Option vD7
 | .start x0 v1_0 v1_1 v1_2 =>
  (un4 (.start x0)) >>= fun t1 =>
  if t1.1.1 = true then
   if (seq v1_0 (⟨#[]⟩ : ByteArray)) = true then
    (uc6 (.start ((List.length v1_2 : Int) == (0 : Int)) (3 : Int))) >>= fun t2 =>
    x0 >>= fun t3 =>
    if (decide ((0 : Int) ≤ t3.bits)) = true then
     (uk2 (.start v1_1 (0 : Int) (IntKind.wrap .i64 ((shl .i64 (1 : Int) t3.bits) - (1 : Int))))) >>= fun t4 =>
     (uc6 (.start t4.1.1 (2 : Int))) >>= fun t5 =>
     (ud1 (.start ([t2.1.1, t5.1.1] : List Int))) >>= fun t6 =>
     some ((t6.1.1, ()), ())
    else none
   else
    (uc6 (.start false (3 : Int))) >>= fun t7 =>
    x0 >>= fun t8 =>
    if (decide ((0 : Int) ≤ t8.bits)) = true then
     (uk2 (.start v1_1 (0 : Int) (IntKind.wrap .i64 ((shl .i64 (1 : Int) t8.bits) - (1 : Int))))) >>= fun t9 =>
     (uc6 (.start t9.1.1 (2 : Int))) >>= fun t10 =>
     (ud1 (.start ([t7.1.1, t10.1.1] : List Int))) >>= fun t11 =>
     some ((t11.1.1, ()), ())
    else none
  else
   (uI2 (.start x0 v1_0)) >>= fun t12 =>
   if (decide (t12.1.1 < (0 : Int))) = true then
    some (((6 : Int), ()), ())
   else
    x0 >>= fun t13 =>
    (idx (Option.getD t13.constructors []) t12.1.1) >>= fun t14 =>
    (uc6 (.start (v1_1 == (0 : Int)) (3 : Int))) >>= fun t15 =>
    (uc6 (.start ((List.length v1_2 : Int) == (List.length (Option.getD t14.parts []) : Int)) (10 : Int))) >>= fun t16 =>
    (ud1 (.start ([t15.1.1, t16.1.1] : List Int))) >>= fun t17 =>
    if (t17.1.1 != (0 : Int)) = true then
     some ((t17.1.1, ()), ())
    else
     (run_z54 (.start v1_2 t14.name t14.fields t14.parts)) >>= fun t18 =>
     some ((t18.1.2.1, ()), ())
 partial_fixpoint
def run_z54 : uW3 → Option vl5
 | .start l0 C0 C1 C2 =>
  run_z54 (.p52 l0 (List.length l0 : Int) (0 : Int) C0 C1 C2)
 | .p52 s9 s10 s11 C0 C1 C2 =>
  if (decide (s11 < s10)) = true then
   (idx s9 s11) >>= fun t1 =>
   (uI3 (.start s11 t1.Name t1.Number t1.Parts C0 C1 C2)) >>= fun t2 =>
   if (t2.1.1 != (0 : Int)) = true then
    some ((s11, (t2.1.1, ())), ((t2.2.1.1, (t2.2.1.2.1, (t2.2.1.2.2.1, ()))), ()))
   else
    run_z54 (.p52 s9 s10 (IntKind.wrap .i64 (s11 + (1 : Int))) t2.2.1.1 t2.2.1.2.1 t2.2.1.2.2.1)
  else
   some (((0 : Int), ((0 : Int), ())), ((C0, (C1, (C2, ()))), ()))
 partial_fixpoint
end
def xj5 : List (Plc E u53) := []
theorem wP9 : All (ub8 13 1 uz3 vs5) xj5 := trivial
def uA6 : Code := Tryz.f143.body.getD .skip
def w80 (run' : u53 → Option vD6) : Con E := ⟨143, (Int × ((ByteArray × (Int × ((List ua5) × Unit))) × (Unit × Unit))), ((ByteArray × ((List ua6) × ((Option (List (Option ua4))) × Unit))) × Unit), (RwL.cons (Rd.int .i64).w (RwL.cons (Rw.agg (RwL.cons Rd.str.w (RwL.cons (Rd.int .i64).w (RwL.cons (Rw.sl 37) RwL.nil)))) (RwL.cons (Rd.bp 0 0).w RwL.nil))), (RdBL.cons (RdB.var 125 (RdL.cons Rd.str (RdL.cons (Rd.sl 58 false) (RdL.cons (Rd.so 105) RdL.nil)))) RdBL.nil), 1, vD6, fun a b => run' (.start a.1 a.2.1.1 a.2.1.2.1 a.2.1.2.2.1 b.1.1 b.1.2.1 b.1.2.2.1), ul2.av, ul2.bx⟩
theorem wI2 {run' : u53 → Option vD6} (ih : ∀ pt r, run' pt = some r → Good E Tryz.f143 uA6 1 (ul2.av r) (ul2.bx r) (uz3 pt) (vs5 pt)) : (w80 run').Ok := fun a b r h => ub3 (fn := Tryz.f143) (code := uA6) E_ok (by kernel_rfl) (by kernel_rfl) (by kernel_rfl) (Nat.le_of_ble_eq_true rfl) (ih (.start a.1 a.2.1.1 a.2.1.2.1 a.2.1.2.2.1 b.1.1 b.1.2.1 b.1.2.2.1) r h)
def xj6 : List (Plc E u54) := []
theorem wQ0 : All (ub8 72 0 uz4 vs6) xj6 := trivial
def uA7 : Code := Tryz.f109.body.getD .skip
def w81 (run' : u54 → Option vD7) : Con E := ⟨109, ((Option ua4) × ((ByteArray × (Int × ((List ua5) × Unit))) × Unit)), Unit, (RwL.cons (Rd.op 128).w (RwL.cons (Rw.agg (RwL.cons Rd.str.w (RwL.cons (Rd.int .i64).w (RwL.cons (Rw.sl 37) RwL.nil)))) RwL.nil)), RdBL.nil, 0, vD7, fun a b => run' (.start a.1 a.2.1.1 a.2.1.2.1 a.2.1.2.2.1), ul3.av, ul3.bx⟩
theorem wI3 {run' : u54 → Option vD7} (ih : ∀ pt r, run' pt = some r → Good E Tryz.f109 uA7 0 (ul3.av r) (ul3.bx r) (uz4 pt) (vs6 pt)) : (w81 run').Ok := fun a b r h => ub3 (fn := Tryz.f109) (code := uA7) E_ok (by kernel_rfl) (by kernel_rfl) (by kernel_rfl) (Nat.le_of_ble_eq_true rfl) (ih (.start a.1 a.2.1.1 a.2.1.2.1 a.2.1.2.2.1) r h)
def xj7 : List (Plc E uW3) := [⟨52, [false, false, true, false, true], { slots := [1, 9, 10, 11], rows := [], flat := [], keep := 1 }, _, _, (.cons (Rd.fn 143 (.cons (Rd.bp 0 0) .nil)) (.cons (Rd.sl 37 false) (.cons (Rd.int .i64) (.cons (Rd.int .i64) .nil)))), (.cons (.var 125 (.cons Rd.str (.cons (Rd.sl 58 false) (.cons (Rd.so 105) .nil)))) .nil), fun a b => .p52 a.2.1 a.2.2.1 a.2.2.2.1 b.1.1 b.1.2.1 b.1.2.2.1⟩]
theorem wQ1 : All (ub8 25 1 uu5 vi7) xj7 := ⟨⟨rfl, rfl, fun _ _ => rfl, fun _ _ => rfl⟩, trivial⟩
def uw6 : Code := Tryz.f134.body.getD .skip
def vW4 (run' : uW3 → Option vl5) : Con E := ⟨134, ((List ua5) × ((Unit × Unit) × Unit)), ((ByteArray × ((List ua6) × ((Option (List (Option ua4))) × Unit))) × Unit), (RwL.cons (Rw.sl 37) (RwL.cons (Rd.fn 143 (RdL.cons (Rd.bp 0 0) RdL.nil)).w RwL.nil)), (RdBL.cons (RdB.var 125 (RdL.cons Rd.str (RdL.cons (Rd.sl 58 false) (RdL.cons (Rd.so 105) RdL.nil)))) RdBL.nil), 1, vl5, fun a b => run' (.start a.1 b.1.1 b.1.2.1 b.1.2.2.1), uj0.av, uj0.bx⟩
theorem vq7 {run' : uW3 → Option vl5} (ih : ∀ pt r, run' pt = some r → Good E Tryz.f134 uw6 1 (uj0.av r) (uj0.bx r) (uu5 pt) (vi7 pt)) : (vW4 run').Ok := fun a b r h => ub3 (fn := Tryz.f134) (code := uw6) E_ok (by kernel_rfl) (by kernel_rfl) (by kernel_rfl) (Nat.le_of_ble_eq_true rfl) (ih (.start a.1 b.1.1 b.1.2.1 b.1.2.2.1) r h)
def wp6 (r_z53 : u54 → Option vD7) : Spec E.S := (Con.add (w81 r_z53) ub0)
theorem v71 {r_z53 : u54 → Option vD7} (h_z53 : ∀ pt r, r_z53 pt = some r → Good E Tryz.f109 uA7 0 (ul3.av r) (ul3.bx r) (uz4 pt) (vs6 pt)) : ua9 E (wp6 r_z53) := (Con.add_ok (wI3 h_z53) ua7)
def wp7 (r_z54 : uW3 → Option vl5) : Spec E.S := (Con.add (vW4 r_z54) (Con.add vT6 (Con.add uE9 (Con.add uS2 (Con.add uS3 (Con.add uB0 ub0))))))
theorem v73 {r_z54 : uW3 → Option vl5} (h_z54 : ∀ pt r, r_z54 pt = some r → Good E Tryz.f134 uw6 1 (uj0.av r) (uj0.bx r) (uu5 pt) (vi7 pt)) : ua9 E (wp7 r_z54) := (Con.add_ok (vq7 h_z54) (Con.add_ok vo3 (Con.add_ok un9 (Con.add_ok uq5 (Con.add_ok uq6 (Con.add_ok um1 ua7))))))
def wp8 (r_z52 : u53 → Option vD6) (r_z54 : uW3 → Option vl5) : Spec E.S := (Con.add (vW4 r_z54) (Con.add (w80 r_z52) ub0))
theorem v74 {r_z52 : u53 → Option vD6} (h_z52 : ∀ pt r, r_z52 pt = some r → Good E Tryz.f143 uA6 1 (ul2.av r) (ul2.bx r) (uz3 pt) (vs5 pt)) {r_z54 : uW3 → Option vl5} (h_z54 : ∀ pt r, r_z54 pt = some r → Good E Tryz.f134 uw6 1 (uj0.av r) (uj0.bx r) (uu5 pt) (vi7 pt)) : ua9 E (wp8 r_z52 r_z54) := (Con.add_ok (vq7 h_z54) (Con.add_ok (wI2 h_z52) ua7))
theorem u80 : (∀ pt r, uI3 pt = some r → Good E Tryz.f143 uA6 1 (ul2.av r) (ul2.bx r) (uz3 pt) (vs5 pt)) ∧ (∀ pt r, run_z53 pt = some r → Good E Tryz.f109 uA7 0 (ul3.av r) (ul3.bx r) (uz4 pt) (vs6 pt)) ∧ (∀ pt r, run_z54 pt = some r → Good E Tryz.f134 uw6 1 (uj0.av r) (uj0.bx r) (uu5 pt) (vi7 pt)) := by
  refine uI3.mutual_partial_correctness (fun pt r => Good E Tryz.f143 uA6 1 (ul2.av r) (ul2.bx r) (uz3 pt) (vs5 pt)) (fun pt r => Good E Tryz.f109 uA7 0 (ul3.av r) (ul3.bx r) (uz4 pt) (vs6 pt)) (fun pt r => Good E Tryz.f134 uw6 1 (uj0.av r) (uj0.bx r) (uu5 pt) (vi7 pt)) ?_ ?_ ?_
  · intro r_z53 h_z53 pt r hr
    cases pt <;> exact ua8 (spec := (wp6 r_z53)) (wr := (mkWr [] [])) (l := xj5) (z := 13) (p := ul2) (run' := fun _ => none) E_ok wP9.mem rfl (v71 h_z53) (fun _ _ h => by cases h) (Eq.trans (by kernel_rfl) hr)
  · intro r_z54 h_z54 pt r hr
    cases pt <;> exact ua8 (spec := (wp7 r_z54)) (wr := (mkWr [] [])) (l := xj6) (z := 72) (p := ul3) (run' := fun _ => none) E_ok wQ0.mem rfl (v73 h_z54) (fun _ _ h => by cases h) (Eq.trans (by kernel_rfl) hr)
  · intro r_z52 r_z54 h_z52 h_z54 pt r hr
    cases pt <;> exact ua8 (spec := (wp8 r_z52 r_z54)) (wr := (mkWr [] [])) (l := xj7) (z := 25) (p := uj0) E_ok wQ1.mem rfl (v74 h_z52 h_z54) h_z54 (Eq.trans (by kernel_rfl) hr)
theorem xx7 : ∀ pt r, uI3 pt = some r → Good E Tryz.f143 uA6 1 (ul2.av r) (ul2.bx r) (uz3 pt) (vs5 pt) := u80.1
theorem xx8 : ∀ pt r, run_z53 pt = some r → Good E Tryz.f109 uA7 0 (ul3.av r) (ul3.bx r) (uz4 pt) (vs6 pt) := u80.2.1
theorem xx9 : ∀ pt r, run_z54 pt = some r → Good E Tryz.f134 uw6 1 (uj0.av r) (uj0.bx r) (uu5 pt) (vi7 pt) := u80.2.2
def xR9 : Con E := ⟨143, _, _, (.cons (Rd.int .i64).w (.cons (Rw.agg (.cons Rd.str.w (.cons (Rd.int .i64).w (.cons (Rw.sl 37) .nil)))) (.cons (Rd.bp 0 0).w .nil))), (.cons (.var 125 (.cons Rd.str (.cons (Rd.sl 58 false) (.cons (Rd.so 105) .nil)))) .nil), 1, vD6, fun a b => uI3 (.start a.1 a.2.1.1 a.2.1.2.1 a.2.1.2.2.1 b.1.1 b.1.2.1 b.1.2.2.1), ul2.av, ul2.bx⟩
theorem xY8 : xR9.Ok := fun a b r h => ub3 (fn := Tryz.f143) (code := uA6) E_ok (by kernel_rfl) (by kernel_rfl) (by kernel_rfl) (Nat.le_of_ble_eq_true rfl) (xx7 (.start a.1 a.2.1.1 a.2.1.2.1 a.2.1.2.2.1 b.1.1 b.1.2.1 b.1.2.2.1) r h)
def w06 : Con E := ⟨109, _, _, (.cons (Rd.op 128).w (.cons (Rw.agg (.cons Rd.str.w (.cons (Rd.int .i64).w (.cons (Rw.sl 37) .nil)))) .nil)), .nil, 0, vD7, fun a b => run_z53 (.start a.1 a.2.1.1 a.2.1.2.1 a.2.1.2.2.1), ul3.av, ul3.bx⟩
theorem wC8 : w06.Ok := fun a b r h => ub3 (fn := Tryz.f109) (code := uA7) E_ok (by kernel_rfl) (by kernel_rfl) (by kernel_rfl) (Nat.le_of_ble_eq_true rfl) (xx8 (.start a.1 a.2.1.1 a.2.1.2.1 a.2.1.2.2.1) r h)
def xS0 : Con E := ⟨134, _, _, (.cons (Rw.sl 37) (.cons (Rd.fn 143 (.cons (Rd.bp 0 0) .nil)).w .nil)), (.cons (.var 125 (.cons Rd.str (.cons (Rd.sl 58 false) (.cons (Rd.so 105) .nil)))) .nil), 1, vl5, fun a b => run_z54 (.start a.1 b.1.1 b.1.2.1 b.1.2.2.1), uj0.av, uj0.bx⟩
theorem xY9 : xS0.Ok := fun a b r h => ub3 (fn := Tryz.f134) (code := uw6) E_ok (by kernel_rfl) (by kernel_rfl) (by kernel_rfl) (Nat.le_of_ble_eq_true rfl) (xx9 (.start a.1 b.1.1 b.1.2.1 b.1.2.2.1) r h)
inductive wy7 where
 | start (l0 : (List ua2)) (t1_0 : Int) (t1_1 : Int) (t1_2 : ByteArray) (t1_3 : (List ua0)) (v2_0 : ByteArray) (v2_1 : Int) (v2_2 : (List ua5))
 | p15 (x8 : (Option ua4)) (e10 : Int) (C0 : ByteArray) (C1 : Int) (C2 : (List ua5))
def va8 : wy7 → List Bool
 | .start .. => []
 | .p15 .. => [true, true, true]
def xd4 : wy7 → St E.S
 | .start l0 t1_0 t1_1 t1_2 t1_3 v2_0 v2_1 v2_2 => st0 29 [.sl 103 l0 false, .agg [.v (.int .i64 t1_0), .v (.int .i64 t1_1), .v (.string t1_2), .sl 25 t1_3 false], .agg [.v (.string v2_0), .v (.int .i64 v2_1), .sl 37 v2_2 false]] []
 | .p15 x8 e10 C0 C1 C2 => mkSt 29 [5, 8, 10] [.bp 0 0, .op 128 x8, .v (.int .i64 e10)] [.var 37 [.v (.string C0), .v (.int .i64 C1), .sl 37 C2 false]]
abbrev xQ4 : Type := (((Option ua4) × (Int × Unit)) × Unit)
def uP7 : Res E ((Option ua4) × (Int × Unit)) Unit := { rows := [], flat := [], keep := 0, done := [0, 1], rl := (.cons (Rd.op 128) (.cons (Rd.int .i64) .nil)), rb := .nil }
def uI4 : wy7 → Option xQ4
 | .start l0 t1_0 t1_1 t1_2 t1_3 v2_0 v2_1 v2_2 =>
  (ur5 (.start l0 t1_0 t1_1 t1_2 t1_3)) >>= fun t1 =>
  if (t1.1.2.2.1 == (0 : Int)) = true then
   (u05 (.start v2_0 v2_1 v2_2)) >>= fun t2 =>
   uI4 (.p15 t1.1.1 t2.1.1 v2_0 v2_1 v2_2)
  else
   uI4 (.p15 t1.1.1 t1.1.2.2.1 v2_0 v2_1 v2_2)
 | .p15 x8 e10 C0 C1 C2 =>
  if (e10 == (0 : Int)) = true then
   (run_z53 (.start x8 C0 C1 C2)) >>= fun t1 =>
   some ((x8, (t1.1.1, ())), ())
  else
   some ((x8, (e10, ())), ())
 partial_fixpoint
def xj8 : List (Plc E wy7) := [⟨15, [true, true, true], { slots := [5, 8, 10], rows := [], flat := [], keep := 0 }, _, _, (.cons (Rd.bp 0 0) (.cons (Rd.op 128) (.cons (Rd.int .i64) .nil))), (.cons (.var 37 (.cons Rd.str (.cons (Rd.int .i64) (.cons (Rd.sl 37 false) .nil)))) .nil), fun a b => .p15 a.2.1 a.2.2.1 b.1.1 b.1.2.1 b.1.2.2.1⟩]
theorem wQ2 : All (ub8 29 0 va8 xd4) xj8 := ⟨⟨rfl, rfl, fun _ _ => rfl, fun _ _ => rfl⟩, trivial⟩
def vv3 : Code := Tryz.f73.body.getD .skip
def wp9 : Spec E.S := (Con.add w06 (Con.add vT5 (Con.add uN4 ub0)))
theorem v77 : ua9 E wp9 := (Con.add_ok wC8 (Con.add_ok vo2 (Con.add_ok ut1 ua7)))
theorem xy0 : ∀ pt r, uI4 pt = some r → Good E Tryz.f73 vv3 0 (uP7.av r) (uP7.bx r) (va8 pt) (xd4 pt) := by
 refine uI4.partial_correctness (fun pt r => Good E Tryz.f73 vv3 0 (uP7.av r) (uP7.bx r) (va8 pt) (xd4 pt)) ?_
 intro run' ih pt r hr
 cases pt <;> exact ua8 (spec := wp9) (wr := (mkWr [] [])) (l := xj8) (z := 29) (p := uP7) E_ok wQ2.mem rfl v77 ih (Eq.trans (by kernel_rfl) hr)
def w07 : Con E := ⟨73, _, _, (.cons (Rw.sl 103) (.cons (Rw.agg (.cons (Rd.int .i64).w (.cons (Rd.int .i64).w (.cons Rd.str.w (.cons (Rw.sl 25) .nil))))) (.cons (Rw.agg (.cons Rd.str.w (.cons (Rd.int .i64).w (.cons (Rw.sl 37) .nil)))) .nil))), .nil, 0, xQ4, fun a b => uI4 (.start a.1 a.2.1.1 a.2.1.2.1 a.2.1.2.2.1 a.2.1.2.2.2.1 a.2.2.1.1 a.2.2.1.2.1 a.2.2.1.2.2.1), uP7.av, uP7.bx⟩
theorem wC9 : w07.Ok := fun a b r h => ub3 (fn := Tryz.f73) (code := vv3) E_ok (by kernel_rfl) (by kernel_rfl) (by kernel_rfl) (Nat.le_of_ble_eq_true rfl) (xy0 (.start a.1 a.2.1.1 a.2.1.2.1 a.2.1.2.2.1 a.2.1.2.2.2.1 a.2.2.1.1 a.2.2.1.2.1 a.2.2.1.2.2.1) r h)
inductive vk4 where
 | start (x0 : (Option ua4)) (v1_0 : ByteArray) (v1_1 : Int) (v1_2 : (List ua5))
 | p500 (x0 : (Option ua4)) (tag5 : Int) (fields6 : Int) (s24 : (Option (List (Option ua4)))) (s25 : Int) (s26 : Int) (C0 : ByteArray) (C1 : Int) (C2 : (List ua5))
def uG2 : vk4 → List Bool
 | .start .. => []
 | .p500 .. => [false, false, true, false, true, true, true, true]
def vP6 : vk4 → St E.S
 | .start x0 v1_0 v1_1 v1_2 => st0 50 [.op 128 x0, .agg [.v (.string v1_0), .v (.int .i64 v1_1), .sl 37 v1_2 false]] []
 | .p500 x0 tag5 fields6 s24 s25 s26 C0 C1 C2 => mkSt 50 [0, 3, 5, 6, 24, 25, 26] [.op 128 x0, .bp 0 0, .v (.int .i64 tag5), .v (.int .i64 fields6), .so 105 s24, .v (.int .i64 s25), .v (.int .i64 s26)] [.var 37 [.v (.string C0), .v (.int .i64 C1), .sl 37 C2 false]]
abbrev vD8 : Type := ((Int × Unit) × Unit)
def uo6 : Res E (Int × Unit) Unit := { rows := [], flat := [], keep := 0, done := [0], rl := (.cons (Rd.int .i64) .nil), rb := .nil }
def uD5 : vk4 → Option vD8
 | .start x0 v1_0 v1_1 v1_2 =>
  (un4 (.start x0)) >>= fun t1 =>
  if t1.1.1 = true then
   some ((v1_1, ()), ())
  else
   (uI2 (.start x0 v1_0)) >>= fun t2 =>
   x0 >>= fun t3 =>
   (idx (Option.getD t3.constructors []) t2.1.1) >>= fun t4 =>
   uD5 (.p500 x0 t2.1.1 (0 : Int) t4.parts (List.length (Option.getD t4.parts []) : Int) (0 : Int) v1_0 v1_1 v1_2)
 | .p500 x0 tag5 fields6 s24 s25 s26 C0 C1 C2 =>
  if (decide (s26 < s25)) = true then
   (idx (Option.getD s24 []) s26) >>= fun t1 =>
   (run_z41 (.start t1)) >>= fun t2 =>
   if (decide ((0 : Int) ≤ t2.1.1)) = true then
    (idx C2 s26) >>= fun t3 =>
    (uD5 (.start t1 t3.Name t3.Number t3.Parts)) >>= fun t4 =>
    uD5 (.p500 x0 tag5 (bits .or .i64 (shl .i64 fields6 t2.1.1) t4.1.1) s24 s25 (IntKind.wrap .i64 (s26 + (1 : Int))) C0 C1 C2)
   else none
  else
   (run_z42 (.start x0)) >>= fun t5 =>
   if (decide ((0 : Int) ≤ t5.1.1)) = true then
    some ((bits .or .i64 (shl .i64 tag5 t5.1.1) fields6, ()), ())
   else none
 partial_fixpoint
def xj9 : List (Plc E vk4) := [⟨500, [false, false, true, false, true, true, true, true], { slots := [0, 3, 5, 6, 24, 25, 26], rows := [], flat := [], keep := 0 }, _, _, (.cons (Rd.op 128) (.cons (Rd.bp 0 0) (.cons (Rd.int .i64) (.cons (Rd.int .i64) (.cons (Rd.so 105) (.cons (Rd.int .i64) (.cons (Rd.int .i64) .nil))))))), (.cons (.var 37 (.cons Rd.str (.cons (Rd.int .i64) (.cons (Rd.sl 37 false) .nil)))) .nil), fun a b => .p500 a.1 a.2.2.1 a.2.2.2.1 a.2.2.2.2.1 a.2.2.2.2.2.1 a.2.2.2.2.2.2.1 b.1.1 b.1.2.1 b.1.2.2.1⟩]
theorem wQ3 : All (ub8 50 0 uG2 vP6) xj9 := ⟨⟨rfl, rfl, fun _ _ => rfl, fun _ _ => rfl⟩, trivial⟩
def uJ2 : Code := Tryz.f74.body.getD .skip
def w82 (run' : vk4 → Option vD8) : Con E := ⟨74, ((Option ua4) × ((ByteArray × (Int × ((List ua5) × Unit))) × Unit)), Unit, (RwL.cons (Rd.op 128).w (RwL.cons (Rw.agg (RwL.cons Rd.str.w (RwL.cons (Rd.int .i64).w (RwL.cons (Rw.sl 37) RwL.nil)))) RwL.nil)), RdBL.nil, 0, vD8, fun a b => run' (.start a.1 a.2.1.1 a.2.1.2.1 a.2.1.2.2.1), uo6.av, uo6.bx⟩
theorem wI4 {run' : vk4 → Option vD8} (ih : ∀ pt r, run' pt = some r → Good E Tryz.f74 uJ2 0 (uo6.av r) (uo6.bx r) (uG2 pt) (vP6 pt)) : (w82 run').Ok := fun a b r h => ub3 (fn := Tryz.f74) (code := uJ2) E_ok (by kernel_rfl) (by kernel_rfl) (by kernel_rfl) (Nat.le_of_ble_eq_true rfl) (ih (.start a.1 a.2.1.1 a.2.1.2.1 a.2.1.2.2.1) r h)
def wq0 (run' : vk4 → Option vD8) : Spec E.S := (Con.add (w82 run') (Con.add vw7 (Con.add uN3 (Con.add vT6 (Con.add uB0 ub0)))))
theorem v78 {run' : vk4 → Option vD8} (ih : ∀ pt r, run' pt = some r → Good E Tryz.f74 uJ2 0 (uo6.av r) (uo6.bx r) (uG2 pt) (vP6 pt)) : ua9 E (wq0 run') := (Con.add_ok (wI4 ih) (Con.add_ok uX2 (Con.add_ok ut0 (Con.add_ok vo3 (Con.add_ok um1 ua7)))))
theorem xy1 : ∀ pt r, uD5 pt = some r → Good E Tryz.f74 uJ2 0 (uo6.av r) (uo6.bx r) (uG2 pt) (vP6 pt) := by
 refine uD5.partial_correctness (fun pt r => Good E Tryz.f74 uJ2 0 (uo6.av r) (uo6.bx r) (uG2 pt) (vP6 pt)) ?_
 intro run' ih pt r hr
 cases pt <;> exact ua8 (spec := (wq0 run')) (wr := (mkWr [] [])) (l := xj9) (z := 50) (p := uo6) E_ok wQ3.mem rfl (v78 ih) ih (Eq.trans (by kernel_rfl) hr)
def w08 : Con E := ⟨74, _, _, (.cons (Rd.op 128).w (.cons (Rw.agg (.cons Rd.str.w (.cons (Rd.int .i64).w (.cons (Rw.sl 37) .nil)))) .nil)), .nil, 0, vD8, fun a b => uD5 (.start a.1 a.2.1.1 a.2.1.2.1 a.2.1.2.2.1), uo6.av, uo6.bx⟩
theorem wD0 : w08.Ok := fun a b r h => ub3 (fn := Tryz.f74) (code := uJ2) E_ok (by kernel_rfl) (by kernel_rfl) (by kernel_rfl) (Nat.le_of_ble_eq_true rfl) (xy1 (.start a.1 a.2.1.1 a.2.1.2.1 a.2.1.2.2.1) r h)
inductive wy8 where
 | start (l0 : (List ua2)) (t1_0 : Int) (t1_1 : Int) (t1_2 : ByteArray) (t1_3 : (List ua0)) (v2_0 : ByteArray) (v2_1 : Int) (v2_2 : (List ua5))
def vK8 : wy8 → List Bool
 | .start .. => []
def xK4 : wy8 → St E.S
 | .start l0 t1_0 t1_1 t1_2 t1_3 v2_0 v2_1 v2_2 => st0 23 [.sl 103 l0 false, .agg [.v (.int .i64 t1_0), .v (.int .i64 t1_1), .v (.string t1_2), .sl 25 t1_3 false], .agg [.v (.string v2_0), .v (.int .i64 v2_1), .sl 37 v2_2 false]] []
abbrev xQ5 : Type := ((Int × (Int × Unit)) × Unit)
def ve2 : Res E (Int × (Int × Unit)) Unit := { rows := [], flat := [], keep := 0, done := [0, 1], rl := (.cons (Rd.int .i64) (.cons (Rd.int .i64) .nil)), rb := .nil }
def vh0 : wy8 → Option xQ5
 | .start l0 t1_0 t1_1 t1_2 t1_3 v2_0 v2_1 v2_2 =>
  (uI4 (.start l0 t1_0 t1_1 t1_2 t1_3 v2_0 v2_1 v2_2)) >>= fun t1 =>
  if (t1.1.2.1 != (0 : Int)) = true then
   some (((0 : Int), (t1.1.2.1, ())), ())
  else
   (uD5 (.start t1.1.1 v2_0 v2_1 v2_2)) >>= fun t2 =>
   some ((t2.1.1, ((0 : Int), ())), ())
def xk0 : List (Plc E wy8) := []
theorem wQ4 : All (ub8 23 0 vK8 xK4) xk0 := trivial
def wg9 : Code := Tryz.f21.body.getD .skip
def wq1 : Spec E.S := (Con.add w08 (Con.add w07 ub0))
theorem v79 : ua9 E wq1 := (Con.add_ok wD0 (Con.add_ok wC9 ua7))
theorem xy2 : ∀ pt r, vh0 pt = some r → Good E Tryz.f21 wg9 0 (ve2.av r) (ve2.bx r) (vK8 pt) (xK4 pt) := by
 intro pt r hr
 cases pt <;> exact ua8 (spec := wq1) (wr := (mkWr [] [])) (l := xk0) (z := 23) (p := ve2) (run' := fun _ => none) E_ok wQ4.mem rfl v79 (fun _ _ h => by cases h) (Eq.trans (by kernel_rfl) hr)
def w09 : Con E := ⟨21, _, _, (.cons (Rw.sl 103) (.cons (Rw.agg (.cons (Rd.int .i64).w (.cons (Rd.int .i64).w (.cons Rd.str.w (.cons (Rw.sl 25) .nil))))) (.cons (Rw.agg (.cons Rd.str.w (.cons (Rd.int .i64).w (.cons (Rw.sl 37) .nil)))) .nil))), .nil, 0, xQ5, fun a b => vh0 (.start a.1 a.2.1.1 a.2.1.2.1 a.2.1.2.2.1 a.2.1.2.2.2.1 a.2.2.1.1 a.2.2.1.2.1 a.2.2.1.2.2.1), ve2.av, ve2.bx⟩
theorem wD1 : w09.Ok := fun a b r h => ub3 (fn := Tryz.f21) (code := wg9) E_ok (by kernel_rfl) (by kernel_rfl) (by kernel_rfl) (Nat.le_of_ble_eq_true rfl) (xy2 (.start a.1 a.2.1.1 a.2.1.2.1 a.2.1.2.2.1 a.2.1.2.2.2.1 a.2.2.1.1 a.2.2.1.2.1 a.2.2.1.2.2.1) r h)
inductive vk5 where
 | start (x0 : (Option ua4)) (n1 : Int)
 | p8180 (fields7 : Int) (low9 : Int) (s54 : (Option (List (Option ua4)))) (s55 : Int) (s56 : Int) (C0 : ByteArray) (C1 : Int) (B1 : (List ua5))
def uG3 : vk5 → List Bool
 | .start .. => []
 | .p8180 .. => [false, false, true, false, true, true, true, true, true, true, true, true]
def vP7 : vk5 → St E.S
 | .start x0 n1 => st0 88 [.op 128 x0, .v (.int .i64 n1)] []
 | .p8180 fields7 low9 s54 s55 s56 C0 C1 B1 => mkSt 88 [4, 7, 9, 54, 55, 56] [.bp 0 0, .v (.int .i64 fields7), .v (.int .i64 low9), .so 105 s54, .v (.int .i64 s55), .v (.int .i64 s56)] [.var 37 [.v (.string C0), .v (.int .i64 C1), .rw 1], .row 37 B1 false]
abbrev vD9 : Type := (((ByteArray × (Int × ((List ua5) × Unit))) × (Bool × Unit)) × Unit)
def uo7 : Res E ((ByteArray × (Int × ((List ua5) × Unit))) × (Bool × Unit)) Unit := { rows := [], flat := [], keep := 0, deep := [(false, 0, 2, 37)], done := [0, 1], rl := (.cons (Rd.agg (.cons Rd.str (.cons (Rd.int .i64) (.cons (Rd.sl 37 false) .nil)))) (.cons Rd.bool .nil)), rb := .nil }
def uD6 : vk5 → Option vD9
 | .start x0 n1 =>
  (un4 (.start x0)) >>= fun t1 =>
  if t1.1.1 = true then
   some ((((⟨#[]⟩ : ByteArray), (n1, ([], ()))), (true, ())), ())
  else
   (run_z42 (.start x0)) >>= fun t2 =>
   if (decide ((0 : Int) ≤ t2.1.1)) = true then
    (run_z42 (.start x0)) >>= fun t3 =>
    if (decide ((0 : Int) ≤ t3.1.1)) = true then
     x0 >>= fun t4 =>
     if (decide ((shr .i64 n1 t2.1.1) ≥ (List.length (Option.getD t4.constructors []) : Int))) = true then
      some ((((⟨#[]⟩ : ByteArray), ((0 : Int), ([], ()))), (false, ())), ())
     else
      x0 >>= fun t5 =>
      (idx (Option.getD t5.constructors []) (shr .i64 n1 t2.1.1)) >>= fun t6 =>
      (uh9 (.start t6.name t6.fields t6.parts)) >>= fun t7 =>
      if (decide ((0 : Int) ≤ t7.1.1)) = true then
       if ((shr .i64 (bits .and .i64 n1 (IntKind.wrap .i64 ((shl .i64 (1 : Int) t3.1.1) - (1 : Int)))) t7.1.1) != (0 : Int)) = true then
        some ((((⟨#[]⟩ : ByteArray), ((0 : Int), ([], ()))), (false, ())), ())
       else
        uD6 (.p8180 (bits .and .i64 n1 (IntKind.wrap .i64 ((shl .i64 (1 : Int) t3.1.1) - (1 : Int)))) t7.1.1 t6.parts (List.length (Option.getD t6.parts []) : Int) (0 : Int) t6.name (0 : Int) ([] : List ua5))
      else none
    else none
   else none
 | .p8180 fields7 low9 s54 s55 s56 C0 C1 B1 =>
  if (decide (s56 < s55)) = true then
   (idx (Option.getD s54 []) s56) >>= fun t1 =>
   (run_z41 (.start t1)) >>= fun t2 =>
   if (decide ((0 : Int) ≤ (IntKind.wrap .i64 (low9 - t2.1.1)))) = true then
    (run_z41 (.start t1)) >>= fun t3 =>
    if (decide ((0 : Int) ≤ t3.1.1)) = true then
     (uD6 (.start t1 (bits .and .i64 (shr .i64 fields7 (IntKind.wrap .i64 (low9 - t2.1.1))) (IntKind.wrap .i64 ((shl .i64 (1 : Int) t3.1.1) - (1 : Int)))))) >>= fun t4 =>
     if (!t4.1.2.1) = true then
      some (((C0, (C1, (B1, ()))), (false, ())), ())
     else
      if (fits (List.length B1) (List.length ([(⟨t4.1.1.1, t4.1.1.2.1, t4.1.1.2.2.1⟩ : ua5)] : List ua5)) 48) = true then
       uD6 (.p8180 fields7 (IntKind.wrap .i64 (low9 - t2.1.1)) s54 s55 (IntKind.wrap .i64 (s56 + (1 : Int))) C0 C1 (B1 ++ ([(⟨t4.1.1.1, t4.1.1.2.1, t4.1.1.2.2.1⟩ : ua5)] : List ua5)))
      else none
    else none
   else none
  else
   some (((C0, (C1, (B1, ()))), (true, ())), ())
 partial_fixpoint
def xk1 : List (Plc E vk5) := [⟨8180, [false, false, true, false, true, true, true, true, true, true, true, true], { slots := [4, 7, 9, 54, 55, 56], rows := [], flat := [], keep := 0, up := [(true, 4, 2, 37)] }, _, _, (.cons (Rd.bp 0 0) (.cons (Rd.int .i64) (.cons (Rd.int .i64) (.cons (Rd.so 105) (.cons (Rd.int .i64) (.cons (Rd.int .i64) .nil)))))), (.cons (.var 37 (.cons Rd.str (.cons (Rd.int .i64) (.cons (Rd.rw 1) .nil)))) (.cons (.row 37 false) .nil)), fun a b => .p8180 a.2.1 a.2.2.1 a.2.2.2.1 a.2.2.2.2.1 a.2.2.2.2.2.1 b.1.1 b.1.2.1 b.2.1⟩]
theorem wQ5 : All (ub8 88 0 uG3 vP7) xk1 := ⟨⟨rfl, rfl, fun _ _ => rfl, fun _ _ => rfl⟩, trivial⟩
def uJ3 : Code := Tryz.f71.body.getD .skip
def w83 (run' : vk5 → Option vD9) : Con E := ⟨71, ((Option ua4) × (Int × Unit)), Unit, (RwL.cons (Rd.op 128).w (RwL.cons (Rd.int .i64).w RwL.nil)), RdBL.nil, 0, vD9, fun a b => run' (.start a.1 a.2.1), uo7.av, uo7.bx⟩
theorem wI5 {run' : vk5 → Option vD9} (ih : ∀ pt r, run' pt = some r → Good E Tryz.f71 uJ3 0 (uo7.av r) (uo7.bx r) (uG3 pt) (vP7 pt)) : (w83 run').Ok := fun a b r h => ub3 (fn := Tryz.f71) (code := uJ3) E_ok (by kernel_rfl) (by kernel_rfl) (by kernel_rfl) (Nat.le_of_ble_eq_true rfl) (ih (.start a.1 a.2.1) r h)
def wq2 (run' : vk5 → Option vD9) : Spec E.S := (Con.add (w83 run') (Con.add uN3 (Con.add vT3 (Con.add vw7 (Con.add uB0 ub0)))))
theorem v81 {run' : vk5 → Option vD9} (ih : ∀ pt r, run' pt = some r → Good E Tryz.f71 uJ3 0 (uo7.av r) (uo7.bx r) (uG3 pt) (vP7 pt)) : ua9 E (wq2 run') := (Con.add_ok (wI5 ih) (Con.add_ok ut0 (Con.add_ok vo0 (Con.add_ok uX2 (Con.add_ok um1 ua7)))))
theorem xy3 : ∀ pt r, uD6 pt = some r → Good E Tryz.f71 uJ3 0 (uo7.av r) (uo7.bx r) (uG3 pt) (vP7 pt) := by
 refine uD6.partial_correctness (fun pt r => Good E Tryz.f71 uJ3 0 (uo7.av r) (uo7.bx r) (uG3 pt) (vP7 pt)) ?_
 intro run' ih pt r hr
 cases pt <;> exact ua8 (spec := (wq2 run')) (wr := (mkWr [] [])) (l := xk1) (z := 88) (p := uo7) E_ok wQ5.mem rfl (v81 ih) ih (Eq.trans (by kernel_rfl) hr)
def w10 : Con E := ⟨71, _, _, (.cons (Rd.op 128).w (.cons (Rd.int .i64).w .nil)), .nil, 0, vD9, fun a b => uD6 (.start a.1 a.2.1), uo7.av, uo7.bx⟩
theorem wD2 : w10.Ok := fun a b r h => ub3 (fn := Tryz.f71) (code := uJ3) E_ok (by kernel_rfl) (by kernel_rfl) (by kernel_rfl) (Nat.le_of_ble_eq_true rfl) (xy3 (.start a.1 a.2.1) r h)
inductive wy9 where
 | start (l0 : (List ua2)) (t1_0 : Int) (t1_1 : Int) (t1_2 : ByteArray) (t1_3 : (List ua0)) (bits2 : Int)
def vK9 : wy9 → List Bool
 | .start .. => []
def xK5 : wy9 → St E.S
 | .start l0 t1_0 t1_1 t1_2 t1_3 bits2 => st0 45 [.sl 103 l0 false, .agg [.v (.int .i64 t1_0), .v (.int .i64 t1_1), .v (.string t1_2), .sl 25 t1_3 false], .v (.int .i64 bits2)] []
abbrev xQ6 : Type := (((ByteArray × (Int × ((List ua5) × Unit))) × (Int × Unit)) × Unit)
def ve3 : Res E ((ByteArray × (Int × ((List ua5) × Unit))) × (Int × Unit)) Unit := { rows := [], flat := [], keep := 0, deep := [(false, 0, 2, 37)], done := [0, 1], rl := (.cons (Rd.agg (.cons Rd.str (.cons (Rd.int .i64) (.cons (Rd.sl 37 false) .nil)))) (.cons (Rd.int .i64) .nil)), rb := .nil }
def vh1 : wy9 → Option xQ6
 | .start l0 t1_0 t1_1 t1_2 t1_3 bits2 =>
  (ur5 (.start l0 t1_0 t1_1 t1_2 t1_3)) >>= fun t1 =>
  (ud1 (.start ([t1.1.2.2.1] : List Int))) >>= fun t2 =>
  if (t2.1.1 != (0 : Int)) = true then
   some ((((⟨#[]⟩ : ByteArray), ((0 : Int), ([], ()))), (t2.1.1, ())), ())
  else
   (run_z41 (.start t1.1.1)) >>= fun t3 =>
   if (decide ((0 : Int) ≤ t3.1.1)) = true then
    (uk2 (.start bits2 (0 : Int) (IntKind.wrap .i64 ((shl .i64 (1 : Int) t3.1.1) - (1 : Int))))) >>= fun t4 =>
    if (!t4.1.1) = true then
     some ((((⟨#[]⟩ : ByteArray), ((0 : Int), ([], ()))), ((2 : Int), ())), ())
    else
     (uD6 (.start t1.1.1 bits2)) >>= fun t5 =>
     if (!t5.1.2.1) = true then
      some ((((⟨#[]⟩ : ByteArray), ((0 : Int), ([], ()))), ((3 : Int), ())), ())
     else
      some (((t5.1.1.1, (t5.1.1.2.1, (t5.1.1.2.2.1, ()))), ((0 : Int), ())), ())
   else none
def xk2 : List (Plc E wy9) := []
theorem wQ6 : All (ub8 45 0 vK9 xK5) xk2 := trivial
def wh0 : Code := Tryz.f19.body.getD .skip
def wq3 : Spec E.S := (Con.add w10 (Con.add uS2 (Con.add uN3 (Con.add uE9 (Con.add uN4 ub0)))))
theorem v82 : ua9 E wq3 := (Con.add_ok wD2 (Con.add_ok uq5 (Con.add_ok ut0 (Con.add_ok un9 (Con.add_ok ut1 ua7)))))
theorem xy4 : ∀ pt r, vh1 pt = some r → Good E Tryz.f19 wh0 0 (ve3.av r) (ve3.bx r) (vK9 pt) (xK5 pt) := by
 intro pt r hr
 cases pt <;> exact ua8 (spec := wq3) (wr := (mkWr [] [])) (l := xk2) (z := 45) (p := ve3) (run' := fun _ => none) E_ok wQ6.mem rfl v82 (fun _ _ h => by cases h) (Eq.trans (by kernel_rfl) hr)
def w11 : Con E := ⟨19, _, _, (.cons (Rw.sl 103) (.cons (Rw.agg (.cons (Rd.int .i64).w (.cons (Rd.int .i64).w (.cons Rd.str.w (.cons (Rw.sl 25) .nil))))) (.cons (Rd.int .i64).w .nil))), .nil, 0, xQ6, fun a b => vh1 (.start a.1 a.2.1.1 a.2.1.2.1 a.2.1.2.2.1 a.2.1.2.2.2.1 a.2.2.1), ve3.av, ve3.bx⟩
theorem wD3 : w11.Ok := fun a b r h => ub3 (fn := Tryz.f19) (code := wh0) E_ok (by kernel_rfl) (by kernel_rfl) (by kernel_rfl) (Nat.le_of_ble_eq_true rfl) (xy4 (.start a.1 a.2.1.1 a.2.1.2.1 a.2.1.2.2.1 a.2.1.2.2.2.1 a.2.2.1) r h)
inductive uW4 where
 | start (v0_0 : ByteArray) (v0_1 : (List ua6)) (v0_2 : (Option (List (Option ua4))))
 | p116 (n3 : Int) (s7 : (Option (List (Option ua4)))) (s8 : Int) (s9 : Int)
def uu6 : uW4 → List Bool
 | .start .. => []
 | .p116 .. => [false, false, true, false, true, true]
def vi8 : uW4 → St E.S
 | .start v0_0 v0_1 v0_2 => st0 19 [.agg [.v (.string v0_0), .sl 58 v0_1 false, .so 105 v0_2]] []
 | .p116 n3 s7 s8 s9 => mkSt 19 [3, 7, 8, 9] [.v (.int .i64 n3), .so 105 s7, .v (.int .i64 s8), .v (.int .i64 s9)] []
abbrev vl6 : Type := ((Int × Unit) × Unit)
def uj1 : Res E (Int × Unit) Unit := { rows := [], flat := [], keep := 0, done := [0], rl := (.cons (Rd.int .i64) .nil), rb := .nil }
inductive uW5 where
 | start (x0 : (Option ua4))
 | p244 (sum3 : Int) (s16 : (Option (List data_variant))) (s17 : Int) (s18 : Int)
def uu7 : uW5 → List Bool
 | .start .. => []
 | .p244 .. => [false, false, true, false, true, true, true]
def vi9 : uW5 → St E.S
 | .start x0 => st0 28 [.op 128 x0] []
 | .p244 sum3 s16 s17 s18 => mkSt 28 [3, 16, 17, 18] [.v (.int .i64 sum3), .so 125 s16, .v (.int .i64 s17), .v (.int .i64 s18)] []
abbrev vl7 : Type := ((Int × Unit) × Unit)
def uj2 : Res E (Int × Unit) Unit := { rows := [], flat := [], keep := 0, done := [0], rl := (.cons (Rd.int .i64) .nil), rb := .nil }
mutual
def uj9 : uW4 → Option vl6
 | .start v0_0 v0_1 v0_2 =>
  uj9 (.p116 (1 : Int) v0_2 (List.length (Option.getD v0_2 []) : Int) (0 : Int))
 | .p116 n3 s7 s8 s9 =>
  if (decide (s9 < s8)) = true then
   (idx (Option.getD s7 []) s9) >>= fun t1 =>
   (run_z61 (.start t1)) >>= fun t2 =>
   uj9 (.p116 (IntKind.wrap .i64 (n3 * t2.1.1)) s7 s8 (IntKind.wrap .i64 (s9 + (1 : Int))))
  else
   some ((n3, ()), ())
 partial_fixpoint
def run_z61 : uW5 → Option vl7
 | .start x0 =>
  (un4 (.start x0)) >>= fun t1 =>
  if t1.1.1 = true then
   x0 >>= fun t2 =>
   if (decide ((0 : Int) ≤ t2.bits)) = true then
    some ((shl .i64 (1 : Int) t2.bits, ()), ())
   else none
  else
   x0 >>= fun t3 =>
   run_z61 (.p244 (0 : Int) t3.constructors (List.length (Option.getD t3.constructors []) : Int) (0 : Int))
 | .p244 sum3 s16 s17 s18 =>
  if (decide (s18 < s17)) = true then
   (idx (Option.getD s16 []) s18) >>= fun t1 =>
   (uj9 (.start t1.name t1.fields t1.parts)) >>= fun t2 =>
   run_z61 (.p244 (IntKind.wrap .i64 (sum3 + t2.1.1)) s16 s17 (IntKind.wrap .i64 (s18 + (1 : Int))))
  else
   some ((sum3, ()), ())
 partial_fixpoint
end
def xk4 : List (Plc E uW4) := [⟨116, [false, false, true, false, true, true], { slots := [3, 7, 8, 9], rows := [], flat := [], keep := 0 }, _, _, (.cons (Rd.int .i64) (.cons (Rd.so 105) (.cons (Rd.int .i64) (.cons (Rd.int .i64) .nil)))), .nil, fun a b => .p116 a.1 a.2.1 a.2.2.1 a.2.2.2.1⟩]
theorem wQ7 : All (ub8 19 0 uu6 vi8) xk4 := ⟨⟨rfl, rfl, fun _ _ => rfl, fun _ _ => rfl⟩, trivial⟩
def uw7 : Code := Tryz.f108.body.getD .skip
def vW5 (run' : uW4 → Option vl6) : Con E := ⟨108, ((ByteArray × ((List ua6) × ((Option (List (Option ua4))) × Unit))) × Unit), Unit, (RwL.cons (Rw.agg (RwL.cons Rd.str.w (RwL.cons (Rw.sl 58) (RwL.cons (Rd.so 105).w RwL.nil)))) RwL.nil), RdBL.nil, 0, vl6, fun a b => run' (.start a.1.1 a.1.2.1 a.1.2.2.1), uj1.av, uj1.bx⟩
theorem vq8 {run' : uW4 → Option vl6} (ih : ∀ pt r, run' pt = some r → Good E Tryz.f108 uw7 0 (uj1.av r) (uj1.bx r) (uu6 pt) (vi8 pt)) : (vW5 run').Ok := fun a b r h => ub3 (fn := Tryz.f108) (code := uw7) E_ok (by kernel_rfl) (by kernel_rfl) (by kernel_rfl) (Nat.le_of_ble_eq_true rfl) (ih (.start a.1.1 a.1.2.1 a.1.2.2.1) r h)
def xk5 : List (Plc E uW5) := [⟨244, [false, false, true, false, true, true, true], { slots := [3, 16, 17, 18], rows := [], flat := [], keep := 0 }, _, _, (.cons (Rd.int .i64) (.cons (Rd.so 125) (.cons (Rd.int .i64) (.cons (Rd.int .i64) .nil)))), .nil, fun a b => .p244 a.1 a.2.1 a.2.2.1 a.2.2.2.1⟩]
theorem wQ8 : All (ub8 28 0 uu7 vi9) xk5 := ⟨⟨rfl, rfl, fun _ _ => rfl, fun _ _ => rfl⟩, trivial⟩
def uw8 : Code := Tryz.f68.body.getD .skip
def vW6 (run' : uW5 → Option vl7) : Con E := ⟨68, ((Option ua4) × Unit), Unit, (RwL.cons (Rd.op 128).w RwL.nil), RdBL.nil, 0, vl7, fun a b => run' (.start a.1), uj2.av, uj2.bx⟩
theorem vq9 {run' : uW5 → Option vl7} (ih : ∀ pt r, run' pt = some r → Good E Tryz.f68 uw8 0 (uj2.av r) (uj2.bx r) (uu7 pt) (vi9 pt)) : (vW6 run').Ok := fun a b r h => ub3 (fn := Tryz.f68) (code := uw8) E_ok (by kernel_rfl) (by kernel_rfl) (by kernel_rfl) (Nat.le_of_ble_eq_true rfl) (ih (.start a.1) r h)
def wq4 (r_z60 : uW4 → Option vl6) (r_z61 : uW5 → Option vl7) : Spec E.S := (Con.add (vW6 r_z61) (Con.add (vW5 r_z60) ub0))
theorem v83 {r_z60 : uW4 → Option vl6} (h_z60 : ∀ pt r, r_z60 pt = some r → Good E Tryz.f108 uw7 0 (uj1.av r) (uj1.bx r) (uu6 pt) (vi8 pt)) {r_z61 : uW5 → Option vl7} (h_z61 : ∀ pt r, r_z61 pt = some r → Good E Tryz.f68 uw8 0 (uj2.av r) (uj2.bx r) (uu7 pt) (vi9 pt)) : ua9 E (wq4 r_z60 r_z61) := (Con.add_ok (vq9 h_z61) (Con.add_ok (vq8 h_z60) ua7))
def wq5 (r_z60 : uW4 → Option vl6) (r_z61 : uW5 → Option vl7) : Spec E.S := (Con.add (vW6 r_z61) (Con.add (vW5 r_z60) (Con.add uB0 ub0)))
theorem v84 {r_z60 : uW4 → Option vl6} (h_z60 : ∀ pt r, r_z60 pt = some r → Good E Tryz.f108 uw7 0 (uj1.av r) (uj1.bx r) (uu6 pt) (vi8 pt)) {r_z61 : uW5 → Option vl7} (h_z61 : ∀ pt r, r_z61 pt = some r → Good E Tryz.f68 uw8 0 (uj2.av r) (uj2.bx r) (uu7 pt) (vi9 pt)) : ua9 E (wq5 r_z60 r_z61) := (Con.add_ok (vq9 h_z61) (Con.add_ok (vq8 h_z60) (Con.add_ok um1 ua7)))
theorem vG8 : (∀ pt r, uj9 pt = some r → Good E Tryz.f108 uw7 0 (uj1.av r) (uj1.bx r) (uu6 pt) (vi8 pt)) ∧ (∀ pt r, run_z61 pt = some r → Good E Tryz.f68 uw8 0 (uj2.av r) (uj2.bx r) (uu7 pt) (vi9 pt)) := by
  refine uj9.mutual_partial_correctness (fun pt r => Good E Tryz.f108 uw7 0 (uj1.av r) (uj1.bx r) (uu6 pt) (vi8 pt)) (fun pt r => Good E Tryz.f68 uw8 0 (uj2.av r) (uj2.bx r) (uu7 pt) (vi9 pt)) ?_ ?_
  · intro r_z60 r_z61 h_z60 h_z61 pt r hr
    cases pt <;> exact ua8 (spec := (wq4 r_z60 r_z61)) (wr := (mkWr [] [])) (l := xk4) (z := 19) (p := uj1) E_ok wQ7.mem rfl (v83 h_z60 h_z61) h_z60 (Eq.trans (by kernel_rfl) hr)
  · intro r_z60 r_z61 h_z60 h_z61 pt r hr
    cases pt <;> exact ua8 (spec := (wq5 r_z60 r_z61)) (wr := (mkWr [] [])) (l := xk5) (z := 28) (p := uj2) E_ok wQ8.mem rfl (v84 h_z60 h_z61) h_z61 (Eq.trans (by kernel_rfl) hr)
theorem xy5 : ∀ pt r, uj9 pt = some r → Good E Tryz.f108 uw7 0 (uj1.av r) (uj1.bx r) (uu6 pt) (vi8 pt) := vG8.1
theorem xy6 : ∀ pt r, run_z61 pt = some r → Good E Tryz.f68 uw8 0 (uj2.av r) (uj2.bx r) (uu7 pt) (vi9 pt) := vG8.2
def w13 : Con E := ⟨108, _, _, (.cons (Rw.agg (.cons Rd.str.w (.cons (Rw.sl 58) (.cons (Rd.so 105).w .nil)))) .nil), .nil, 0, vl6, fun a b => uj9 (.start a.1.1 a.1.2.1 a.1.2.2.1), uj1.av, uj1.bx⟩
theorem wD4 : w13.Ok := fun a b r h => ub3 (fn := Tryz.f108) (code := uw7) E_ok (by kernel_rfl) (by kernel_rfl) (by kernel_rfl) (Nat.le_of_ble_eq_true rfl) (xy5 (.start a.1.1 a.1.2.1 a.1.2.2.1) r h)
def vT7 : Con E := ⟨68, _, _, (.cons (Rd.op 128).w .nil), .nil, 0, vl7, fun a b => run_z61 (.start a.1), uj2.av, uj2.bx⟩
theorem vo4 : vT7.Ok := fun a b r h => ub3 (fn := Tryz.f68) (code := uw8) E_ok (by kernel_rfl) (by kernel_rfl) (by kernel_rfl) (Nat.le_of_ble_eq_true rfl) (xy6 (.start a.1) r h)
inductive vk6 where
 | start (x0 : (Option ua4)) (index1 : Int)
 | p116 (index1 : Int) (s18 : (Option (List data_variant))) (s19 : Int) (s20 : Int) (C0 : ByteArray) (C1 : Int)
 | p478452 (index1 : Int) (n7 : Int) (s36 : (Option (List (Option ua4)))) (s37 : Int) (s38 : Int) (C0 : ByteArray) (C1 : Int) (D0 : ByteArray) (D1 : Int) (B2 : (List ua5))
def uG4 : vk6 → List Bool
 | .start .. => []
 | .p116 .. => [false, false, true, false, true, true]
 | .p478452 .. => [false, false, true, false, true, true, true, true, false, false, true, true, false, false, true, false, true, true]
def vP8 : vk6 → St E.S
 | .start x0 index1 => st0 63 [.op 128 x0, .v (.int .i64 index1)] []
 | .p116 index1 s18 s19 s20 C0 C1 => mkSt 63 [1, 4, 18, 19, 20] [.v (.int .i64 index1), .bp 0 0, .so 125 s18, .v (.int .i64 s19), .v (.int .i64 s20)] [.var 37 [.v (.string C0), .v (.int .i64 C1), .nl]]
 | .p478452 index1 n7 s36 s37 s38 C0 C1 D0 D1 B2 => mkSt 63 [1, 4, 7, 8, 36, 37, 38] [.v (.int .i64 index1), .bp 0 0, .v (.int .i64 n7), .bp 1 0, .so 105 s36, .v (.int .i64 s37), .v (.int .i64 s38)] [.var 37 [.v (.string C0), .v (.int .i64 C1), .nl], .var 37 [.v (.string D0), .v (.int .i64 D1), .rw 2], .row 37 B2 false]
abbrev vE0 : Type := (((ByteArray × (Int × ((List ua5) × Unit))) × Unit) × Unit)
def uo8 : Res E ((ByteArray × (Int × ((List ua5) × Unit))) × Unit) Unit := { rows := [], flat := [], keep := 0, deep := [(false, 0, 2, 37)], done := [0], rl := (.cons (Rd.agg (.cons Rd.str (.cons (Rd.int .i64) (.cons (Rd.sl 37 false) .nil)))) .nil), rb := .nil }
def uv4 : vk6 → Option vE0
 | .start x0 index1 =>
  (un4 (.start x0)) >>= fun t1 =>
  if t1.1.1 = true then
   some ((((⟨#[]⟩ : ByteArray), (index1, ([], ()))), ()), ())
  else
   x0 >>= fun t2 =>
   uv4 (.p116 index1 t2.constructors (List.length (Option.getD t2.constructors []) : Int) (0 : Int) (⟨#[]⟩ : ByteArray) (0 : Int))
 | .p116 index1 s18 s19 s20 C0 C1 =>
  if (decide (s20 < s19)) = true then
   (idx (Option.getD s18 []) s20) >>= fun t1 =>
   (uj9 (.start t1.name t1.fields t1.parts)) >>= fun t2 =>
   if (decide (index1 ≥ t2.1.1)) = true then
    uv4 (.p116 (IntKind.wrap .i64 (index1 - t2.1.1)) s18 s19 (IntKind.wrap .i64 (s20 + (1 : Int))) C0 C1)
   else
    uv4 (.p478452 index1 t2.1.1 t1.parts (List.length (Option.getD t1.parts []) : Int) (0 : Int) C0 C1 t1.name (0 : Int) ([] : List ua5))
  else
   some ((((⟨#[]⟩ : ByteArray), ((0 : Int), ([], ()))), ()), ())
 | .p478452 index1 n7 s36 s37 s38 C0 C1 D0 D1 B2 =>
  if (decide (s38 < s37)) = true then
   (idx (Option.getD s36 []) s38) >>= fun t1 =>
   (run_z61 (.start t1)) >>= fun t2 =>
   if (!(t2.1.1 == (0 : Int))) = true then
    if (!((IntKind.wrap .i64 (Int.tdiv n7 t2.1.1)) == (0 : Int))) = true then
     (uv4 (.start t1 (IntKind.wrap .i64 (Int.tdiv index1 (IntKind.wrap .i64 (Int.tdiv n7 t2.1.1)))))) >>= fun t3 =>
     if (fits (List.length B2) (List.length ([(⟨t3.1.1.1, t3.1.1.2.1, t3.1.1.2.2.1⟩ : ua5)] : List ua5)) 48) = true then
      if (!((IntKind.wrap .i64 (Int.tdiv n7 t2.1.1)) == (0 : Int))) = true then
       uv4 (.p478452 (Int.tmod index1 (IntKind.wrap .i64 (Int.tdiv n7 t2.1.1))) (IntKind.wrap .i64 (Int.tdiv n7 t2.1.1)) s36 s37 (IntKind.wrap .i64 (s38 + (1 : Int))) C0 C1 D0 D1 (B2 ++ ([(⟨t3.1.1.1, t3.1.1.2.1, t3.1.1.2.2.1⟩ : ua5)] : List ua5)))
      else none
     else none
    else none
   else none
  else
   some (((D0, (D1, (B2, ()))), ()), ())
 partial_fixpoint
def xk6 : List (Plc E vk6) := [⟨116, [false, false, true, false, true, true], { slots := [1, 4, 18, 19, 20], rows := [], flat := [], keep := 0 }, _, _, (.cons (Rd.int .i64) (.cons (Rd.bp 0 0) (.cons (Rd.so 125) (.cons (Rd.int .i64) (.cons (Rd.int .i64) .nil))))), (.cons (.var 37 (.cons Rd.str (.cons (Rd.int .i64) (.cons Rd.nl .nil)))) .nil), fun a b => .p116 a.1 a.2.2.1 a.2.2.2.1 a.2.2.2.2.1 b.1.1 b.1.2.1⟩,
 ⟨478452, [false, false, true, false, true, true, true, true, false, false, true, true, false, false, true, false, true, true], { slots := [1, 4, 7, 8, 36, 37, 38], rows := [], flat := [], keep := 0, up := [(true, 8, 2, 37)] }, _, _, (.cons (Rd.int .i64) (.cons (Rd.bp 0 0) (.cons (Rd.int .i64) (.cons (Rd.bp 1 0) (.cons (Rd.so 105) (.cons (Rd.int .i64) (.cons (Rd.int .i64) .nil))))))), (.cons (.var 37 (.cons Rd.str (.cons (Rd.int .i64) (.cons Rd.nl .nil)))) (.cons (.var 37 (.cons Rd.str (.cons (Rd.int .i64) (.cons (Rd.rw 2) .nil)))) (.cons (.row 37 false) .nil))), fun a b => .p478452 a.1 a.2.2.1 a.2.2.2.2.1 a.2.2.2.2.2.1 a.2.2.2.2.2.2.1 b.1.1 b.1.2.1 b.2.1.1 b.2.1.2.1 b.2.2.1⟩]
theorem wQ9 : All (ub8 63 0 uG4 vP8) xk6 := ⟨⟨rfl, rfl, fun _ _ => rfl, fun _ _ => rfl⟩, ⟨⟨rfl, rfl, fun _ _ => rfl, fun _ _ => rfl⟩, trivial⟩⟩
def uJ4 : Code := Tryz.f84.body.getD .skip
def w84 (run' : vk6 → Option vE0) : Con E := ⟨84, ((Option ua4) × (Int × Unit)), Unit, (RwL.cons (Rd.op 128).w (RwL.cons (Rd.int .i64).w RwL.nil)), RdBL.nil, 0, vE0, fun a b => run' (.start a.1 a.2.1), uo8.av, uo8.bx⟩
theorem wI6 {run' : vk6 → Option vE0} (ih : ∀ pt r, run' pt = some r → Good E Tryz.f84 uJ4 0 (uo8.av r) (uo8.bx r) (uG4 pt) (vP8 pt)) : (w84 run').Ok := fun a b r h => ub3 (fn := Tryz.f84) (code := uJ4) E_ok (by kernel_rfl) (by kernel_rfl) (by kernel_rfl) (Nat.le_of_ble_eq_true rfl) (ih (.start a.1 a.2.1) r h)
def wq6 (run' : vk6 → Option vE0) : Spec E.S := (Con.add (w84 run') (Con.add vT7 (Con.add w13 (Con.add uB0 ub0))))
theorem v86 {run' : vk6 → Option vE0} (ih : ∀ pt r, run' pt = some r → Good E Tryz.f84 uJ4 0 (uo8.av r) (uo8.bx r) (uG4 pt) (vP8 pt)) : ua9 E (wq6 run') := (Con.add_ok (wI6 ih) (Con.add_ok vo4 (Con.add_ok wD4 (Con.add_ok um1 ua7))))
theorem xy7 : ∀ pt r, uv4 pt = some r → Good E Tryz.f84 uJ4 0 (uo8.av r) (uo8.bx r) (uG4 pt) (vP8 pt) := by
 refine uv4.partial_correctness (fun pt r => Good E Tryz.f84 uJ4 0 (uo8.av r) (uo8.bx r) (uG4 pt) (vP8 pt)) ?_
 intro run' ih pt r hr
 cases pt <;> exact ua8 (spec := (wq6 run')) (wr := (mkWr [] [])) (l := xk6) (z := 63) (p := uo8) E_ok wQ9.mem rfl (v86 ih) ih (Eq.trans (by kernel_rfl) hr)
def w14 : Con E := ⟨84, _, _, (.cons (Rd.op 128).w (.cons (Rd.int .i64).w .nil)), .nil, 0, vE0, fun a b => uv4 (.start a.1 a.2.1), uo8.av, uo8.bx⟩
theorem wD5 : w14.Ok := fun a b r h => ub3 (fn := Tryz.f84) (code := uJ4) E_ok (by kernel_rfl) (by kernel_rfl) (by kernel_rfl) (Nat.le_of_ble_eq_true rfl) (xy7 (.start a.1 a.2.1) r h)
inductive wz0 where
 | start (l0 : (List ua2)) (t1_0 : Int) (t1_1 : Int) (t1_2 : ByteArray) (t1_3 : (List ua0)) (index2 : Int)
def vL0 : wz0 → List Bool
 | .start .. => []
def xK6 : wz0 → St E.S
 | .start l0 t1_0 t1_1 t1_2 t1_3 index2 => st0 32 [.sl 103 l0 false, .agg [.v (.int .i64 t1_0), .v (.int .i64 t1_1), .v (.string t1_2), .sl 25 t1_3 false], .v (.int .i64 index2)] []
abbrev xQ7 : Type := (((ByteArray × (Int × ((List ua5) × Unit))) × (Int × Unit)) × Unit)
def ve5 : Res E ((ByteArray × (Int × ((List ua5) × Unit))) × (Int × Unit)) Unit := { rows := [], flat := [], keep := 0, deep := [(false, 0, 2, 37)], done := [0, 1], rl := (.cons (Rd.agg (.cons Rd.str (.cons (Rd.int .i64) (.cons (Rd.sl 37 false) .nil)))) (.cons (Rd.int .i64) .nil)), rb := .nil }
def vh2 : wz0 → Option xQ7
 | .start l0 t1_0 t1_1 t1_2 t1_3 index2 =>
  (ur5 (.start l0 t1_0 t1_1 t1_2 t1_3)) >>= fun t1 =>
  if (t1.1.2.2.1 != (0 : Int)) = true then
   some ((((⟨#[]⟩ : ByteArray), ((0 : Int), ([], ()))), (t1.1.2.2.1, ())), ())
  else
   (run_z61 (.start t1.1.1)) >>= fun t2 =>
   (uk2 (.start index2 (0 : Int) (IntKind.wrap .i64 (t2.1.1 - (1 : Int))))) >>= fun t3 =>
   if (!t3.1.1) = true then
    some ((((⟨#[]⟩ : ByteArray), ((0 : Int), ([], ()))), ((6 : Int), ())), ())
   else
    (uv4 (.start t1.1.1 index2)) >>= fun t4 =>
    some (((t4.1.1.1, (t4.1.1.2.1, (t4.1.1.2.2.1, ()))), ((0 : Int), ())), ())
def xk7 : List (Plc E wz0) := []
theorem wR0 : All (ub8 32 0 vL0 xK6) xk7 := trivial
def wh1 : Code := Tryz.f33.body.getD .skip
def wq7 : Spec E.S := (Con.add w14 (Con.add uS2 (Con.add vT7 (Con.add uN4 ub0))))
theorem v87 : ua9 E wq7 := (Con.add_ok wD5 (Con.add_ok uq5 (Con.add_ok vo4 (Con.add_ok ut1 ua7))))
theorem xy8 : ∀ pt r, vh2 pt = some r → Good E Tryz.f33 wh1 0 (ve5.av r) (ve5.bx r) (vL0 pt) (xK6 pt) := by
 intro pt r hr
 cases pt <;> exact ua8 (spec := wq7) (wr := (mkWr [] [])) (l := xk7) (z := 32) (p := ve5) (run' := fun _ => none) E_ok wR0.mem rfl v87 (fun _ _ h => by cases h) (Eq.trans (by kernel_rfl) hr)
def w15 : Con E := ⟨33, _, _, (.cons (Rw.sl 103) (.cons (Rw.agg (.cons (Rd.int .i64).w (.cons (Rd.int .i64).w (.cons Rd.str.w (.cons (Rw.sl 25) .nil))))) (.cons (Rd.int .i64).w .nil))), .nil, 0, xQ7, fun a b => vh2 (.start a.1 a.2.1.1 a.2.1.2.1 a.2.1.2.2.1 a.2.1.2.2.2.1 a.2.2.1), ve5.av, ve5.bx⟩
theorem wD6 : w15.Ok := fun a b r h => ub3 (fn := Tryz.f33) (code := wh1) E_ok (by kernel_rfl) (by kernel_rfl) (by kernel_rfl) (Nat.le_of_ble_eq_true rfl) (xy8 (.start a.1 a.2.1.1 a.2.1.2.1 a.2.1.2.2.1 a.2.1.2.2.2.1 a.2.2.1) r h)
inductive u55 where
 | start (s0 : Int) (x1_0 : ByteArray) (x1_1 : Int) (x1_2 : (List ua5))
def uz5 : u55 → List Bool
 | .start .. => []
def vs7 : u55 → St E.S
 | .start s0 x1_0 x1_1 x1_2 => st0 7 [.v (.int .i64 s0), .agg [.v (.string x1_0), .v (.int .i64 x1_1), .sl 37 x1_2 false]] []
abbrev vE1 : Type := ((Int × Unit) × Unit)
def ul4 : Res E (Int × Unit) Unit := { rows := [], flat := [], keep := 0, done := [0], rl := (.cons (Rd.int .i64) .nil), rb := .nil }
inductive uW6 where
 | start (v0_0 : ByteArray) (v0_1 : Int) (v0_2 : (List ua5))
 | p15 (e4 : Int) (C0 : ByteArray) (C1 : Int) (C2 : (List ua5))
def uu8 : uW6 → List Bool
 | .start .. => []
 | .p15 .. => [true, true, true]
def vj0 : uW6 → St E.S
 | .start v0_0 v0_1 v0_2 => st0 47 [.agg [.v (.string v0_0), .v (.int .i64 v0_1), .sl 37 v0_2 false]] []
 | .p15 e4 C0 C1 C2 => mkSt 47 [1, 4] [.bp 0 0, .v (.int .i64 e4)] [.var 37 [.v (.string C0), .v (.int .i64 C1), .sl 37 C2 false]]
abbrev vl8 : Type := ((Int × Unit) × Unit)
def uj3 : Res E (Int × Unit) Unit := { rows := [], flat := [], keep := 0, done := [0], rl := (.cons (Rd.int .i64) .nil), rb := .nil }
inductive uW7 where
 | start (l0 : (List ua5))
 | p52 (s9 : (List ua5)) (s10 : Int) (s11 : Int)
def uu9 : uW7 → List Bool
 | .start .. => []
 | .p52 .. => [false, false, true, false, true]
def vj1 : uW7 → St E.S
 | .start l0 => st0 25 [.sl 37 l0 false, .fn 135 []] []
 | .p52 s9 s10 s11 => mkSt 25 [1, 9, 10, 11] [.fn 135 [], .sl 37 s9 false, .v (.int .i64 s10), .v (.int .i64 s11)] []
abbrev vl9 : Type := ((Int × (Int × Unit)) × Unit)
def uj4 : Res E (Int × (Int × Unit)) Unit := { rows := [], flat := [], keep := 0, done := [0, 1], rl := (.cons (Rd.int .i64) (.cons (Rd.int .i64) .nil)), rb := .nil }
mutual
def uI5 : u55 → Option vE1
 | .start s0 x1_0 x1_1 x1_2 =>
  (run_z65 (.start x1_0 x1_1 x1_2)) >>= fun t1 =>
  some ((t1.1.1, ()), ())
 partial_fixpoint
def run_z65 : uW6 → Option vl8
 | .start v0_0 v0_1 v0_2 =>
  if (!(seq v0_0 (⟨#[]⟩ : ByteArray))) = true then
   (uc6 (.start true (3 : Int))) >>= fun t1 =>
   if (seq v0_0 (⟨#[]⟩ : ByteArray)) = true then
    (uc6 (.start true (3 : Int))) >>= fun t2 =>
    if (seq v0_0 (⟨#[]⟩ : ByteArray)) = true then
     (uc6 (.start true (4 : Int))) >>= fun t3 =>
     (uk2 (.start v0_1 (0 : Int) (99999 : Int))) >>= fun t4 =>
     (uc6 (.start t4.1.1 (2 : Int))) >>= fun t5 =>
     (ud1 (.start ([t1.1.1, t2.1.1, t3.1.1, t5.1.1] : List Int))) >>= fun t6 =>
     run_z65 (.p15 t6.1.1 v0_0 v0_1 v0_2)
    else
     (ug3 (.start v0_0)) >>= fun t7 =>
     (uc6 (.start t7.1.1 (4 : Int))) >>= fun t8 =>
     (uk2 (.start v0_1 (0 : Int) (99999 : Int))) >>= fun t9 =>
     (uc6 (.start t9.1.1 (2 : Int))) >>= fun t10 =>
     (ud1 (.start ([t1.1.1, t2.1.1, t8.1.1, t10.1.1] : List Int))) >>= fun t11 =>
     run_z65 (.p15 t11.1.1 v0_0 v0_1 v0_2)
   else
    (uc6 (.start (v0_1 == (0 : Int)) (3 : Int))) >>= fun t12 =>
    if (seq v0_0 (⟨#[]⟩ : ByteArray)) = true then
     (uc6 (.start true (4 : Int))) >>= fun t13 =>
     (uk2 (.start v0_1 (0 : Int) (99999 : Int))) >>= fun t14 =>
     (uc6 (.start t14.1.1 (2 : Int))) >>= fun t15 =>
     (ud1 (.start ([t1.1.1, t12.1.1, t13.1.1, t15.1.1] : List Int))) >>= fun t16 =>
     run_z65 (.p15 t16.1.1 v0_0 v0_1 v0_2)
    else
     (ug3 (.start v0_0)) >>= fun t17 =>
     (uc6 (.start t17.1.1 (4 : Int))) >>= fun t18 =>
     (uk2 (.start v0_1 (0 : Int) (99999 : Int))) >>= fun t19 =>
     (uc6 (.start t19.1.1 (2 : Int))) >>= fun t20 =>
     (ud1 (.start ([t1.1.1, t12.1.1, t18.1.1, t20.1.1] : List Int))) >>= fun t21 =>
     run_z65 (.p15 t21.1.1 v0_0 v0_1 v0_2)
  else
   (uc6 (.start ((List.length v0_2 : Int) == (0 : Int)) (3 : Int))) >>= fun t22 =>
   if (seq v0_0 (⟨#[]⟩ : ByteArray)) = true then
    (uc6 (.start true (3 : Int))) >>= fun t23 =>
    if (seq v0_0 (⟨#[]⟩ : ByteArray)) = true then
     (uc6 (.start true (4 : Int))) >>= fun t24 =>
     (uk2 (.start v0_1 (0 : Int) (99999 : Int))) >>= fun t25 =>
     (uc6 (.start t25.1.1 (2 : Int))) >>= fun t26 =>
     (ud1 (.start ([t22.1.1, t23.1.1, t24.1.1, t26.1.1] : List Int))) >>= fun t27 =>
     run_z65 (.p15 t27.1.1 v0_0 v0_1 v0_2)
    else
     (ug3 (.start v0_0)) >>= fun t28 =>
     (uc6 (.start t28.1.1 (4 : Int))) >>= fun t29 =>
     (uk2 (.start v0_1 (0 : Int) (99999 : Int))) >>= fun t30 =>
     (uc6 (.start t30.1.1 (2 : Int))) >>= fun t31 =>
     (ud1 (.start ([t22.1.1, t23.1.1, t29.1.1, t31.1.1] : List Int))) >>= fun t32 =>
     run_z65 (.p15 t32.1.1 v0_0 v0_1 v0_2)
   else
    (uc6 (.start (v0_1 == (0 : Int)) (3 : Int))) >>= fun t33 =>
    if (seq v0_0 (⟨#[]⟩ : ByteArray)) = true then
     (uc6 (.start true (4 : Int))) >>= fun t34 =>
     (uk2 (.start v0_1 (0 : Int) (99999 : Int))) >>= fun t35 =>
     (uc6 (.start t35.1.1 (2 : Int))) >>= fun t36 =>
     (ud1 (.start ([t22.1.1, t33.1.1, t34.1.1, t36.1.1] : List Int))) >>= fun t37 =>
     run_z65 (.p15 t37.1.1 v0_0 v0_1 v0_2)
    else
     (ug3 (.start v0_0)) >>= fun t38 =>
     (uc6 (.start t38.1.1 (4 : Int))) >>= fun t39 =>
     (uk2 (.start v0_1 (0 : Int) (99999 : Int))) >>= fun t40 =>
     (uc6 (.start t40.1.1 (2 : Int))) >>= fun t41 =>
     (ud1 (.start ([t22.1.1, t33.1.1, t39.1.1, t41.1.1] : List Int))) >>= fun t42 =>
     run_z65 (.p15 t42.1.1 v0_0 v0_1 v0_2)
 | .p15 e4 C0 C1 C2 =>
  if (e4 != (0 : Int)) = true then
   some ((e4, ()), ())
  else
   (run_z66 (.start C2)) >>= fun t1 =>
   some ((t1.1.2.1, ()), ())
 partial_fixpoint
def run_z66 : uW7 → Option vl9
 | .start l0 =>
  run_z66 (.p52 l0 (List.length l0 : Int) (0 : Int))
 | .p52 s9 s10 s11 =>
  if (decide (s11 < s10)) = true then
   (idx s9 s11) >>= fun t1 =>
   (uI5 (.start s11 t1.Name t1.Number t1.Parts)) >>= fun t2 =>
   if (t2.1.1 != (0 : Int)) = true then
    some ((s11, (t2.1.1, ())), ())
   else
    run_z66 (.p52 s9 s10 (IntKind.wrap .i64 (s11 + (1 : Int))))
  else
   some (((0 : Int), ((0 : Int), ())), ())
 partial_fixpoint
end
def xk8 : List (Plc E u55) := []
theorem wR1 : All (ub8 7 0 uz5 vs7) xk8 := trivial
def uA8 : Code := Tryz.f135.body.getD .skip
def w85 (run' : u55 → Option vE1) : Con E := ⟨135, (Int × ((ByteArray × (Int × ((List ua5) × Unit))) × Unit)), Unit, (RwL.cons (Rd.int .i64).w (RwL.cons (Rw.agg (RwL.cons Rd.str.w (RwL.cons (Rd.int .i64).w (RwL.cons (Rw.sl 37) RwL.nil)))) RwL.nil)), RdBL.nil, 0, vE1, fun a b => run' (.start a.1 a.2.1.1 a.2.1.2.1 a.2.1.2.2.1), ul4.av, ul4.bx⟩
theorem wI7 {run' : u55 → Option vE1} (ih : ∀ pt r, run' pt = some r → Good E Tryz.f135 uA8 0 (ul4.av r) (ul4.bx r) (uz5 pt) (vs7 pt)) : (w85 run').Ok := fun a b r h => ub3 (fn := Tryz.f135) (code := uA8) E_ok (by kernel_rfl) (by kernel_rfl) (by kernel_rfl) (Nat.le_of_ble_eq_true rfl) (ih (.start a.1 a.2.1.1 a.2.1.2.1 a.2.1.2.2.1) r h)
def xk9 : List (Plc E uW6) := [⟨15, [true, true, true], { slots := [1, 4], rows := [], flat := [], keep := 0 }, _, _, (.cons (Rd.bp 0 0) (.cons (Rd.int .i64) .nil)), (.cons (.var 37 (.cons Rd.str (.cons (Rd.int .i64) (.cons (Rd.sl 37 false) .nil)))) .nil), fun a b => .p15 a.2.1 b.1.1 b.1.2.1 b.1.2.2.1⟩]
theorem wR2 : All (ub8 47 0 uu8 vj0) xk9 := ⟨⟨rfl, rfl, fun _ _ => rfl, fun _ _ => rfl⟩, trivial⟩
def uw9 : Code := Tryz.f97.body.getD .skip
def vW7 (run' : uW6 → Option vl8) : Con E := ⟨97, ((ByteArray × (Int × ((List ua5) × Unit))) × Unit), Unit, (RwL.cons (Rw.agg (RwL.cons Rd.str.w (RwL.cons (Rd.int .i64).w (RwL.cons (Rw.sl 37) RwL.nil)))) RwL.nil), RdBL.nil, 0, vl8, fun a b => run' (.start a.1.1 a.1.2.1 a.1.2.2.1), uj3.av, uj3.bx⟩
theorem vr0 {run' : uW6 → Option vl8} (ih : ∀ pt r, run' pt = some r → Good E Tryz.f97 uw9 0 (uj3.av r) (uj3.bx r) (uu8 pt) (vj0 pt)) : (vW7 run').Ok := fun a b r h => ub3 (fn := Tryz.f97) (code := uw9) E_ok (by kernel_rfl) (by kernel_rfl) (by kernel_rfl) (Nat.le_of_ble_eq_true rfl) (ih (.start a.1.1 a.1.2.1 a.1.2.2.1) r h)
def xl0 : List (Plc E uW7) := [⟨52, [false, false, true, false, true], { slots := [1, 9, 10, 11], rows := [], flat := [], keep := 0 }, _, _, (.cons (Rd.fn 135 .nil) (.cons (Rd.sl 37 false) (.cons (Rd.int .i64) (.cons (Rd.int .i64) .nil)))), .nil, fun a b => .p52 a.2.1 a.2.2.1 a.2.2.2.1⟩]
theorem wR3 : All (ub8 25 0 uu9 vj1) xl0 := ⟨⟨rfl, rfl, fun _ _ => rfl, fun _ _ => rfl⟩, trivial⟩
def ux0 : Code := Tryz.f134.body.getD .skip
def vW8 (run' : uW7 → Option vl9) : Con E := ⟨134, ((List ua5) × (Unit × Unit)), Unit, (RwL.cons (Rw.sl 37) (RwL.cons (Rd.fn 135 RdL.nil).w RwL.nil)), RdBL.nil, 0, vl9, fun a b => run' (.start a.1), uj4.av, uj4.bx⟩
theorem vr1 {run' : uW7 → Option vl9} (ih : ∀ pt r, run' pt = some r → Good E Tryz.f134 ux0 0 (uj4.av r) (uj4.bx r) (uu9 pt) (vj1 pt)) : (vW8 run').Ok := fun a b r h => ub3 (fn := Tryz.f134) (code := ux0) E_ok (by kernel_rfl) (by kernel_rfl) (by kernel_rfl) (Nat.le_of_ble_eq_true rfl) (ih (.start a.1) r h)
def wq8 (r_z65 : uW6 → Option vl8) : Spec E.S := (Con.add (vW7 r_z65) ub0)
theorem v88 {r_z65 : uW6 → Option vl8} (h_z65 : ∀ pt r, r_z65 pt = some r → Good E Tryz.f97 uw9 0 (uj3.av r) (uj3.bx r) (uu8 pt) (vj0 pt)) : ua9 E (wq8 r_z65) := (Con.add_ok (vr0 h_z65) ua7)
def wq9 (r_z65 : uW6 → Option vl8) (r_z66 : uW7 → Option vl9) : Spec E.S := (Con.add (vW8 r_z66) (Con.add (vW7 r_z65) (Con.add w12 (Con.add uE9 (Con.add uS2 (Con.add uS3 ub0))))))
theorem v89 {r_z65 : uW6 → Option vl8} (h_z65 : ∀ pt r, r_z65 pt = some r → Good E Tryz.f97 uw9 0 (uj3.av r) (uj3.bx r) (uu8 pt) (vj0 pt)) {r_z66 : uW7 → Option vl9} (h_z66 : ∀ pt r, r_z66 pt = some r → Good E Tryz.f134 ux0 0 (uj4.av r) (uj4.bx r) (uu9 pt) (vj1 pt)) : ua9 E (wq9 r_z65 r_z66) := (Con.add_ok (vr1 h_z66) (Con.add_ok (vr0 h_z65) (Con.add_ok vG4 (Con.add_ok un9 (Con.add_ok uq5 (Con.add_ok uq6 ua7))))))
def wr0 (r_z64 : u55 → Option vE1) (r_z66 : uW7 → Option vl9) : Spec E.S := (Con.add (vW8 r_z66) (Con.add (w85 r_z64) ub0))
theorem v90 {r_z64 : u55 → Option vE1} (h_z64 : ∀ pt r, r_z64 pt = some r → Good E Tryz.f135 uA8 0 (ul4.av r) (ul4.bx r) (uz5 pt) (vs7 pt)) {r_z66 : uW7 → Option vl9} (h_z66 : ∀ pt r, r_z66 pt = some r → Good E Tryz.f134 ux0 0 (uj4.av r) (uj4.bx r) (uu9 pt) (vj1 pt)) : ua9 E (wr0 r_z64 r_z66) := (Con.add_ok (vr1 h_z66) (Con.add_ok (wI7 h_z64) ua7))
theorem u81 : (∀ pt r, uI5 pt = some r → Good E Tryz.f135 uA8 0 (ul4.av r) (ul4.bx r) (uz5 pt) (vs7 pt)) ∧ (∀ pt r, run_z65 pt = some r → Good E Tryz.f97 uw9 0 (uj3.av r) (uj3.bx r) (uu8 pt) (vj0 pt)) ∧ (∀ pt r, run_z66 pt = some r → Good E Tryz.f134 ux0 0 (uj4.av r) (uj4.bx r) (uu9 pt) (vj1 pt)) := by
  refine uI5.mutual_partial_correctness (fun pt r => Good E Tryz.f135 uA8 0 (ul4.av r) (ul4.bx r) (uz5 pt) (vs7 pt)) (fun pt r => Good E Tryz.f97 uw9 0 (uj3.av r) (uj3.bx r) (uu8 pt) (vj0 pt)) (fun pt r => Good E Tryz.f134 ux0 0 (uj4.av r) (uj4.bx r) (uu9 pt) (vj1 pt)) ?_ ?_ ?_
  · intro r_z65 h_z65 pt r hr
    cases pt <;> exact ua8 (spec := (wq8 r_z65)) (wr := (mkWr [] [])) (l := xk8) (z := 7) (p := ul4) (run' := fun _ => none) E_ok wR1.mem rfl (v88 h_z65) (fun _ _ h => by cases h) (Eq.trans (by kernel_rfl) hr)
  · intro r_z65 r_z66 h_z65 h_z66 pt r hr
    cases pt <;> exact ua8 (spec := (wq9 r_z65 r_z66)) (wr := (mkWr [] [])) (l := xk9) (z := 47) (p := uj3) E_ok wR2.mem rfl (v89 h_z65 h_z66) h_z65 (Eq.trans (by kernel_rfl) hr)
  · intro r_z64 r_z66 h_z64 h_z66 pt r hr
    cases pt <;> exact ua8 (spec := (wr0 r_z64 r_z66)) (wr := (mkWr [] [])) (l := xl0) (z := 25) (p := uj4) E_ok wR3.mem rfl (v90 h_z64 h_z66) h_z66 (Eq.trans (by kernel_rfl) hr)
theorem xy9 : ∀ pt r, uI5 pt = some r → Good E Tryz.f135 uA8 0 (ul4.av r) (ul4.bx r) (uz5 pt) (vs7 pt) := u81.1
theorem xz0 : ∀ pt r, run_z65 pt = some r → Good E Tryz.f97 uw9 0 (uj3.av r) (uj3.bx r) (uu8 pt) (vj0 pt) := u81.2.1
theorem xz1 : ∀ pt r, run_z66 pt = some r → Good E Tryz.f134 ux0 0 (uj4.av r) (uj4.bx r) (uu9 pt) (vj1 pt) := u81.2.2
def xS1 : Con E := ⟨135, _, _, (.cons (Rd.int .i64).w (.cons (Rw.agg (.cons Rd.str.w (.cons (Rd.int .i64).w (.cons (Rw.sl 37) .nil)))) .nil)), .nil, 0, vE1, fun a b => uI5 (.start a.1 a.2.1.1 a.2.1.2.1 a.2.1.2.2.1), ul4.av, ul4.bx⟩
theorem xZ0 : xS1.Ok := fun a b r h => ub3 (fn := Tryz.f135) (code := uA8) E_ok (by kernel_rfl) (by kernel_rfl) (by kernel_rfl) (Nat.le_of_ble_eq_true rfl) (xy9 (.start a.1 a.2.1.1 a.2.1.2.1 a.2.1.2.2.1) r h)
def w17 : Con E := ⟨97, _, _, (.cons (Rw.agg (.cons Rd.str.w (.cons (Rd.int .i64).w (.cons (Rw.sl 37) .nil)))) .nil), .nil, 0, vl8, fun a b => run_z65 (.start a.1.1 a.1.2.1 a.1.2.2.1), uj3.av, uj3.bx⟩
theorem wD7 : w17.Ok := fun a b r h => ub3 (fn := Tryz.f97) (code := uw9) E_ok (by kernel_rfl) (by kernel_rfl) (by kernel_rfl) (Nat.le_of_ble_eq_true rfl) (xz0 (.start a.1.1 a.1.2.1 a.1.2.2.1) r h)
def xS2 : Con E := ⟨134, _, _, (.cons (Rw.sl 37) (.cons (Rd.fn 135 .nil).w .nil)), .nil, 0, vl9, fun a b => run_z66 (.start a.1), uj4.av, uj4.bx⟩
theorem xZ1 : xS2.Ok := fun a b r h => ub3 (fn := Tryz.f134) (code := ux0) E_ok (by kernel_rfl) (by kernel_rfl) (by kernel_rfl) (Nat.le_of_ble_eq_true rfl) (xz1 (.start a.1) r h)
inductive vk7 where
 | start (v0_0 : ByteArray) (v0_1 : Int) (v0_2 : (List ua5))
 | p500 (s19 : (List ua5)) (s20 : Int) (s21 : Int) (C0 : ByteArray) (C1 : Int) (C2 : (List ua5)) (B1 : (List ByteArray))
def uG5 : vk7 → List Bool
 | .start .. => []
 | .p500 .. => [false, false, true, false, true, true, true, true]
def vP9 : vk7 → St E.S
 | .start v0_0 v0_1 v0_2 => st0 38 [.agg [.v (.string v0_0), .v (.int .i64 v0_1), .sl 37 v0_2 false]] []
 | .p500 s19 s20 s21 C0 C1 C2 B1 => mkSt 38 [1, 3, 19, 20, 21] [.bp 0 0, .rw 1, .sl 37 s19 false, .v (.int .i64 s20), .v (.int .i64 s21)] [.var 37 [.v (.string C0), .v (.int .i64 C1), .sl 37 C2 false], .row 9 B1 false]
abbrev vE2 : Type := ((ByteArray × Unit) × Unit)
def uo9 : Res E (ByteArray × Unit) Unit := { rows := [], flat := [], keep := 0, done := [0], rl := (.cons Rd.str .nil), rb := .nil }
def uD7 : vk7 → Option vE2
 | .start v0_0 v0_1 v0_2 =>
  if (seq v0_0 (⟨#[]⟩ : ByteArray)) = true then
   (u85 (v0_1, ()) ()) >>= fun t1 =>
   some ((t1.1.1, ()), ())
  else
   if ((List.length v0_2 : Int) == (0 : Int)) = true then
    some ((v0_0, ()), ())
   else
    uD7 (.p500 v0_2 (List.length v0_2 : Int) (0 : Int) v0_0 v0_1 v0_2 ([] : List ByteArray))
 | .p500 s19 s20 s21 C0 C1 C2 B1 =>
  if (decide (s21 < s20)) = true then
   (idx s19 s21) >>= fun t1 =>
   (uD7 (.start t1.Name t1.Number t1.Parts)) >>= fun t2 =>
   if (fits (List.length B1) (List.length ([t2.1.1] : List ByteArray)) 16) = true then
    uD7 (.p500 s19 s20 (IntKind.wrap .i64 (s21 + (1 : Int))) C0 C1 C2 (B1 ++ ([t2.1.1] : List ByteArray)))
   else none
  else
   if (Nat.ble (C0.size + (⟨#[40]⟩ : ByteArray).size) 9223372036854775807) = true then
    (uN9 (B1, (⟨#[44, 32]⟩ : ByteArray), ()) ()) >>= fun t3 =>
    if (Nat.ble ((C0 ++ (⟨#[40]⟩ : ByteArray)).size + t3.1.1.size) 9223372036854775807) = true then
     if (Nat.ble (((C0 ++ (⟨#[40]⟩ : ByteArray)) ++ t3.1.1).size + (⟨#[41]⟩ : ByteArray).size) 9223372036854775807) = true then
      some ((((C0 ++ (⟨#[40]⟩ : ByteArray)) ++ t3.1.1) ++ (⟨#[41]⟩ : ByteArray), ()), ())
     else none
    else none
   else none
 partial_fixpoint
def xl1 : List (Plc E vk7) := [⟨500, [false, false, true, false, true, true, true, true], { slots := [1, 3, 19, 20, 21], rows := [(3, 9)], flat := [], keep := 0 }, _, _, (.cons (Rd.bp 0 0) (.cons (Rd.rw 1) (.cons (Rd.sl 37 false) (.cons (Rd.int .i64) (.cons (Rd.int .i64) .nil))))), (.cons (.var 37 (.cons Rd.str (.cons (Rd.int .i64) (.cons (Rd.sl 37 false) .nil)))) (.cons (.row 9 false) .nil)), fun a b => .p500 a.2.2.1 a.2.2.2.1 a.2.2.2.2.1 b.1.1 b.1.2.1 b.1.2.2.1 b.2.1⟩]
theorem wR4 : All (ub8 38 0 uG5 vP9) xl1 := ⟨⟨rfl, rfl, fun _ _ => rfl, fun _ _ => rfl⟩, trivial⟩
def uJ5 : Code := Tryz.f98.body.getD .skip
def w86 (run' : vk7 → Option vE2) : Con E := ⟨98, ((ByteArray × (Int × ((List ua5) × Unit))) × Unit), Unit, (RwL.cons (Rw.agg (RwL.cons Rd.str.w (RwL.cons (Rd.int .i64).w (RwL.cons (Rw.sl 37) RwL.nil)))) RwL.nil), RdBL.nil, 0, vE2, fun a b => run' (.start a.1.1 a.1.2.1 a.1.2.2.1), uo9.av, uo9.bx⟩
theorem wI8 {run' : vk7 → Option vE2} (ih : ∀ pt r, run' pt = some r → Good E Tryz.f98 uJ5 0 (uo9.av r) (uo9.bx r) (uG5 pt) (vP9 pt)) : (w86 run').Ok := fun a b r h => ub3 (fn := Tryz.f98) (code := uJ5) E_ok (by kernel_rfl) (by kernel_rfl) (by kernel_rfl) (Nat.le_of_ble_eq_true rfl) (ih (.start a.1.1 a.1.2.1 a.1.2.2.1) r h)
def wr1 (run' : vk7 → Option vE2) : Spec E.S := (Con.add (w86 run') (Con.add ur3 (Con.add ur2 ub0)))
theorem v91 {run' : vk7 → Option vE2} (ih : ∀ pt r, run' pt = some r → Good E Tryz.f98 uJ5 0 (uo9.av r) (uo9.bx r) (uG5 pt) (vP9 pt)) : ua9 E (wr1 run') := (Con.add_ok (wI8 ih) (Con.add_ok ut9 (Con.add_ok ut8 ua7)))
theorem xz2 : ∀ pt r, uD7 pt = some r → Good E Tryz.f98 uJ5 0 (uo9.av r) (uo9.bx r) (uG5 pt) (vP9 pt) := by
 refine uD7.partial_correctness (fun pt r => Good E Tryz.f98 uJ5 0 (uo9.av r) (uo9.bx r) (uG5 pt) (vP9 pt)) ?_
 intro run' ih pt r hr
 cases pt <;> exact ua8 (spec := (wr1 run')) (wr := (mkWr [] [])) (l := xl1) (z := 38) (p := uo9) E_ok wR4.mem rfl (v91 ih) ih (Eq.trans (by kernel_rfl) hr)
def w18 : Con E := ⟨98, _, _, (.cons (Rw.agg (.cons Rd.str.w (.cons (Rd.int .i64).w (.cons (Rw.sl 37) .nil)))) .nil), .nil, 0, vE2, fun a b => uD7 (.start a.1.1 a.1.2.1 a.1.2.2.1), uo9.av, uo9.bx⟩
theorem wD8 : w18.Ok := fun a b r h => ub3 (fn := Tryz.f98) (code := uJ5) E_ok (by kernel_rfl) (by kernel_rfl) (by kernel_rfl) (Nat.le_of_ble_eq_true rfl) (xz2 (.start a.1.1 a.1.2.1 a.1.2.2.1) r h)
inductive wz1 where
 | start (v0_0 : ByteArray) (v0_1 : Int) (v0_2 : (List ua5))
def vL1 : wz1 → List Bool
 | .start .. => []
def xK7 : wz1 → St E.S
 | .start v0_0 v0_1 v0_2 => st0 18 [.agg [.v (.string v0_0), .v (.int .i64 v0_1), .sl 37 v0_2 false]] []
abbrev xQ8 : Type := ((ByteArray × (Int × Unit)) × Unit)
def ve6 : Res E (ByteArray × (Int × Unit)) Unit := { rows := [], flat := [], keep := 0, done := [0, 1], rl := (.cons Rd.str (.cons (Rd.int .i64) .nil)), rb := .nil }
def vh3 : wz1 → Option xQ8
 | .start v0_0 v0_1 v0_2 =>
  (u05 (.start v0_0 v0_1 v0_2)) >>= fun t1 =>
  if (t1.1.1 != (0 : Int)) = true then
   some (((⟨#[]⟩ : ByteArray), (t1.1.1, ())), ())
  else
   (run_z65 (.start v0_0 v0_1 v0_2)) >>= fun t2 =>
   if (t2.1.1 != (0 : Int)) = true then
    some (((⟨#[]⟩ : ByteArray), (t2.1.1, ())), ())
   else
    (uD7 (.start v0_0 v0_1 v0_2)) >>= fun t3 =>
    some ((t3.1.1, ((0 : Int), ())), ())
def xl2 : List (Plc E wz1) := []
theorem wR5 : All (ub8 18 0 vL1 xK7) xl2 := trivial
def wh2 : Code := Tryz.f54.body.getD .skip
def wr2 : Spec E.S := (Con.add w18 (Con.add w17 (Con.add vT5 ub0)))
theorem v92 : ua9 E wr2 := (Con.add_ok wD8 (Con.add_ok wD7 (Con.add_ok vo2 ua7)))
theorem xz3 : ∀ pt r, vh3 pt = some r → Good E Tryz.f54 wh2 0 (ve6.av r) (ve6.bx r) (vL1 pt) (xK7 pt) := by
 intro pt r hr
 cases pt <;> exact ua8 (spec := wr2) (wr := (mkWr [] [])) (l := xl2) (z := 18) (p := ve6) (run' := fun _ => none) E_ok wR5.mem rfl v92 (fun _ _ h => by cases h) (Eq.trans (by kernel_rfl) hr)
def w19 : Con E := ⟨54, _, _, (.cons (Rw.agg (.cons Rd.str.w (.cons (Rd.int .i64).w (.cons (Rw.sl 37) .nil)))) .nil), .nil, 0, xQ8, fun a b => vh3 (.start a.1.1 a.1.2.1 a.1.2.2.1), ve6.av, ve6.bx⟩
theorem wD9 : w19.Ok := fun a b r h => ub3 (fn := Tryz.f54) (code := wh2) E_ok (by kernel_rfl) (by kernel_rfl) (by kernel_rfl) (Nat.le_of_ble_eq_true rfl) (xz3 (.start a.1.1 a.1.2.1 a.1.2.2.1) r h)
inductive vk8 where
 | start (a0_0 : ByteArray) (a0_1 : Int) (a0_2 : (List ua5)) (b1_0 : ByteArray) (b1_1 : Int) (b1_2 : (List ua5))
 | p7 (C0 : ByteArray) (C1 : Int) (C2 : (List ua5)) (D0 : ByteArray) (D1 : Int) (D2 : (List ua5))
 | p116 (i5 : Int) (C0 : ByteArray) (C1 : Int) (C2 : (List ua5)) (D0 : ByteArray) (D1 : Int) (D2 : (List ua5))
def uG6 : vk8 → List Bool
 | .start .. => []
 | .p7 .. => [true, true]
 | .p116 .. => [false, false, true, false, true, true]
def vQ0 : vk8 → St E.S
 | .start a0_0 a0_1 a0_2 b1_0 b1_1 b1_2 => st0 46 [.agg [.v (.string a0_0), .v (.int .i64 a0_1), .sl 37 a0_2 false], .agg [.v (.string b1_0), .v (.int .i64 b1_1), .sl 37 b1_2 false]] []
 | .p7 C0 C1 C2 D0 D1 D2 => mkSt 46 [2, 3] [.bp 0 0, .bp 1 0] [.var 37 [.v (.string C0), .v (.int .i64 C1), .sl 37 C2 false], .var 37 [.v (.string D0), .v (.int .i64 D1), .sl 37 D2 false]]
 | .p116 i5 C0 C1 C2 D0 D1 D2 => mkSt 46 [2, 3, 5] [.bp 0 0, .bp 1 0, .v (.int .i64 i5)] [.var 37 [.v (.string C0), .v (.int .i64 C1), .sl 37 C2 false], .var 37 [.v (.string D0), .v (.int .i64 D1), .sl 37 D2 false]]
abbrev vE3 : Type := ((Bool × Unit) × Unit)
def up0 : Res E (Bool × Unit) Unit := { rows := [], flat := [], keep := 0, done := [0], rl := (.cons Rd.bool .nil), rb := .nil }
def uy4 : vk8 → Option vE3
 | .start a0_0 a0_1 a0_2 b1_0 b1_1 b1_2 =>
  if (!(seq a0_0 b1_0)) = true then
   some ((false, ()), ())
  else
   if (a0_1 != b1_1) = true then
    some ((false, ()), ())
   else
    if ((List.length a0_2 : Int) != (List.length b1_2 : Int)) = true then
     some ((false, ()), ())
    else
     uy4 (.p7 a0_0 a0_1 a0_2 b1_0 b1_1 b1_2)
 | .p7 C0 C1 C2 D0 D1 D2 =>
  uy4 (.p116 (0 : Int) C0 C1 C2 D0 D1 D2)
 | .p116 i5 C0 C1 C2 D0 D1 D2 =>
  if (decide (i5 < (List.length C2 : Int))) = true then
   (idx C2 i5) >>= fun t1 =>
   (idx D2 i5) >>= fun t2 =>
   (uy4 (.start t1.Name t1.Number t1.Parts t2.Name t2.Number t2.Parts)) >>= fun t3 =>
   if (!t3.1.1) = true then
    some ((false, ()), ())
   else
    uy4 (.p116 (IntKind.wrap .i64 (i5 + (1 : Int))) C0 C1 C2 D0 D1 D2)
  else
   some ((true, ()), ())
 partial_fixpoint
def xl3 : List (Plc E vk8) := [⟨7, [true, true], { slots := [2, 3], rows := [], flat := [], keep := 0 }, _, _, (.cons (Rd.bp 0 0) (.cons (Rd.bp 1 0) .nil)), (.cons (.var 37 (.cons Rd.str (.cons (Rd.int .i64) (.cons (Rd.sl 37 false) .nil)))) (.cons (.var 37 (.cons Rd.str (.cons (Rd.int .i64) (.cons (Rd.sl 37 false) .nil)))) .nil)), fun a b => .p7 b.1.1 b.1.2.1 b.1.2.2.1 b.2.1.1 b.2.1.2.1 b.2.1.2.2.1⟩,
 ⟨116, [false, false, true, false, true, true], { slots := [2, 3, 5], rows := [], flat := [], keep := 0 }, _, _, (.cons (Rd.bp 0 0) (.cons (Rd.bp 1 0) (.cons (Rd.int .i64) .nil))), (.cons (.var 37 (.cons Rd.str (.cons (Rd.int .i64) (.cons (Rd.sl 37 false) .nil)))) (.cons (.var 37 (.cons Rd.str (.cons (Rd.int .i64) (.cons (Rd.sl 37 false) .nil)))) .nil)), fun a b => .p116 a.2.2.1 b.1.1 b.1.2.1 b.1.2.2.1 b.2.1.1 b.2.1.2.1 b.2.1.2.2.1⟩]
theorem wR6 : All (ub8 46 0 uG6 vQ0) xl3 := ⟨⟨rfl, rfl, fun _ _ => rfl, fun _ _ => rfl⟩, ⟨⟨rfl, rfl, fun _ _ => rfl, fun _ _ => rfl⟩, trivial⟩⟩
def uJ6 : Code := Tryz.f34.body.getD .skip
def w87 (run' : vk8 → Option vE3) : Con E := ⟨34, ((ByteArray × (Int × ((List ua5) × Unit))) × ((ByteArray × (Int × ((List ua5) × Unit))) × Unit)), Unit, (RwL.cons (Rw.agg (RwL.cons Rd.str.w (RwL.cons (Rd.int .i64).w (RwL.cons (Rw.sl 37) RwL.nil)))) (RwL.cons (Rw.agg (RwL.cons Rd.str.w (RwL.cons (Rd.int .i64).w (RwL.cons (Rw.sl 37) RwL.nil)))) RwL.nil)), RdBL.nil, 0, vE3, fun a b => run' (.start a.1.1 a.1.2.1 a.1.2.2.1 a.2.1.1 a.2.1.2.1 a.2.1.2.2.1), up0.av, up0.bx⟩
theorem wI9 {run' : vk8 → Option vE3} (ih : ∀ pt r, run' pt = some r → Good E Tryz.f34 uJ6 0 (up0.av r) (up0.bx r) (uG6 pt) (vQ0 pt)) : (w87 run').Ok := fun a b r h => ub3 (fn := Tryz.f34) (code := uJ6) E_ok (by kernel_rfl) (by kernel_rfl) (by kernel_rfl) (Nat.le_of_ble_eq_true rfl) (ih (.start a.1.1 a.1.2.1 a.1.2.2.1 a.2.1.1 a.2.1.2.1 a.2.1.2.2.1) r h)
def wr3 (run' : vk8 → Option vE3) : Spec E.S := (Con.add (w87 run') ub0)
theorem v93 {run' : vk8 → Option vE3} (ih : ∀ pt r, run' pt = some r → Good E Tryz.f34 uJ6 0 (up0.av r) (up0.bx r) (uG6 pt) (vQ0 pt)) : ua9 E (wr3 run') := (Con.add_ok (wI9 ih) ua7)
theorem xz4 : ∀ pt r, uy4 pt = some r → Good E Tryz.f34 uJ6 0 (up0.av r) (up0.bx r) (uG6 pt) (vQ0 pt) := by
 refine uy4.partial_correctness (fun pt r => Good E Tryz.f34 uJ6 0 (up0.av r) (up0.bx r) (uG6 pt) (vQ0 pt)) ?_
 intro run' ih pt r hr
 cases pt <;> exact ua8 (spec := (wr3 run')) (wr := (mkWr [] [])) (l := xl3) (z := 46) (p := up0) E_ok wR6.mem rfl (v93 ih) ih (Eq.trans (by kernel_rfl) hr)
def w20 : Con E := ⟨34, _, _, (.cons (Rw.agg (.cons Rd.str.w (.cons (Rd.int .i64).w (.cons (Rw.sl 37) .nil)))) (.cons (Rw.agg (.cons Rd.str.w (.cons (Rd.int .i64).w (.cons (Rw.sl 37) .nil)))) .nil)), .nil, 0, vE3, fun a b => uy4 (.start a.1.1 a.1.2.1 a.1.2.2.1 a.2.1.1 a.2.1.2.1 a.2.1.2.2.1), up0.av, up0.bx⟩
theorem wE0 : w20.Ok := fun a b r h => ub3 (fn := Tryz.f34) (code := uJ6) E_ok (by kernel_rfl) (by kernel_rfl) (by kernel_rfl) (Nat.le_of_ble_eq_true rfl) (xz4 (.start a.1.1 a.1.2.1 a.1.2.2.1 a.2.1.1 a.2.1.2.1 a.2.1.2.2.1) r h)
inductive wz2 where
 | start
def vL2 : wz2 → List Bool
 | .start => []
def xK8 : wz2 → St E.S
 | .start => st0 95 [] []
abbrev xQ9 : Type := ((Bool × Unit) × Unit)
def ve7 : Res E (Bool × Unit) Unit := { rows := [], flat := [], keep := 0, done := [0], rl := (.cons Rd.bool .nil), rb := .nil }
def u07 : wz2 → Option xQ9
 | .start =>
  (u22 .start) >>= fun t1 =>
  (vg8 (.start (3 : Int))) >>= fun t2 =>
  (uE3 (.start (⟨#[77, 97, 121, 98, 101]⟩ : ByteArray) ([(⟨t2.1.1.1, t2.1.1.2.1, t2.1.1.2.2.1, t2.1.1.2.2.2.1⟩ : ua0)] : List ua0))) >>= fun t3 =>
  (uI1 (.start t1.1.1 t3.1.1.1 t3.1.1.2.1 t3.1.1.2.2.1 t3.1.1.2.2.2.1)) >>= fun t4 =>
  (u22 .start) >>= fun t5 =>
  (vg8 (.start (2 : Int))) >>= fun t6 =>
  (uE3 (.start (⟨#[67, 111, 108, 111, 114]⟩ : ByteArray) ([]))) >>= fun t7 =>
  (uE3 (.start (⟨#[80, 97, 105, 114]⟩ : ByteArray) ([(⟨t6.1.1.1, t6.1.1.2.1, t6.1.1.2.2.1, t6.1.1.2.2.2.1⟩ : ua0), (⟨t7.1.1.1, t7.1.1.2.1, t7.1.1.2.2.1, t7.1.1.2.2.2.1⟩ : ua0)] : List ua0))) >>= fun t8 =>
  (uv3 (.start (⟨#[66, 108, 117, 101]⟩ : ByteArray) ([]))) >>= fun t9 =>
  (uv3 (.start (⟨#[80, 97, 105, 114]⟩ : ByteArray) ([(⟨(⟨#[]⟩ : ByteArray), (3 : Int), []⟩ : ua5), (⟨t9.1.1.1, t9.1.1.2.1, t9.1.1.2.2.1⟩ : ua5)] : List ua5))) >>= fun t10 =>
  (vh0 (.start t5.1.1 t8.1.1.1 t8.1.1.2.1 t8.1.1.2.2.1 t8.1.1.2.2.2.1 t10.1.1.1 t10.1.1.2.1 t10.1.1.2.2.1)) >>= fun t11 =>
  (u22 .start) >>= fun t12 =>
  (vg8 (.start (3 : Int))) >>= fun t13 =>
  (uE3 (.start (⟨#[77, 97, 121, 98, 101]⟩ : ByteArray) ([(⟨t13.1.1.1, t13.1.1.2.1, t13.1.1.2.2.1, t13.1.1.2.2.2.1⟩ : ua0)] : List ua0))) >>= fun t14 =>
  (vh1 (.start t12.1.1 t14.1.1.1 t14.1.1.2.1 t14.1.1.2.2.1 t14.1.1.2.2.2.1 (5 : Int))) >>= fun t15 =>
  (u22 .start) >>= fun t16 =>
  (uE3 (.start (⟨#[67, 111, 108, 111, 114]⟩ : ByteArray) ([]))) >>= fun t17 =>
  (uE3 (.start (⟨#[66, 111, 111, 108]⟩ : ByteArray) ([]))) >>= fun t18 =>
  (uE3 (.start (⟨#[80, 97, 105, 114]⟩ : ByteArray) ([(⟨t17.1.1.1, t17.1.1.2.1, t17.1.1.2.2.1, t17.1.1.2.2.2.1⟩ : ua0), (⟨t18.1.1.1, t18.1.1.2.1, t18.1.1.2.2.1, t18.1.1.2.2.2.1⟩ : ua0)] : List ua0))) >>= fun t19 =>
  (vh2 (.start t16.1.1 t19.1.1.1 t19.1.1.2.1 t19.1.1.2.2.1 t19.1.1.2.2.2.1 (3 : Int))) >>= fun t20 =>
  (uv3 (.start (⟨#[66, 108, 117, 101]⟩ : ByteArray) ([]))) >>= fun t21 =>
  (uv3 (.start (⟨#[80, 97, 105, 114]⟩ : ByteArray) ([(⟨(⟨#[]⟩ : ByteArray), (3 : Int), []⟩ : ua5), (⟨t21.1.1.1, t21.1.1.2.1, t21.1.1.2.2.1⟩ : ua5)] : List ua5))) >>= fun t22 =>
  (vh3 (.start t22.1.1.1 t22.1.1.2.1 t22.1.1.2.2.1)) >>= fun t23 =>
  if (t4.1.2.1 == (0 : Int)) = true then
   if (t4.1.1 == (4 : Int)) = true then
    if (t11.1.2.1 == (0 : Int)) = true then
     if (t11.1.1 == (14 : Int)) = true then
      if (t15.1.2.1 == (3 : Int)) = true then
       if (t20.1.2.1 == (0 : Int)) = true then
        (uv3 (.start (⟨#[71, 114, 101, 101, 110]⟩ : ByteArray) ([]))) >>= fun t24 =>
        (uv3 (.start (⟨#[84, 114, 117, 101]⟩ : ByteArray) ([]))) >>= fun t25 =>
        (uv3 (.start (⟨#[80, 97, 105, 114]⟩ : ByteArray) ([(⟨t24.1.1.1, t24.1.1.2.1, t24.1.1.2.2.1⟩ : ua5), (⟨t25.1.1.1, t25.1.1.2.1, t25.1.1.2.2.1⟩ : ua5)] : List ua5))) >>= fun t26 =>
        (uy4 (.start t20.1.1.1 t20.1.1.2.1 t20.1.1.2.2.1 t26.1.1.1 t26.1.1.2.1 t26.1.1.2.2.1)) >>= fun t27 =>
        if t27.1.1 = true then
         if (t23.1.2.1 == (0 : Int)) = true then
          some ((seq t23.1.1 (⟨#[80, 97, 105, 114, 40, 51, 44, 32, 66, 108, 117, 101, 41]⟩ : ByteArray), ()), ())
         else
          some ((false, ()), ())
        else
         some ((false, ()), ())
       else
        some ((false, ()), ())
      else
       some ((false, ()), ())
     else
      some ((false, ()), ())
    else
     some ((false, ()), ())
   else
    some ((false, ()), ())
  else
   some ((false, ()), ())
def xl5 : List (Plc E wz2) := []
theorem wR7 : All (ub8 95 0 vL2 xK8) xl5 := trivial
def wh3 : Code := Tryz.f10.body.getD .skip
def wr4 : Spec E.S := (Con.add w20 (Con.add w19 (Con.add w15 (Con.add w11 (Con.add w09 (Con.add w01 (Con.add vT4 (Con.add wY5 (Con.add xG9 (Con.add xG7 ub0))))))))))
theorem v94 : ua9 E wr4 := (Con.add_ok wE0 (Con.add_ok wD9 (Con.add_ok wD6 (Con.add_ok wD3 (Con.add_ok wD1 (Con.add_ok wC3 (Con.add_ok vo1 (Con.add_ok vG2 (Con.add_ok wZ9 (Con.add_ok wX7 ua7))))))))))
theorem xz5 : ∀ pt r, u07 pt = some r → Good E Tryz.f10 wh3 0 (ve7.av r) (ve7.bx r) (vL2 pt) (xK8 pt) := by
 intro pt r hr
 cases pt <;> exact ua8 (spec := wr4) (wr := (mkWr [] [])) (l := xl5) (z := 95) (p := ve7) (run' := fun _ => none) E_ok wR7.mem rfl v94 (fun _ _ h => by cases h) (Eq.trans (by kernel_rfl) hr)
def w21 : Con E := ⟨10, _, _, .nil, .nil, 0, xQ9, fun a b => u07 (.start), ve7.av, ve7.bx⟩
theorem wE1 : w21.Ok := fun a b r h => ub3 (fn := Tryz.f10) (code := wh3) E_ok (by kernel_rfl) (by kernel_rfl) (by kernel_rfl) (Nat.le_of_ble_eq_true rfl) (xz5 (.start) r h)
inductive vC4 where
 | start (t0_0 : Int) (t0_1 : Int) (t0_2 : ByteArray) (t0_3 : (List ua0)) (depth1 : Int) (count2 : Int)
 | p15 (depth1 : Int) (count2 : Int) (C0 : Int) (C1 : Int) (C2 : ByteArray) (C3 : (List ua0))
 | p244 (depth1 : Int) (count2 : Int) (i7 : Int) (C0 : Int) (C1 : Int) (C2 : ByteArray) (C3 : (List ua0))
 | p489 (depth1 : Int) (count2 : Int) (i7 : Int) (C0 : Int) (C1 : Int) (C2 : ByteArray) (C3 : (List ua0))
def uG7 : vC4 → List Bool
 | .start .. => []
 | .p15 .. => [true, true, true]
 | .p244 .. => [false, false, true, false, true, true, true]
 | .p489 .. => [true, false, false, true, false, true, true, true]
def vQ1 : vC4 → St E.S
 | .start t0_0 t0_1 t0_2 t0_3 depth1 count2 => st0 43 [.agg [.v (.int .i64 t0_0), .v (.int .i64 t0_1), .v (.string t0_2), .sl 25 t0_3 false], .v (.int .i64 depth1), .v (.int .i64 count2)] []
 | .p15 depth1 count2 C0 C1 C2 C3 => mkSt 43 [1, 2, 3] [.v (.int .i64 depth1), .v (.int .i64 count2), .bp 0 0] [.var 25 [.v (.int .i64 C0), .v (.int .i64 C1), .v (.string C2), .sl 25 C3 false]]
 | .p244 depth1 count2 i7 C0 C1 C2 C3 => mkSt 43 [1, 2, 3, 7] [.v (.int .i64 depth1), .v (.int .i64 count2), .bp 0 0, .v (.int .i64 i7)] [.var 25 [.v (.int .i64 C0), .v (.int .i64 C1), .v (.string C2), .sl 25 C3 false]]
 | .p489 depth1 count2 i7 C0 C1 C2 C3 => mkSt 43 [1, 2, 3, 7] [.v (.int .i64 depth1), .v (.int .i64 count2), .bp 0 0, .v (.int .i64 i7)] [.var 25 [.v (.int .i64 C0), .v (.int .i64 C1), .v (.string C2), .sl 25 C3 false]]
abbrev vR0 : Type := ((Int × Unit) × Unit)
def up1 : Res E (Int × Unit) Unit := { rows := [], flat := [], keep := 0, done := [0], rl := (.cons (Rd.int .i64) .nil), rb := .nil }
def ui0 : vC4 → Option vR0
 | .start t0_0 t0_1 t0_2 t0_3 depth1 count2 =>
  if (decide (depth1 > (40 : Int))) = true then
   some (((201 : Int), ()), ())
  else
   if (decide ((IntKind.wrap .i64 (count2 + (1 : Int))) > (200 : Int))) = true then
    some (((201 : Int), ()), ())
   else
    if (decide ((List.length t0_3 : Int) > (200 : Int))) = true then
     some (((201 : Int), ()), ())
    else
     ui0 (.p15 depth1 (IntKind.wrap .i64 (count2 + (1 : Int))) t0_0 t0_1 t0_2 t0_3)
 | .p15 depth1 count2 C0 C1 C2 C3 =>
  ui0 (.p244 depth1 count2 (0 : Int) C0 C1 C2 C3)
 | .p244 depth1 count2 i7 C0 C1 C2 C3 =>
  if (decide (i7 < (List.length C3 : Int))) = true then
   if (decide (count2 ≤ (200 : Int))) = true then
    ui0 (.p489 depth1 count2 i7 C0 C1 C2 C3)
   else
    some ((count2, ()), ())
  else
   some ((count2, ()), ())
 | .p489 depth1 count2 i7 C0 C1 C2 C3 =>
  (idx C3 i7) >>= fun t1 =>
  (ui0 (.start t1.Kind t1.Value t1.Name t1.Parts (IntKind.wrap .i64 (depth1 + (1 : Int))) count2)) >>= fun t2 =>
  ui0 (.p244 depth1 t2.1.1 (IntKind.wrap .i64 (i7 + (1 : Int))) C0 C1 C2 C3)
 partial_fixpoint
def xl6 : List (Plc E vC4) := [⟨15, [true, true, true], { slots := [1, 2, 3], rows := [], flat := [], keep := 0 }, _, _, (.cons (Rd.int .i64) (.cons (Rd.int .i64) (.cons (Rd.bp 0 0) .nil))), (.cons (.var 25 (.cons (Rd.int .i64) (.cons (Rd.int .i64) (.cons Rd.str (.cons (Rd.sl 25 false) .nil))))) .nil), fun a b => .p15 a.1 a.2.1 b.1.1 b.1.2.1 b.1.2.2.1 b.1.2.2.2.1⟩,
 ⟨244, [false, false, true, false, true, true, true], { slots := [1, 2, 3, 7], rows := [], flat := [], keep := 0 }, _, _, (.cons (Rd.int .i64) (.cons (Rd.int .i64) (.cons (Rd.bp 0 0) (.cons (Rd.int .i64) .nil)))), (.cons (.var 25 (.cons (Rd.int .i64) (.cons (Rd.int .i64) (.cons Rd.str (.cons (Rd.sl 25 false) .nil))))) .nil), fun a b => .p244 a.1 a.2.1 a.2.2.2.1 b.1.1 b.1.2.1 b.1.2.2.1 b.1.2.2.2.1⟩,
 ⟨489, [true, false, false, true, false, true, true, true], { slots := [1, 2, 3, 7], rows := [], flat := [], keep := 0 }, _, _, (.cons (Rd.int .i64) (.cons (Rd.int .i64) (.cons (Rd.bp 0 0) (.cons (Rd.int .i64) .nil)))), (.cons (.var 25 (.cons (Rd.int .i64) (.cons (Rd.int .i64) (.cons Rd.str (.cons (Rd.sl 25 false) .nil))))) .nil), fun a b => .p489 a.1 a.2.1 a.2.2.2.1 b.1.1 b.1.2.1 b.1.2.2.1 b.1.2.2.2.1⟩]
theorem wR8 : All (ub8 43 0 uG7 vQ1) xl6 := ⟨⟨rfl, rfl, fun _ _ => rfl, fun _ _ => rfl⟩, ⟨⟨rfl, rfl, fun _ _ => rfl, fun _ _ => rfl⟩, ⟨⟨rfl, rfl, fun _ _ => rfl, fun _ _ => rfl⟩, trivial⟩⟩⟩
def uJ7 : Code := Tryz.f102.body.getD .skip
def w88 (run' : vC4 → Option vR0) : Con E := ⟨102, ((Int × (Int × (ByteArray × ((List ua0) × Unit)))) × (Int × (Int × Unit))), Unit, (RwL.cons (Rw.agg (RwL.cons (Rd.int .i64).w (RwL.cons (Rd.int .i64).w (RwL.cons Rd.str.w (RwL.cons (Rw.sl 25) RwL.nil))))) (RwL.cons (Rd.int .i64).w (RwL.cons (Rd.int .i64).w RwL.nil))), RdBL.nil, 0, vR0, fun a b => run' (.start a.1.1 a.1.2.1 a.1.2.2.1 a.1.2.2.2.1 a.2.1 a.2.2.1), up1.av, up1.bx⟩
theorem wJ0 {run' : vC4 → Option vR0} (ih : ∀ pt r, run' pt = some r → Good E Tryz.f102 uJ7 0 (up1.av r) (up1.bx r) (uG7 pt) (vQ1 pt)) : (w88 run').Ok := fun a b r h => ub3 (fn := Tryz.f102) (code := uJ7) E_ok (by kernel_rfl) (by kernel_rfl) (by kernel_rfl) (Nat.le_of_ble_eq_true rfl) (ih (.start a.1.1 a.1.2.1 a.1.2.2.1 a.1.2.2.2.1 a.2.1 a.2.2.1) r h)
def wr5 (run' : vC4 → Option vR0) : Spec E.S := (Con.add (w88 run') ub0)
theorem v95 {run' : vC4 → Option vR0} (ih : ∀ pt r, run' pt = some r → Good E Tryz.f102 uJ7 0 (up1.av r) (up1.bx r) (uG7 pt) (vQ1 pt)) : ua9 E (wr5 run') := (Con.add_ok (wJ0 ih) ua7)
theorem xz6 : ∀ pt r, ui0 pt = some r → Good E Tryz.f102 uJ7 0 (up1.av r) (up1.bx r) (uG7 pt) (vQ1 pt) := by
 refine ui0.partial_correctness (fun pt r => Good E Tryz.f102 uJ7 0 (up1.av r) (up1.bx r) (uG7 pt) (vQ1 pt)) ?_
 intro run' ih pt r hr
 cases pt <;> exact ua8 (spec := (wr5 run')) (wr := (mkWr [] [])) (l := xl6) (z := 43) (p := up1) E_ok wR8.mem rfl (v95 ih) ih (Eq.trans (by kernel_rfl) hr)
def w22 : Con E := ⟨102, _, _, (.cons (Rw.agg (.cons (Rd.int .i64).w (.cons (Rd.int .i64).w (.cons Rd.str.w (.cons (Rw.sl 25) .nil))))) (.cons (Rd.int .i64).w (.cons (Rd.int .i64).w .nil))), .nil, 0, vR0, fun a b => ui0 (.start a.1.1 a.1.2.1 a.1.2.2.1 a.1.2.2.2.1 a.2.1 a.2.2.1), up1.av, up1.bx⟩
theorem wE2 : w22.Ok := fun a b r h => ub3 (fn := Tryz.f102) (code := uJ7) E_ok (by kernel_rfl) (by kernel_rfl) (by kernel_rfl) (Nat.le_of_ble_eq_true rfl) (xz6 (.start a.1.1 a.1.2.1 a.1.2.2.1 a.1.2.2.2.1 a.2.1 a.2.2.1) r h)
inductive xp5 where
 | start (t0_0 : Int) (t0_1 : Int) (t0_2 : ByteArray) (t0_3 : (List ua0))
def vL3 : xp5 → List Bool
 | .start .. => []
def xK9 : xp5 → St E.S
 | .start t0_0 t0_1 t0_2 t0_3 => st0 6 [.agg [.v (.int .i64 t0_0), .v (.int .i64 t0_1), .v (.string t0_2), .sl 25 t0_3 false]] []
abbrev xZ8 : Type := ((Bool × Unit) × Unit)
def ve8 : Res E (Bool × Unit) Unit := { rows := [], flat := [], keep := 0, done := [0], rl := (.cons Rd.bool .nil), rb := .nil }
def uR1 : xp5 → Option xZ8
 | .start t0_0 t0_1 t0_2 t0_3 =>
  (ui0 (.start t0_0 t0_1 t0_2 t0_3 (1 : Int) (0 : Int))) >>= fun t1 =>
  some ((decide (t1.1.1 ≤ (200 : Int)), ()), ())
def xl7 : List (Plc E xp5) := []
theorem wR9 : All (ub8 6 0 vL3 xK9) xl7 := trivial
def wh4 : Code := Tryz.f61.body.getD .skip
def wr6 : Spec E.S := (Con.add w22 ub0)
theorem v96 : ua9 E wr6 := (Con.add_ok wE2 ua7)
theorem xz7 : ∀ pt r, uR1 pt = some r → Good E Tryz.f61 wh4 0 (ve8.av r) (ve8.bx r) (vL3 pt) (xK9 pt) := by
 intro pt r hr
 cases pt <;> exact ua8 (spec := wr6) (wr := (mkWr [] [])) (l := xl7) (z := 6) (p := ve8) (run' := fun _ => none) E_ok wR9.mem rfl v96 (fun _ _ h => by cases h) (Eq.trans (by kernel_rfl) hr)
def vw8 : Con E := ⟨61, _, _, (.cons (Rw.agg (.cons (Rd.int .i64).w (.cons (Rd.int .i64).w (.cons Rd.str.w (.cons (Rw.sl 25) .nil))))) .nil), .nil, 0, xZ8, fun a b => uR1 (.start a.1.1 a.1.2.1 a.1.2.2.1 a.1.2.2.2.1), ve8.av, ve8.bx⟩
theorem uX3 : vw8.Ok := fun a b r h => ub3 (fn := Tryz.f61) (code := wh4) E_ok (by kernel_rfl) (by kernel_rfl) (by kernel_rfl) (Nat.le_of_ble_eq_true rfl) (xz7 (.start a.1.1 a.1.2.1 a.1.2.2.1 a.1.2.2.2.1) r h)
inductive xp6 where
 | start (l0 : (List ua2))
 | p116 (l0 : (List ua2)) (i3 : Int)
 | p1865 (l0 : (List ua2)) (i3 : Int)
 | p14924 (l0 : (List ua2)) (i3 : Int) (k4 : Int)
 | p3820700 (l0 : (List ua2)) (i3 : Int) (k4 : Int) (fields5 : (List ua6)) (j6 : Int)
def va9 : xp6 → List Bool
 | .start .. => []
 | .p116 .. => [false, false, true, false, true, true]
 | .p1865 .. => [true, false, false, true, false, false, true, false, true, true]
 | .p14924 .. => [false, false, true, true, false, false, true, false, false, true, false, true, true]
 | .p3820700 .. => [false, false, true, true, true, false, false, true, false, false, true, true, false, false, true, false, false, true, false, true, true]
def xd5 : xp6 → St E.S
 | .start l0 => st0 67 [.sl 103 l0 false] []
 | .p116 l0 i3 => mkSt 67 [0, 3] [.sl 103 l0 false, .v (.int .i64 i3)] []
 | .p1865 l0 i3 => mkSt 67 [0, 3] [.sl 103 l0 false, .v (.int .i64 i3)] []
 | .p14924 l0 i3 k4 => mkSt 67 [0, 3, 4] [.sl 103 l0 false, .v (.int .i64 i3), .v (.int .i64 k4)] []
 | .p3820700 l0 i3 k4 fields5 j6 => mkSt 67 [0, 3, 4, 5, 6] [.sl 103 l0 false, .v (.int .i64 i3), .v (.int .i64 k4), .sl 58 fields5 false, .v (.int .i64 j6)] []
abbrev xZ9 : Type := ((Bool × Unit) × Unit)
def uP8 : Res E (Bool × Unit) Unit := { rows := [], flat := [], keep := 0, done := [0], rl := (.cons Rd.bool .nil), rb := .nil }
def ue4 : xp6 → Option xZ9
 | .start l0 =>
  if (decide ((List.length l0 : Int) > (24 : Int))) = true then
   some ((false, ()), ())
  else
   ue4 (.p116 l0 (0 : Int))
 | .p116 l0 i3 =>
  if (decide (i3 < (List.length l0 : Int))) = true then
   (idx l0 i3) >>= fun t1 =>
   if (decide ((List.length t1.Constructors : Int) > (20 : Int))) = true then
    some ((false, ()), ())
   else
    (idx l0 i3) >>= fun t2 =>
    if (decide ((List.length t2.Params : Int) > (12 : Int))) = true then
     some ((false, ()), ())
    else
     ue4 (.p1865 l0 i3)
  else
   some ((true, ()), ())
 | .p1865 l0 i3 =>
  ue4 (.p14924 l0 i3 (0 : Int))
 | .p14924 l0 i3 k4 =>
  (idx l0 i3) >>= fun t1 =>
  if (decide (k4 < (List.length t1.Constructors : Int))) = true then
   (idx l0 i3) >>= fun t2 =>
   (idx t2.Constructors k4) >>= fun t3 =>
   if (decide ((List.length t3.Fields : Int) > (12 : Int))) = true then
    some ((false, ()), ())
   else
    ue4 (.p3820700 l0 i3 k4 t3.Fields (0 : Int))
  else
   ue4 (.p116 l0 (IntKind.wrap .i64 (i3 + (1 : Int))))
 | .p3820700 l0 i3 k4 fields5 j6 =>
  if (decide (j6 < (List.length fields5 : Int))) = true then
   (idx fields5 j6) >>= fun t1 =>
   (uR1 (.start t1.Type_.Kind t1.Type_.Value t1.Type_.Name t1.Type_.Parts)) >>= fun t2 =>
   if (!t2.1.1) = true then
    some ((false, ()), ())
   else
    ue4 (.p3820700 l0 i3 k4 fields5 (IntKind.wrap .i64 (j6 + (1 : Int))))
  else
   ue4 (.p14924 l0 i3 (IntKind.wrap .i64 (k4 + (1 : Int))))
 partial_fixpoint
def xl8 : List (Plc E xp6) := [⟨116, [false, false, true, false, true, true], { slots := [0, 3], rows := [], flat := [], keep := 0 }, _, _, (.cons (Rd.sl 103 false) (.cons (Rd.int .i64) .nil)), .nil, fun a b => .p116 a.1 a.2.1⟩,
 ⟨1865, [true, false, false, true, false, false, true, false, true, true], { slots := [0, 3], rows := [], flat := [], keep := 0 }, _, _, (.cons (Rd.sl 103 false) (.cons (Rd.int .i64) .nil)), .nil, fun a b => .p1865 a.1 a.2.1⟩,
 ⟨14924, [false, false, true, true, false, false, true, false, false, true, false, true, true], { slots := [0, 3, 4], rows := [], flat := [], keep := 0 }, _, _, (.cons (Rd.sl 103 false) (.cons (Rd.int .i64) (.cons (Rd.int .i64) .nil))), .nil, fun a b => .p14924 a.1 a.2.1 a.2.2.1⟩,
 ⟨3820700, [false, false, true, true, true, false, false, true, false, false, true, true, false, false, true, false, false, true, false, true, true], { slots := [0, 3, 4, 5, 6], rows := [], flat := [], keep := 0 }, _, _, (.cons (Rd.sl 103 false) (.cons (Rd.int .i64) (.cons (Rd.int .i64) (.cons (Rd.sl 58 false) (.cons (Rd.int .i64) .nil))))), .nil, fun a b => .p3820700 a.1 a.2.1 a.2.2.1 a.2.2.2.1 a.2.2.2.2.1⟩]
theorem wS0 : All (ub8 67 0 va9 xd5) xl8 := ⟨⟨rfl, rfl, fun _ _ => rfl, fun _ _ => rfl⟩, ⟨⟨rfl, rfl, fun _ _ => rfl, fun _ _ => rfl⟩, ⟨⟨rfl, rfl, fun _ _ => rfl, fun _ _ => rfl⟩, ⟨⟨rfl, rfl, fun _ _ => rfl, fun _ _ => rfl⟩, trivial⟩⟩⟩⟩
def vv4 : Code := Tryz.f11.body.getD .skip
def wr7 : Spec E.S := (Con.add vw8 ub0)
theorem v97 : ua9 E wr7 := (Con.add_ok uX3 ua7)
theorem xz8 : ∀ pt r, ue4 pt = some r → Good E Tryz.f11 vv4 0 (uP8.av r) (uP8.bx r) (va9 pt) (xd5 pt) := by
 refine ue4.partial_correctness (fun pt r => Good E Tryz.f11 vv4 0 (uP8.av r) (uP8.bx r) (va9 pt) (xd5 pt)) ?_
 intro run' ih pt r hr
 cases pt <;> exact ua8 (spec := wr7) (wr := (mkWr [] [])) (l := xl8) (z := 67) (p := uP8) E_ok wS0.mem rfl v97 ih (Eq.trans (by kernel_rfl) hr)
def w23 : Con E := ⟨11, _, _, (.cons (Rw.sl 103) .nil), .nil, 0, xZ9, fun a b => ue4 (.start a.1), uP8.av, uP8.bx⟩
theorem wE3 : w23.Ok := fun a b r h => ub3 (fn := Tryz.f11) (code := vv4) E_ok (by kernel_rfl) (by kernel_rfl) (by kernel_rfl) (Nat.le_of_ble_eq_true rfl) (xz8 (.start a.1) r h)
inductive xp7 where
 | start (s0 : ByteArray)
 | p7 (s0 : ByteArray)
 | p116 (s0 : ByteArray) (i3 : Int)
 | p3731 (s0 : ByteArray) (i3 : Int) (c4 : Int) (letter5 : Bool)
def vb0 : xp7 → List Bool
 | .start .. => []
 | .p7 .. => [true, true]
 | .p116 .. => [false, false, true, false, true, true]
 | .p3731 .. => [true, true, false, false, true, false, false, true, false, true, true]
def xd6 : xp7 → St E.S
 | .start s0 => st0 55 [.v (.string s0)] []
 | .p7 s0 => mkSt 55 [0] [.v (.string s0)] []
 | .p116 s0 i3 => mkSt 55 [0, 3] [.v (.string s0), .v (.int .i64 i3)] []
 | .p3731 s0 i3 c4 letter5 => mkSt 55 [0, 3, 4, 5] [.v (.string s0), .v (.int .i64 i3), .v (.int .u8 c4), .v (.bool letter5)] []
abbrev x00 : Type := ((Bool × Unit) × Unit)
def uP9 : Res E (Bool × Unit) Unit := { rows := [], flat := [], keep := 0, done := [0], rl := (.cons Rd.bool .nil), rb := .nil }
def ud8 : xp7 → Option x00
 | .start s0 =>
  if (decide ((s0.size : Int) < (1 : Int))) = true then
   some ((false, ()), ())
  else
   if (decide ((s0.size : Int) > (16 : Int))) = true then
    some ((false, ()), ())
   else
    ud8 (.p7 s0)
 | .p7 s0 =>
  ud8 (.p116 s0 (0 : Int))
 | .p116 s0 i3 =>
  if (decide (i3 < (s0.size : Int))) = true then
   (sidx s0 i3) >>= fun t1 =>
   if (decide (t1 ≥ (97 : Int))) = true then
    if (decide (t1 ≤ (122 : Int))) = true then
     ud8 (.p3731 s0 i3 t1 true)
    else
     if (decide (t1 ≥ (65 : Int))) = true then
      ud8 (.p3731 s0 i3 t1 (decide (t1 ≤ (90 : Int))))
     else
      ud8 (.p3731 s0 i3 t1 false)
   else
    if (decide (t1 ≥ (65 : Int))) = true then
     ud8 (.p3731 s0 i3 t1 (decide (t1 ≤ (90 : Int))))
    else
     ud8 (.p3731 s0 i3 t1 false)
  else
   some ((true, ()), ())
 | .p3731 s0 i3 c4 letter5 =>
  if (!letter5) = true then
   if (i3 == (0 : Int)) = true then
    some ((false, ()), ())
   else
    if (c4 != (95 : Int)) = true then
     if (decide (c4 < (48 : Int))) = true then
      some ((false, ()), ())
     else
      if (decide (c4 > (57 : Int))) = true then
       some ((false, ()), ())
      else
       ud8 (.p116 s0 (IntKind.wrap .i64 (i3 + (1 : Int))))
    else
     ud8 (.p116 s0 (IntKind.wrap .i64 (i3 + (1 : Int))))
  else
   ud8 (.p116 s0 (IntKind.wrap .i64 (i3 + (1 : Int))))
 partial_fixpoint
def xl9 : List (Plc E xp7) := [⟨7, [true, true], { slots := [0], rows := [], flat := [], keep := 0 }, _, _, (.cons Rd.str .nil), .nil, fun a b => .p7 a.1⟩,
 ⟨116, [false, false, true, false, true, true], { slots := [0, 3], rows := [], flat := [], keep := 0 }, _, _, (.cons Rd.str (.cons (Rd.int .i64) .nil)), .nil, fun a b => .p116 a.1 a.2.1⟩,
 ⟨3731, [true, true, false, false, true, false, false, true, false, true, true], { slots := [0, 3, 4, 5], rows := [], flat := [], keep := 0 }, _, _, (.cons Rd.str (.cons (Rd.int .i64) (.cons (Rd.int .u8) (.cons Rd.bool .nil)))), .nil, fun a b => .p3731 a.1 a.2.1 a.2.2.1 a.2.2.2.1⟩]
theorem wS1 : All (ub8 55 0 vb0 xd6) xl9 := ⟨⟨rfl, rfl, fun _ _ => rfl, fun _ _ => rfl⟩, ⟨⟨rfl, rfl, fun _ _ => rfl, fun _ _ => rfl⟩, ⟨⟨rfl, rfl, fun _ _ => rfl, fun _ _ => rfl⟩, trivial⟩⟩⟩
def vv5 : Code := Tryz.f118.body.getD .skip
def wr8 : Spec E.S := ub0
theorem v98 : ua9 E wr8 := ua7
theorem xz9 : ∀ pt r, ud8 pt = some r → Good E Tryz.f118 vv5 0 (uP9.av r) (uP9.bx r) (vb0 pt) (xd6 pt) := by
 refine ud8.partial_correctness (fun pt r => Good E Tryz.f118 vv5 0 (uP9.av r) (uP9.bx r) (vb0 pt) (xd6 pt)) ?_
 intro run' ih pt r hr
 cases pt <;> exact ua8 (spec := wr8) (wr := (mkWr [] [])) (l := xl9) (z := 55) (p := uP9) E_ok wS1.mem rfl v98 ih (Eq.trans (by kernel_rfl) hr)
def vT8 : Con E := ⟨118, _, _, (.cons Rd.str.w .nil), .nil, 0, x00, fun a b => ud8 (.start a.1), uP9.av, uP9.bx⟩
theorem vo5 : vT8.Ok := fun a b r h => ub3 (fn := Tryz.f118) (code := vv5) E_ok (by kernel_rfl) (by kernel_rfl) (by kernel_rfl) (Nat.le_of_ble_eq_true rfl) (xz9 (.start a.1) r h)
inductive xp8 where
 | start (l0 : (List ua2)) (name1 : ByteArray)
 | p52 (l0 : (List ua2)) (name1 : ByteArray) (i5 : Int)
def vb1 : xp8 → List Bool
 | .start .. => []
 | .p52 .. => [false, false, true, false, true]
def xd7 : xp8 → St E.S
 | .start l0 name1 => st0 20 [.sl 103 l0 false, .v (.string name1)] []
 | .p52 l0 name1 i5 => mkSt 20 [0, 1, 5] [.sl 103 l0 false, .v (.string name1), .v (.int .i64 i5)] []
abbrev x01 : Type := ((Int × Unit) × Unit)
def uQ0 : Res E (Int × Unit) Unit := { rows := [], flat := [], keep := 0, done := [0], rl := (.cons (Rd.int .i64) .nil), rb := .nil }
def un6 : xp8 → Option x01
 | .start l0 name1 =>
  un6 (.p52 l0 name1 (0 : Int))
 | .p52 l0 name1 i5 =>
  if (decide (i5 < (List.length l0 : Int))) = true then
   (idx l0 i5) >>= fun t1 =>
   if (seq t1.Name name1) = true then
    some ((i5, ()), ())
   else
    un6 (.p52 l0 name1 (IntKind.wrap .i64 (i5 + (1 : Int))))
  else
   some (((-1 : Int), ()), ())
 partial_fixpoint
def xm0 : List (Plc E xp8) := [⟨52, [false, false, true, false, true], { slots := [0, 1, 5], rows := [], flat := [], keep := 0 }, _, _, (.cons (Rd.sl 103 false) (.cons Rd.str (.cons (Rd.int .i64) .nil))), .nil, fun a b => .p52 a.1 a.2.1 a.2.2.1⟩]
theorem wS2 : All (ub8 20 0 vb1 xd7) xm0 := ⟨⟨rfl, rfl, fun _ _ => rfl, fun _ _ => rfl⟩, trivial⟩
def vv6 : Code := Tryz.f81.body.getD .skip
def wr9 : Spec E.S := ub0
theorem v99 : ua9 E wr9 := ua7
theorem xA0 : ∀ pt r, un6 pt = some r → Good E Tryz.f81 vv6 0 (uQ0.av r) (uQ0.bx r) (vb1 pt) (xd7 pt) := by
 refine un6.partial_correctness (fun pt r => Good E Tryz.f81 vv6 0 (uQ0.av r) (uQ0.bx r) (vb1 pt) (xd7 pt)) ?_
 intro run' ih pt r hr
 cases pt <;> exact ua8 (spec := wr9) (wr := (mkWr [] [])) (l := xm0) (z := 20) (p := uQ0) E_ok wS2.mem rfl v99 ih (Eq.trans (by kernel_rfl) hr)
def vw9 : Con E := ⟨81, _, _, (.cons (Rw.sl 103) (.cons Rd.str.w .nil)), .nil, 0, x01, fun a b => un6 (.start a.1 a.2.1), uQ0.av, uQ0.bx⟩
theorem uX4 : vw9.Ok := fun a b r h => ub3 (fn := Tryz.f81) (code := vv6) E_ok (by kernel_rfl) (by kernel_rfl) (by kernel_rfl) (Nat.le_of_ble_eq_true rfl) (xA0 (.start a.1 a.2.1) r h)
inductive xp9 where
 | start (l0 : (List ByteArray)) (s1 : ByteArray)
 | p52 (l0 : (List ByteArray)) (s1 : ByteArray) (i5 : Int)
def vb2 : xp9 → List Bool
 | .start .. => []
 | .p52 .. => [false, false, true, false, true]
def xd8 : xp9 → St E.S
 | .start l0 s1 => st0 18 [.sl 9 l0 false, .v (.string s1)] []
 | .p52 l0 s1 i5 => mkSt 18 [0, 1, 5] [.sl 9 l0 false, .v (.string s1), .v (.int .i64 i5)] []
abbrev x02 : Type := ((Bool × Unit) × Unit)
def uQ1 : Res E (Bool × Unit) Unit := { rows := [], flat := [], keep := 0, done := [0], rl := (.cons Rd.bool .nil), rb := .nil }
def uq0 : xp9 → Option x02
 | .start l0 s1 =>
  uq0 (.p52 l0 s1 (0 : Int))
 | .p52 l0 s1 i5 =>
  if (decide (i5 < (List.length l0 : Int))) = true then
   (idx l0 i5) >>= fun t1 =>
   if (seq t1 s1) = true then
    some ((true, ()), ())
   else
    uq0 (.p52 l0 s1 (IntKind.wrap .i64 (i5 + (1 : Int))))
  else
   some ((false, ()), ())
 partial_fixpoint
def xm1 : List (Plc E xp9) := [⟨52, [false, false, true, false, true], { slots := [0, 1, 5], rows := [], flat := [], keep := 0 }, _, _, (.cons (Rd.sl 9 false) (.cons Rd.str (.cons (Rd.int .i64) .nil))), .nil, fun a b => .p52 a.1 a.2.1 a.2.2.1⟩]
theorem wS3 : All (ub8 18 0 vb2 xd8) xm1 := ⟨⟨rfl, rfl, fun _ _ => rfl, fun _ _ => rfl⟩, trivial⟩
def vv7 : Code := Tryz.f119.body.getD .skip
def ws1 : Spec E.S := ub0
theorem wa0 : ua9 E ws1 := ua7
theorem xA1 : ∀ pt r, uq0 pt = some r → Good E Tryz.f119 vv7 0 (uQ1.av r) (uQ1.bx r) (vb2 pt) (xd8 pt) := by
 refine uq0.partial_correctness (fun pt r => Good E Tryz.f119 vv7 0 (uQ1.av r) (uQ1.bx r) (vb2 pt) (xd8 pt)) ?_
 intro run' ih pt r hr
 cases pt <;> exact ua8 (spec := ws1) (wr := (mkWr [] [])) (l := xm1) (z := 18) (p := uQ1) E_ok wS3.mem rfl wa0 ih (Eq.trans (by kernel_rfl) hr)
def vT9 : Con E := ⟨119, _, _, (.cons (Rw.sl 9) (.cons Rd.str.w .nil)), .nil, 0, x02, fun a b => uq0 (.start a.1 a.2.1), uQ1.av, uQ1.bx⟩
theorem vo6 : vT9.Ok := fun a b r h => ub3 (fn := Tryz.f119) (code := vv7) E_ok (by kernel_rfl) (by kernel_rfl) (by kernel_rfl) (Nat.le_of_ble_eq_true rfl) (xA1 (.start a.1 a.2.1) r h)
inductive xq0 where
 | start (l0 : (List ua2)) (name1 : ByteArray)
 | p52 (l0 : (List ua2)) (name1 : ByteArray) (i5 : Int)
 | p3364 (l0 : (List ua2)) (name1 : ByteArray) (i5 : Int) (k6 : Int)
def vb3 : xq0 → List Bool
 | .start .. => []
 | .p52 .. => [false, false, true, false, true]
 | .p3364 .. => [false, false, true, false, false, true, false, false, true, false, true]
def xd9 : xq0 → St E.S
 | .start l0 name1 => st0 34 [.sl 103 l0 false, .v (.string name1)] []
 | .p52 l0 name1 i5 => mkSt 34 [0, 1, 5] [.sl 103 l0 false, .v (.string name1), .v (.int .i64 i5)] []
 | .p3364 l0 name1 i5 k6 => mkSt 34 [0, 1, 5, 6] [.sl 103 l0 false, .v (.string name1), .v (.int .i64 i5), .v (.int .i64 k6)] []
abbrev x03 : Type := ((Bool × Unit) × Unit)
def uQ2 : Res E (Bool × Unit) Unit := { rows := [], flat := [], keep := 0, done := [0], rl := (.cons Rd.bool .nil), rb := .nil }
def uh3 : xq0 → Option x03
 | .start l0 name1 =>
  uh3 (.p52 l0 name1 (0 : Int))
 | .p52 l0 name1 i5 =>
  if (decide (i5 < (List.length l0 : Int))) = true then
   uh3 (.p3364 l0 name1 i5 (0 : Int))
  else
   some ((false, ()), ())
 | .p3364 l0 name1 i5 k6 =>
  (idx l0 i5) >>= fun t1 =>
  if (decide (k6 < (List.length t1.Constructors : Int))) = true then
   (idx l0 i5) >>= fun t2 =>
   (idx t2.Constructors k6) >>= fun t3 =>
   if (seq t3.Name name1) = true then
    some ((true, ()), ())
   else
    uh3 (.p3364 l0 name1 i5 (IntKind.wrap .i64 (k6 + (1 : Int))))
  else
   uh3 (.p52 l0 name1 (IntKind.wrap .i64 (i5 + (1 : Int))))
 partial_fixpoint
def xm2 : List (Plc E xq0) := [⟨52, [false, false, true, false, true], { slots := [0, 1, 5], rows := [], flat := [], keep := 0 }, _, _, (.cons (Rd.sl 103 false) (.cons Rd.str (.cons (Rd.int .i64) .nil))), .nil, fun a b => .p52 a.1 a.2.1 a.2.2.1⟩,
 ⟨3364, [false, false, true, false, false, true, false, false, true, false, true], { slots := [0, 1, 5, 6], rows := [], flat := [], keep := 0 }, _, _, (.cons (Rd.sl 103 false) (.cons Rd.str (.cons (Rd.int .i64) (.cons (Rd.int .i64) .nil)))), .nil, fun a b => .p3364 a.1 a.2.1 a.2.2.1 a.2.2.2.1⟩]
theorem wS4 : All (ub8 34 0 vb3 xd9) xm2 := ⟨⟨rfl, rfl, fun _ _ => rfl, fun _ _ => rfl⟩, ⟨⟨rfl, rfl, fun _ _ => rfl, fun _ _ => rfl⟩, trivial⟩⟩
def vv8 : Code := Tryz.f120.body.getD .skip
def ws2 : Spec E.S := ub0
theorem wa1 : ua9 E ws2 := ua7
theorem xA2 : ∀ pt r, uh3 pt = some r → Good E Tryz.f120 vv8 0 (uQ2.av r) (uQ2.bx r) (vb3 pt) (xd9 pt) := by
 refine uh3.partial_correctness (fun pt r => Good E Tryz.f120 vv8 0 (uQ2.av r) (uQ2.bx r) (vb3 pt) (xd9 pt)) ?_
 intro run' ih pt r hr
 cases pt <;> exact ua8 (spec := ws2) (wr := (mkWr [] [])) (l := xm2) (z := 34) (p := uQ2) E_ok wS4.mem rfl wa1 ih (Eq.trans (by kernel_rfl) hr)
def w24 : Con E := ⟨120, _, _, (.cons (Rw.sl 103) (.cons Rd.str.w .nil)), .nil, 0, x03, fun a b => uh3 (.start a.1 a.2.1), uQ2.av, uQ2.bx⟩
theorem wE4 : w24.Ok := fun a b r h => ub3 (fn := Tryz.f120) (code := vv8) E_ok (by kernel_rfl) (by kernel_rfl) (by kernel_rfl) (Nat.le_of_ble_eq_true rfl) (xA2 (.start a.1 a.2.1) r h)
inductive xq1 where
 | start (n0 : Int) (lo1 : Int) (hi2 : Int)
def vL4 : xq1 → List Bool
 | .start .. => []
def xL0 : xq1 → St E.S
 | .start n0 lo1 hi2 => st0 15 [.v (.int .i64 n0), .v (.int .i64 lo1), .v (.int .i64 hi2)] []
abbrev x04 : Type := ((Bool × Unit) × Unit)
def ve9 : Res E (Bool × Unit) Unit := { rows := [], flat := [], keep := 0, done := [0], rl := (.cons Rd.bool .nil), rb := .nil }
def uy5 : xq1 → Option x04
 | .start n0 lo1 hi2 =>
  if (decide (lo1 ≤ n0)) = true then
   some ((decide (n0 ≤ hi2), ()), ())
  else
   some ((false, ()), ())
def xm3 : List (Plc E xq1) := []
theorem wS5 : All (ub8 15 0 vL4 xL0) xm3 := trivial
def wh5 : Code := Tryz.f17.body.getD .skip
def ws3 : Spec E.S := ub0
theorem wa2 : ua9 E ws3 := ua7
theorem xA3 : ∀ pt r, uy5 pt = some r → Good E Tryz.f17 wh5 0 (ve9.av r) (ve9.bx r) (vL4 pt) (xL0 pt) := by
 intro pt r hr
 cases pt <;> exact ua8 (spec := ws3) (wr := (mkWr [] [])) (l := xm3) (z := 15) (p := ve9) (run' := fun _ => none) E_ok wS5.mem rfl wa2 (fun _ _ h => by cases h) (Eq.trans (by kernel_rfl) hr)
def vx0 : Con E := ⟨17, _, _, (.cons (Rd.int .i64).w (.cons (Rd.int .i64).w (.cons (Rd.int .i64).w .nil))), .nil, 0, x04, fun a b => uy5 (.start a.1 a.2.1 a.2.2.1), ve9.av, ve9.bx⟩
theorem uX5 : vx0.Ok := fun a b r h => ub3 (fn := Tryz.f17) (code := wh5) E_ok (by kernel_rfl) (by kernel_rfl) (by kernel_rfl) (Nat.le_of_ble_eq_true rfl) (xA3 (.start a.1 a.2.1 a.2.2.1) r h)
inductive vC5 where
 | start (l0 : (List ua2)) (params1 : (List ByteArray)) (t2_0 : Int) (t2_1 : Int) (t2_2 : ByteArray) (t2_3 : (List ua0))
 | p31 (l0 : (List ua2)) (params1 : (List ByteArray)) (parts7 : Int) (C0 : Int) (C1 : Int) (C2 : ByteArray) (C3 : (List ua0))
 | p63 (l0 : (List ua2)) (params1 : (List ByteArray)) (parts7 : Int) (C0 : Int) (C1 : Int) (C2 : ByteArray) (C3 : (List ua0))
 | p255 (l0 : (List ua2)) (params1 : (List ByteArray)) (C0 : Int) (C1 : Int) (C2 : ByteArray) (C3 : (List ua0))
 | p4084 (l0 : (List ua2)) (params1 : (List ByteArray)) (i9 : Int) (C0 : Int) (C1 : Int) (C2 : ByteArray) (C3 : (List ua0))
def uG8 : vC5 → List Bool
 | .start .. => []
 | .p31 .. => [true, true, true, true]
 | .p63 .. => [true, true, true, true, true]
 | .p255 .. => [true, true, true, true, true, true, true]
 | .p4084 .. => [false, false, true, false, true, true, true, true, true, true, true]
def vQ2 : vC5 → St E.S
 | .start l0 params1 t2_0 t2_1 t2_2 t2_3 => st0 81 [.sl 103 l0 false, .sl 9 params1 false, .agg [.v (.int .i64 t2_0), .v (.int .i64 t2_1), .v (.string t2_2), .sl 25 t2_3 false]] []
 | .p31 l0 params1 parts7 C0 C1 C2 C3 => mkSt 81 [0, 1, 5, 7] [.sl 103 l0 false, .sl 9 params1 false, .bp 0 0, .v (.int .i64 parts7)] [.var 25 [.v (.int .i64 C0), .v (.int .i64 C1), .v (.string C2), .sl 25 C3 false]]
 | .p63 l0 params1 parts7 C0 C1 C2 C3 => mkSt 81 [0, 1, 5, 7] [.sl 103 l0 false, .sl 9 params1 false, .bp 0 0, .v (.int .i64 parts7)] [.var 25 [.v (.int .i64 C0), .v (.int .i64 C1), .v (.string C2), .sl 25 C3 false]]
 | .p255 l0 params1 C0 C1 C2 C3 => mkSt 81 [0, 1, 5] [.sl 103 l0 false, .sl 9 params1 false, .bp 0 0] [.var 25 [.v (.int .i64 C0), .v (.int .i64 C1), .v (.string C2), .sl 25 C3 false]]
 | .p4084 l0 params1 i9 C0 C1 C2 C3 => mkSt 81 [0, 1, 5, 9] [.sl 103 l0 false, .sl 9 params1 false, .bp 0 0, .v (.int .i64 i9)] [.var 25 [.v (.int .i64 C0), .v (.int .i64 C1), .v (.string C2), .sl 25 C3 false]]
abbrev vR1 : Type := ((Int × Unit) × Unit)
def up2 : Res E (Int × Unit) Unit := { rows := [], flat := [], keep := 0, done := [0], rl := (.cons (Rd.int .i64) .nil), rb := .nil }
def ud4 : vC5 → Option vR1
 | .start l0 params1 t2_0 t2_1 t2_2 t2_3 =>
  (uy5 (.start t2_0 (0 : Int) (2 : Int))) >>= fun t1 =>
  if (!t1.1.1) = true then
   some (((15 : Int), ()), ())
  else
   if (t2_0 == (0 : Int)) = true then
    (uq0 (.start params1 t2_2)) >>= fun t2 =>
    if (!t2.1.1) = true then
     some (((6 : Int), ()), ())
    else
     ud4 (.p31 l0 params1 (0 : Int) t2_0 t2_1 t2_2 t2_3)
   else
    ud4 (.p31 l0 params1 (0 : Int) t2_0 t2_1 t2_2 t2_3)
 | .p31 l0 params1 parts7 C0 C1 C2 C3 =>
  if (C0 == (1 : Int)) = true then
   (un6 (.start l0 C2)) >>= fun t1 =>
   if (seq C2 (⟨#[66, 105, 116]⟩ : ByteArray)) = true then
    ud4 (.p63 l0 params1 (1 : Int) C0 C1 C2 C3)
   else
    if (seq C2 (⟨#[66, 111, 111, 108]⟩ : ByteArray)) = true then
     ud4 (.p63 l0 params1 parts7 C0 C1 C2 C3)
    else
     if (decide (t1.1.1 ≥ (0 : Int))) = true then
      (idx l0 t1.1.1) >>= fun t2 =>
      ud4 (.p63 l0 params1 (List.length t2.Params : Int) C0 C1 C2 C3)
     else
      some (((6 : Int), ()), ())
  else
   ud4 (.p63 l0 params1 parts7 C0 C1 C2 C3)
 | .p63 l0 params1 parts7 C0 C1 C2 C3 =>
  if ((List.length C3 : Int) != parts7) = true then
   some (((10 : Int), ()), ())
  else
   if (C0 == (2 : Int)) = true then
    (uy5 (.start C1 (0 : Int) (1000000000 : Int))) >>= fun t1 =>
    if (!t1.1.1) = true then
     some (((2 : Int), ()), ())
    else
     ud4 (.p255 l0 params1 C0 C1 C2 C3)
   else
    ud4 (.p255 l0 params1 C0 C1 C2 C3)
 | .p255 l0 params1 C0 C1 C2 C3 =>
  ud4 (.p4084 l0 params1 (0 : Int) C0 C1 C2 C3)
 | .p4084 l0 params1 i9 C0 C1 C2 C3 =>
  if (decide (i9 < (List.length C3 : Int))) = true then
   (idx C3 i9) >>= fun t1 =>
   (ud4 (.start l0 params1 t1.Kind t1.Value t1.Name t1.Parts)) >>= fun t2 =>
   if (t2.1.1 != (0 : Int)) = true then
    some ((t2.1.1, ()), ())
   else
    ud4 (.p4084 l0 params1 (IntKind.wrap .i64 (i9 + (1 : Int))) C0 C1 C2 C3)
  else
   some (((0 : Int), ()), ())
 partial_fixpoint
def xm4 : List (Plc E vC5) := [⟨31, [true, true, true, true], { slots := [0, 1, 5, 7], rows := [], flat := [], keep := 0 }, _, _, (.cons (Rd.sl 103 false) (.cons (Rd.sl 9 false) (.cons (Rd.bp 0 0) (.cons (Rd.int .i64) .nil)))), (.cons (.var 25 (.cons (Rd.int .i64) (.cons (Rd.int .i64) (.cons Rd.str (.cons (Rd.sl 25 false) .nil))))) .nil), fun a b => .p31 a.1 a.2.1 a.2.2.2.1 b.1.1 b.1.2.1 b.1.2.2.1 b.1.2.2.2.1⟩,
 ⟨63, [true, true, true, true, true], { slots := [0, 1, 5, 7], rows := [], flat := [], keep := 0 }, _, _, (.cons (Rd.sl 103 false) (.cons (Rd.sl 9 false) (.cons (Rd.bp 0 0) (.cons (Rd.int .i64) .nil)))), (.cons (.var 25 (.cons (Rd.int .i64) (.cons (Rd.int .i64) (.cons Rd.str (.cons (Rd.sl 25 false) .nil))))) .nil), fun a b => .p63 a.1 a.2.1 a.2.2.2.1 b.1.1 b.1.2.1 b.1.2.2.1 b.1.2.2.2.1⟩,
 ⟨255, [true, true, true, true, true, true, true], { slots := [0, 1, 5], rows := [], flat := [], keep := 0 }, _, _, (.cons (Rd.sl 103 false) (.cons (Rd.sl 9 false) (.cons (Rd.bp 0 0) .nil))), (.cons (.var 25 (.cons (Rd.int .i64) (.cons (Rd.int .i64) (.cons Rd.str (.cons (Rd.sl 25 false) .nil))))) .nil), fun a b => .p255 a.1 a.2.1 b.1.1 b.1.2.1 b.1.2.2.1 b.1.2.2.2.1⟩,
 ⟨4084, [false, false, true, false, true, true, true, true, true, true, true], { slots := [0, 1, 5, 9], rows := [], flat := [], keep := 0 }, _, _, (.cons (Rd.sl 103 false) (.cons (Rd.sl 9 false) (.cons (Rd.bp 0 0) (.cons (Rd.int .i64) .nil)))), (.cons (.var 25 (.cons (Rd.int .i64) (.cons (Rd.int .i64) (.cons Rd.str (.cons (Rd.sl 25 false) .nil))))) .nil), fun a b => .p4084 a.1 a.2.1 a.2.2.2.1 b.1.1 b.1.2.1 b.1.2.2.1 b.1.2.2.2.1⟩]
theorem wS6 : All (ub8 81 0 uG8 vQ2) xm4 := ⟨⟨rfl, rfl, fun _ _ => rfl, fun _ _ => rfl⟩, ⟨⟨rfl, rfl, fun _ _ => rfl, fun _ _ => rfl⟩, ⟨⟨rfl, rfl, fun _ _ => rfl, fun _ _ => rfl⟩, ⟨⟨rfl, rfl, fun _ _ => rfl, fun _ _ => rfl⟩, trivial⟩⟩⟩⟩
def uJ8 : Code := Tryz.f138.body.getD .skip
def w89 (run' : vC5 → Option vR1) : Con E := ⟨138, ((List ua2) × ((List ByteArray) × ((Int × (Int × (ByteArray × ((List ua0) × Unit)))) × Unit))), Unit, (RwL.cons (Rw.sl 103) (RwL.cons (Rw.sl 9) (RwL.cons (Rw.agg (RwL.cons (Rd.int .i64).w (RwL.cons (Rd.int .i64).w (RwL.cons Rd.str.w (RwL.cons (Rw.sl 25) RwL.nil))))) RwL.nil))), RdBL.nil, 0, vR1, fun a b => run' (.start a.1 a.2.1 a.2.2.1.1 a.2.2.1.2.1 a.2.2.1.2.2.1 a.2.2.1.2.2.2.1), up2.av, up2.bx⟩
theorem wJ1 {run' : vC5 → Option vR1} (ih : ∀ pt r, run' pt = some r → Good E Tryz.f138 uJ8 0 (up2.av r) (up2.bx r) (uG8 pt) (vQ2 pt)) : (w89 run').Ok := fun a b r h => ub3 (fn := Tryz.f138) (code := uJ8) E_ok (by kernel_rfl) (by kernel_rfl) (by kernel_rfl) (Nat.le_of_ble_eq_true rfl) (ih (.start a.1 a.2.1 a.2.2.1.1 a.2.2.1.2.1 a.2.2.1.2.2.1 a.2.2.1.2.2.2.1) r h)
def ws4 (run' : vC5 → Option vR1) : Spec E.S := (Con.add (w89 run') (Con.add vw9 (Con.add vT9 (Con.add vx0 ub0))))
theorem wa3 {run' : vC5 → Option vR1} (ih : ∀ pt r, run' pt = some r → Good E Tryz.f138 uJ8 0 (up2.av r) (up2.bx r) (uG8 pt) (vQ2 pt)) : ua9 E (ws4 run') := (Con.add_ok (wJ1 ih) (Con.add_ok uX4 (Con.add_ok vo6 (Con.add_ok uX5 ua7))))
theorem xA4 : ∀ pt r, ud4 pt = some r → Good E Tryz.f138 uJ8 0 (up2.av r) (up2.bx r) (uG8 pt) (vQ2 pt) := by
 refine ud4.partial_correctness (fun pt r => Good E Tryz.f138 uJ8 0 (up2.av r) (up2.bx r) (uG8 pt) (vQ2 pt)) ?_
 intro run' ih pt r hr
 cases pt <;> exact ua8 (spec := (ws4 run')) (wr := (mkWr [] [])) (l := xm4) (z := 81) (p := up2) E_ok wS6.mem rfl (wa3 ih) ih (Eq.trans (by kernel_rfl) hr)
def w25 : Con E := ⟨138, _, _, (.cons (Rw.sl 103) (.cons (Rw.sl 9) (.cons (Rw.agg (.cons (Rd.int .i64).w (.cons (Rd.int .i64).w (.cons Rd.str.w (.cons (Rw.sl 25) .nil))))) .nil))), .nil, 0, vR1, fun a b => ud4 (.start a.1 a.2.1 a.2.2.1.1 a.2.2.1.2.1 a.2.2.1.2.2.1 a.2.2.1.2.2.2.1), up2.av, up2.bx⟩
theorem wE5 : w25.Ok := fun a b r h => ub3 (fn := Tryz.f138) (code := uJ8) E_ok (by kernel_rfl) (by kernel_rfl) (by kernel_rfl) (Nat.le_of_ble_eq_true rfl) (xA4 (.start a.1 a.2.1 a.2.2.1.1 a.2.2.1.2.1 a.2.2.1.2.2.1 a.2.2.1.2.2.2.1) r h)
inductive xq2 where
 | start (l0 : (List ua2)) (params1 : (List ByteArray)) (t2_0 : Int) (t2_1 : Int) (t2_2 : ByteArray) (t2_3 : (List ua0))
def vL5 : xq2 → List Bool
 | .start .. => []
def xL1 : xq2 → St E.S
 | .start l0 params1 t2_0 t2_1 t2_2 t2_3 => st0 14 [.sl 103 l0 false, .sl 9 params1 false, .agg [.v (.int .i64 t2_0), .v (.int .i64 t2_1), .v (.string t2_2), .sl 25 t2_3 false]] []
abbrev x05 : Type := ((Int × Unit) × Unit)
def vf1 : Res E (Int × Unit) Unit := { rows := [], flat := [], keep := 0, done := [0], rl := (.cons (Rd.int .i64) .nil), rb := .nil }
def u08 : xq2 → Option x05
 | .start l0 params1 t2_0 t2_1 t2_2 t2_3 =>
  (uR1 (.start t2_0 t2_1 t2_2 t2_3)) >>= fun t1 =>
  if (!t1.1.1) = true then
   some (((8 : Int), ()), ())
  else
   (ud4 (.start l0 params1 t2_0 t2_1 t2_2 t2_3)) >>= fun t2 =>
   some ((t2.1.1, ()), ())
def xm6 : List (Plc E xq2) := []
theorem wS7 : All (ub8 14 0 vL5 xL1) xm6 := trivial
def wh6 : Code := Tryz.f103.body.getD .skip
def ws5 : Spec E.S := (Con.add w25 (Con.add vw8 ub0))
theorem wa4 : ua9 E ws5 := (Con.add_ok wE5 (Con.add_ok uX3 ua7))
theorem xA5 : ∀ pt r, u08 pt = some r → Good E Tryz.f103 wh6 0 (vf1.av r) (vf1.bx r) (vL5 pt) (xL1 pt) := by
 intro pt r hr
 cases pt <;> exact ua8 (spec := ws5) (wr := (mkWr [] [])) (l := xm6) (z := 14) (p := vf1) (run' := fun _ => none) E_ok wS7.mem rfl wa4 (fun _ _ h => by cases h) (Eq.trans (by kernel_rfl) hr)
def vU0 : Con E := ⟨103, _, _, (.cons (Rw.sl 103) (.cons (Rw.sl 9) (.cons (Rw.agg (.cons (Rd.int .i64).w (.cons (Rd.int .i64).w (.cons Rd.str.w (.cons (Rw.sl 25) .nil))))) .nil))), .nil, 0, x05, fun a b => u08 (.start a.1 a.2.1 a.2.2.1.1 a.2.2.1.2.1 a.2.2.1.2.2.1 a.2.2.1.2.2.2.1), vf1.av, vf1.bx⟩
theorem vo7 : vU0.Ok := fun a b r h => ub3 (fn := Tryz.f103) (code := wh6) E_ok (by kernel_rfl) (by kernel_rfl) (by kernel_rfl) (Nat.le_of_ble_eq_true rfl) (xA5 (.start a.1 a.2.1 a.2.2.1.1 a.2.2.1.2.1 a.2.2.1.2.2.1 a.2.2.1.2.2.2.1) r h)
inductive xq3 where
 | start (d0_0 : ByteArray) (d0_1 : (List ByteArray)) (d0_2 : (List ua1)) (c1_0 : ByteArray) (c1_1 : (List ua6)) (before2 : (List ua2))
 | p116 (before2 : (List ua2)) (i7 : Int) (C0 : ByteArray) (C1 : (List ByteArray)) (C2 : (List ua1)) (D0 : ByteArray) (D1 : (List ua6))
 | p59700 (before2 : (List ua2)) (i7 : Int) (k9 : Int) (C0 : ByteArray) (C1 : (List ByteArray)) (C2 : (List ua1)) (D0 : ByteArray) (D1 : (List ua6)) (G0 : ByteArray) (G1 : Int) (G2 : Int) (G3 : ByteArray) (G4 : (List ua0))
def vb4 : xq3 → List Bool
 | .start .. => []
 | .p116 .. => [false, false, true, false, true, true]
 | .p59700 .. => [false, false, true, false, true, true, false, false, true, false, false, true, false, true, true]
def xe0 : xq3 → St E.S
 | .start d0_0 d0_1 d0_2 c1_0 c1_1 before2 => st0 54 [.agg [.v (.string d0_0), .sl 9 d0_1 false, .sl 56 d0_2 false], .agg [.v (.string c1_0), .sl 58 c1_1 false], .sl 103 before2 false] []
 | .p116 before2 i7 C0 C1 C2 D0 D1 => mkSt 54 [2, 3, 4, 7] [.sl 103 before2 false, .bp 0 0, .bp 1 0, .v (.int .i64 i7)] [.var 103 [.v (.string C0), .sl 9 C1 false, .sl 56 C2 false], .var 56 [.v (.string D0), .sl 58 D1 false]]
 | .p59700 before2 i7 k9 C0 C1 C2 D0 D1 G0 G1 G2 G3 G4 => mkSt 54 [2, 3, 4, 7, 8, 9] [.sl 103 before2 false, .bp 0 0, .bp 1 0, .v (.int .i64 i7), .bp 2 0, .v (.int .i64 k9)] [.var 103 [.v (.string C0), .sl 9 C1 false, .sl 56 C2 false], .var 56 [.v (.string D0), .sl 58 D1 false], .var 58 [.v (.string G0), .v (.int .i64 G1), .v (.int .i64 G2), .v (.string G3), .sl 25 G4 false]]
abbrev x06 : Type := ((Int × Unit) × Unit)
def uQ3 : Res E (Int × Unit) Unit := { rows := [], flat := [], keep := 0, done := [0], rl := (.cons (Rd.int .i64) .nil), rb := .nil }
def ui1 : xq3 → Option x06
 | .start d0_0 d0_1 d0_2 c1_0 c1_1 before2 =>
  if (decide ((List.length c1_1 : Int) > (8 : Int))) = true then
   some (((8 : Int), ()), ())
  else
   ui1 (.p116 before2 (0 : Int) d0_0 d0_1 d0_2 c1_0 c1_1)
 | .p116 before2 i7 C0 C1 C2 D0 D1 =>
  if (decide (i7 < (List.length D1 : Int))) = true then
   (idx D1 i7) >>= fun t1 =>
   (ud8 (.start t1.Name)) >>= fun t2 =>
   if (!t2.1.1) = true then
    some (((4 : Int), ()), ())
   else
    ui1 (.p59700 before2 i7 (0 : Int) C0 C1 C2 D0 D1 t1.Name t1.Type_.Kind t1.Type_.Value t1.Type_.Name t1.Type_.Parts)
  else
   some (((0 : Int), ()), ())
 | .p59700 before2 i7 k9 C0 C1 C2 D0 D1 G0 G1 G2 G3 G4 =>
  if (decide (k9 < i7)) = true then
   (idx D1 k9) >>= fun t1 =>
   if (seq t1.Name G0) = true then
    some (((5 : Int), ()), ())
   else
    ui1 (.p59700 before2 i7 (IntKind.wrap .i64 (k9 + (1 : Int))) C0 C1 C2 D0 D1 G0 G1 G2 G3 G4)
  else
   (u08 (.start before2 C1 G1 G2 G3 G4)) >>= fun t2 =>
   if (t2.1.1 != (0 : Int)) = true then
    some ((t2.1.1, ()), ())
   else
    ui1 (.p116 before2 (IntKind.wrap .i64 (i7 + (1 : Int))) C0 C1 C2 D0 D1)
 partial_fixpoint
def xm7 : List (Plc E xq3) := [⟨116, [false, false, true, false, true, true], { slots := [2, 3, 4, 7], rows := [], flat := [], keep := 0 }, _, _, (.cons (Rd.sl 103 false) (.cons (Rd.bp 0 0) (.cons (Rd.bp 1 0) (.cons (Rd.int .i64) .nil)))), (.cons (.var 103 (.cons Rd.str (.cons (Rd.sl 9 false) (.cons (Rd.sl 56 false) .nil)))) (.cons (.var 56 (.cons Rd.str (.cons (Rd.sl 58 false) .nil))) .nil)), fun a b => .p116 a.1 a.2.2.2.1 b.1.1 b.1.2.1 b.1.2.2.1 b.2.1.1 b.2.1.2.1⟩,
 ⟨59700, [false, false, true, false, true, true, false, false, true, false, false, true, false, true, true], { slots := [2, 3, 4, 7, 8, 9], rows := [], flat := [], keep := 0 }, _, _, (.cons (Rd.sl 103 false) (.cons (Rd.bp 0 0) (.cons (Rd.bp 1 0) (.cons (Rd.int .i64) (.cons (Rd.bp 2 0) (.cons (Rd.int .i64) .nil)))))), (.cons (.var 103 (.cons Rd.str (.cons (Rd.sl 9 false) (.cons (Rd.sl 56 false) .nil)))) (.cons (.var 56 (.cons Rd.str (.cons (Rd.sl 58 false) .nil))) (.cons (.var 58 (.cons Rd.str (.cons (Rd.int .i64) (.cons (Rd.int .i64) (.cons Rd.str (.cons (Rd.sl 25 false) .nil)))))) .nil))), fun a b => .p59700 a.1 a.2.2.2.1 a.2.2.2.2.2.1 b.1.1 b.1.2.1 b.1.2.2.1 b.2.1.1 b.2.1.2.1 b.2.2.1.1 b.2.2.1.2.1 b.2.2.1.2.2.1 b.2.2.1.2.2.2.1 b.2.2.1.2.2.2.2.1⟩]
theorem wS8 : All (ub8 54 0 vb4 xe0) xm7 := ⟨⟨rfl, rfl, fun _ _ => rfl, fun _ _ => rfl⟩, ⟨⟨rfl, rfl, fun _ _ => rfl, fun _ _ => rfl⟩, trivial⟩⟩
def vv9 : Code := Tryz.f121.body.getD .skip
def ws6 : Spec E.S := (Con.add vU0 (Con.add vT8 ub0))
theorem wa5 : ua9 E ws6 := (Con.add_ok vo7 (Con.add_ok vo5 ua7))
theorem xA6 : ∀ pt r, ui1 pt = some r → Good E Tryz.f121 vv9 0 (uQ3.av r) (uQ3.bx r) (vb4 pt) (xe0 pt) := by
 refine ui1.partial_correctness (fun pt r => Good E Tryz.f121 vv9 0 (uQ3.av r) (uQ3.bx r) (vb4 pt) (xe0 pt)) ?_
 intro run' ih pt r hr
 cases pt <;> exact ua8 (spec := ws6) (wr := (mkWr [] [])) (l := xm7) (z := 54) (p := uQ3) E_ok wS8.mem rfl wa5 ih (Eq.trans (by kernel_rfl) hr)
def w27 : Con E := ⟨121, _, _, (.cons (Rw.agg (.cons Rd.str.w (.cons (Rw.sl 9) (.cons (Rw.sl 56) .nil)))) (.cons (Rw.agg (.cons Rd.str.w (.cons (Rw.sl 58) .nil))) (.cons (Rw.sl 103) .nil))), .nil, 0, x06, fun a b => ui1 (.start a.1.1 a.1.2.1 a.1.2.2.1 a.2.1.1 a.2.1.2.1 a.2.2.1), uQ3.av, uQ3.bx⟩
theorem wE6 : w27.Ok := fun a b r h => ub3 (fn := Tryz.f121) (code := vv9) E_ok (by kernel_rfl) (by kernel_rfl) (by kernel_rfl) (Nat.le_of_ble_eq_true rfl) (xA6 (.start a.1.1 a.1.2.1 a.1.2.2.1 a.2.1.1 a.2.1.2.1 a.2.2.1) r h)
inductive xq4 where
 | start (d0_0 : ByteArray) (d0_1 : (List ByteArray)) (d0_2 : (List ua1)) (before1 : (List ua2))
 | p15 (before1 : (List ua2)) (C0 : ByteArray) (C1 : (List ByteArray)) (C2 : (List ua1))
 | p31 (before1 : (List ua2)) (C0 : ByteArray) (C1 : (List ByteArray)) (C2 : (List ua1))
 | p1012 (before1 : (List ua2)) (i5 : Int) (C0 : ByteArray) (C1 : (List ByteArray)) (C2 : (List ua1))
 | p2036 (before1 : (List ua2)) (i6 : Int) (C0 : ByteArray) (C1 : (List ByteArray)) (C2 : (List ua1))
 | p130343 (before1 : (List ua2)) (i6 : Int) (C0 : ByteArray) (C1 : (List ByteArray)) (C2 : (List ua1)) (D0 : ByteArray) (D1 : (List ua6))
def vb5 : xq4 → List Bool
 | .start .. => []
 | .p15 .. => [true, true, true]
 | .p31 .. => [true, true, true, true]
 | .p1012 .. => [false, false, true, false, true, true, true, true, true]
 | .p2036 .. => [false, false, true, false, true, true, true, true, true, true]
 | .p130343 .. => [true, true, true, false, false, true, false, false, true, false, true, true, true, true, true, true]
def xe1 : xq4 → St E.S
 | .start d0_0 d0_1 d0_2 before1 => st0 119 [.agg [.v (.string d0_0), .sl 9 d0_1 false, .sl 56 d0_2 false], .sl 103 before1 false] []
 | .p15 before1 C0 C1 C2 => mkSt 119 [1, 2] [.sl 103 before1 false, .bp 0 0] [.var 103 [.v (.string C0), .sl 9 C1 false, .sl 56 C2 false]]
 | .p31 before1 C0 C1 C2 => mkSt 119 [1, 2] [.sl 103 before1 false, .bp 0 0] [.var 103 [.v (.string C0), .sl 9 C1 false, .sl 56 C2 false]]
 | .p1012 before1 i5 C0 C1 C2 => mkSt 119 [1, 2, 5] [.sl 103 before1 false, .bp 0 0, .v (.int .i64 i5)] [.var 103 [.v (.string C0), .sl 9 C1 false, .sl 56 C2 false]]
 | .p2036 before1 i6 C0 C1 C2 => mkSt 119 [1, 2, 6] [.sl 103 before1 false, .bp 0 0, .v (.int .i64 i6)] [.var 103 [.v (.string C0), .sl 9 C1 false, .sl 56 C2 false]]
 | .p130343 before1 i6 C0 C1 C2 D0 D1 => mkSt 119 [1, 2, 6, 7] [.sl 103 before1 false, .bp 0 0, .v (.int .i64 i6), .bp 1 0] [.var 103 [.v (.string C0), .sl 9 C1 false, .sl 56 C2 false], .var 56 [.v (.string D0), .sl 58 D1 false]]
abbrev x07 : Type := ((Int × Unit) × Unit)
def uQ4 : Res E (Int × Unit) Unit := { rows := [], flat := [], keep := 0, done := [0], rl := (.cons (Rd.int .i64) .nil), rb := .nil }
def ud9 : xq4 → Option x07
 | .start d0_0 d0_1 d0_2 before1 =>
  (ud8 (.start d0_0)) >>= fun t1 =>
  if (!t1.1.1) = true then
   some (((4 : Int), ()), ())
  else
   (un6 (.start before1 d0_0)) >>= fun t2 =>
   if (decide (t2.1.1 ≥ (0 : Int))) = true then
    some (((5 : Int), ()), ())
   else
    if (seq d0_0 (⟨#[66, 105, 116]⟩ : ByteArray)) = true then
     some (((5 : Int), ()), ())
    else
     if (seq d0_0 (⟨#[66, 111, 111, 108]⟩ : ByteArray)) = true then
      some (((5 : Int), ()), ())
     else
      if (seq d0_0 (⟨#[73, 110, 116, 101, 103, 101, 114]⟩ : ByteArray)) = true then
       some (((5 : Int), ()), ())
      else
       ud9 (.p15 before1 d0_0 d0_1 d0_2)
 | .p15 before1 C0 C1 C2 =>
  if (decide ((List.length C1 : Int) > (4 : Int))) = true then
   some (((8 : Int), ()), ())
  else
   if (decide ((List.length C2 : Int) > (16 : Int))) = true then
    some (((8 : Int), ()), ())
   else
    ud9 (.p31 before1 C0 C1 C2)
 | .p31 before1 C0 C1 C2 =>
  if ((List.length C2 : Int) == (0 : Int)) = true then
   some (((10 : Int), ()), ())
  else
   ud9 (.p1012 before1 (0 : Int) C0 C1 C2)
 | .p1012 before1 i5 C0 C1 C2 =>
  if (decide (i5 < (List.length C1 : Int))) = true then
   (idx C1 i5) >>= fun t1 =>
   (ud8 (.start t1)) >>= fun t2 =>
   if (!t2.1.1) = true then
    some (((4 : Int), ()), ())
   else
    (span (List.length C1) (0 : Int) i5) >>= fun t3 =>
    (idx C1 i5) >>= fun t4 =>
    (uq0 (.start (cut C1 t3) t4)) >>= fun t5 =>
    if t5.1.1 = true then
     some (((5 : Int), ()), ())
    else
     ud9 (.p1012 before1 (IntKind.wrap .i64 (i5 + (1 : Int))) C0 C1 C2)
  else
   ud9 (.p2036 before1 (0 : Int) C0 C1 C2)
 | .p2036 before1 i6 C0 C1 C2 =>
  if (decide (i6 < (List.length C2 : Int))) = true then
   (idx C2 i6) >>= fun t1 =>
   (ud8 (.start t1.Name)) >>= fun t2 =>
   if (!t2.1.1) = true then
    some (((4 : Int), ()), ())
   else
    (uh3 (.start before1 t1.Name)) >>= fun t3 =>
    if t3.1.1 = true then
     some (((5 : Int), ()), ())
    else
     (span (List.length C2) (0 : Int) i6) >>= fun t4 =>
     (uh3 (.start ([(⟨(⟨#[]⟩ : ByteArray), [], cut C2 t4⟩ : ua2)] : List ua2) t1.Name)) >>= fun t5 =>
     if t5.1.1 = true then
      some (((5 : Int), ()), ())
     else
      if (seq t1.Name (⟨#[70, 97, 108, 115, 101]⟩ : ByteArray)) = true then
       some (((5 : Int), ()), ())
      else
       if (seq t1.Name (⟨#[84, 114, 117, 101]⟩ : ByteArray)) = true then
        some (((5 : Int), ()), ())
       else
        ud9 (.p130343 before1 i6 C0 C1 C2 t1.Name t1.Fields)
  else
   some (((0 : Int), ()), ())
 | .p130343 before1 i6 C0 C1 C2 D0 D1 =>
  (ui1 (.start C0 C1 C2 D0 D1 before1)) >>= fun t1 =>
  if (t1.1.1 != (0 : Int)) = true then
   some ((t1.1.1, ()), ())
  else
   ud9 (.p2036 before1 (IntKind.wrap .i64 (i6 + (1 : Int))) C0 C1 C2)
 partial_fixpoint
def xm8 : List (Plc E xq4) := [⟨15, [true, true, true], { slots := [1, 2], rows := [], flat := [], keep := 0 }, _, _, (.cons (Rd.sl 103 false) (.cons (Rd.bp 0 0) .nil)), (.cons (.var 103 (.cons Rd.str (.cons (Rd.sl 9 false) (.cons (Rd.sl 56 false) .nil)))) .nil), fun a b => .p15 a.1 b.1.1 b.1.2.1 b.1.2.2.1⟩,
 ⟨31, [true, true, true, true], { slots := [1, 2], rows := [], flat := [], keep := 0 }, _, _, (.cons (Rd.sl 103 false) (.cons (Rd.bp 0 0) .nil)), (.cons (.var 103 (.cons Rd.str (.cons (Rd.sl 9 false) (.cons (Rd.sl 56 false) .nil)))) .nil), fun a b => .p31 a.1 b.1.1 b.1.2.1 b.1.2.2.1⟩,
 ⟨1012, [false, false, true, false, true, true, true, true, true], { slots := [1, 2, 5], rows := [], flat := [], keep := 0 }, _, _, (.cons (Rd.sl 103 false) (.cons (Rd.bp 0 0) (.cons (Rd.int .i64) .nil))), (.cons (.var 103 (.cons Rd.str (.cons (Rd.sl 9 false) (.cons (Rd.sl 56 false) .nil)))) .nil), fun a b => .p1012 a.1 a.2.2.1 b.1.1 b.1.2.1 b.1.2.2.1⟩,
 ⟨2036, [false, false, true, false, true, true, true, true, true, true], { slots := [1, 2, 6], rows := [], flat := [], keep := 0 }, _, _, (.cons (Rd.sl 103 false) (.cons (Rd.bp 0 0) (.cons (Rd.int .i64) .nil))), (.cons (.var 103 (.cons Rd.str (.cons (Rd.sl 9 false) (.cons (Rd.sl 56 false) .nil)))) .nil), fun a b => .p2036 a.1 a.2.2.1 b.1.1 b.1.2.1 b.1.2.2.1⟩,
 ⟨130343, [true, true, true, false, false, true, false, false, true, false, true, true, true, true, true, true], { slots := [1, 2, 6, 7], rows := [], flat := [], keep := 0 }, _, _, (.cons (Rd.sl 103 false) (.cons (Rd.bp 0 0) (.cons (Rd.int .i64) (.cons (Rd.bp 1 0) .nil)))), (.cons (.var 103 (.cons Rd.str (.cons (Rd.sl 9 false) (.cons (Rd.sl 56 false) .nil)))) (.cons (.var 56 (.cons Rd.str (.cons (Rd.sl 58 false) .nil))) .nil)), fun a b => .p130343 a.1 a.2.2.1 b.1.1 b.1.2.1 b.1.2.2.1 b.2.1.1 b.2.1.2.1⟩]
theorem wS9 : All (ub8 119 0 vb5 xe1) xm8 := ⟨⟨rfl, rfl, fun _ _ => rfl, fun _ _ => rfl⟩, ⟨⟨rfl, rfl, fun _ _ => rfl, fun _ _ => rfl⟩, ⟨⟨rfl, rfl, fun _ _ => rfl, fun _ _ => rfl⟩, ⟨⟨rfl, rfl, fun _ _ => rfl, fun _ _ => rfl⟩, ⟨⟨rfl, rfl, fun _ _ => rfl, fun _ _ => rfl⟩, trivial⟩⟩⟩⟩⟩
def vw0 : Code := Tryz.f79.body.getD .skip
def ws7 : Spec E.S := (Con.add w27 (Con.add w24 (Con.add vT9 (Con.add vw9 (Con.add vT8 ub0)))))
theorem wa6 : ua9 E ws7 := (Con.add_ok wE6 (Con.add_ok wE4 (Con.add_ok vo6 (Con.add_ok uX4 (Con.add_ok vo5 ua7)))))
theorem xA7 : ∀ pt r, ud9 pt = some r → Good E Tryz.f79 vw0 0 (uQ4.av r) (uQ4.bx r) (vb5 pt) (xe1 pt) := by
 refine ud9.partial_correctness (fun pt r => Good E Tryz.f79 vw0 0 (uQ4.av r) (uQ4.bx r) (vb5 pt) (xe1 pt)) ?_
 intro run' ih pt r hr
 cases pt <;> exact ua8 (spec := ws7) (wr := (mkWr [] [])) (l := xm8) (z := 119) (p := uQ4) E_ok wS9.mem rfl wa6 ih (Eq.trans (by kernel_rfl) hr)
def w28 : Con E := ⟨79, _, _, (.cons (Rw.agg (.cons Rd.str.w (.cons (Rw.sl 9) (.cons (Rw.sl 56) .nil)))) (.cons (Rw.sl 103) .nil)), .nil, 0, x07, fun a b => ud9 (.start a.1.1 a.1.2.1 a.1.2.2.1 a.2.1), uQ4.av, uQ4.bx⟩
theorem wE7 : w28.Ok := fun a b r h => ub3 (fn := Tryz.f79) (code := vw0) E_ok (by kernel_rfl) (by kernel_rfl) (by kernel_rfl) (Nat.le_of_ble_eq_true rfl) (xA7 (.start a.1.1 a.1.2.1 a.1.2.2.1 a.2.1) r h)
inductive xq5 where
 | start (l0 : (List ua2))
 | p116 (l0 : (List ua2)) (i4 : Int)
def vb6 : xq5 → List Bool
 | .start .. => []
 | .p116 .. => [false, false, true, false, true, true]
def xe2 : xq5 → St E.S
 | .start l0 => st0 27 [.sl 103 l0 false] []
 | .p116 l0 i4 => mkSt 27 [0, 4] [.sl 103 l0 false, .v (.int .i64 i4)] []
abbrev x08 : Type := ((Int × (Int × Unit)) × Unit)
def uQ5 : Res E (Int × (Int × Unit)) Unit := { rows := [], flat := [], keep := 0, done := [0, 1], rl := (.cons (Rd.int .i64) (.cons (Rd.int .i64) .nil)), rb := .nil }
def ur6 : xq5 → Option x08
 | .start l0 =>
  if (decide ((List.length l0 : Int) > (20 : Int))) = true then
   some (((0 : Int), ((8 : Int), ())), ())
  else
   ur6 (.p116 l0 (0 : Int))
 | .p116 l0 i4 =>
  if (decide (i4 < (List.length l0 : Int))) = true then
   (idx l0 i4) >>= fun t1 =>
   (span (List.length l0) (0 : Int) i4) >>= fun t2 =>
   (ud9 (.start t1.Name t1.Params t1.Constructors (cut l0 t2))) >>= fun t3 =>
   if (t3.1.1 != (0 : Int)) = true then
    some ((i4, (t3.1.1, ())), ())
   else
    ur6 (.p116 l0 (IntKind.wrap .i64 (i4 + (1 : Int))))
  else
   some (((0 : Int), ((0 : Int), ())), ())
 partial_fixpoint
def xm9 : List (Plc E xq5) := [⟨116, [false, false, true, false, true, true], { slots := [0, 4], rows := [], flat := [], keep := 0 }, _, _, (.cons (Rd.sl 103 false) (.cons (Rd.int .i64) .nil)), .nil, fun a b => .p116 a.1 a.2.1⟩]
theorem wT0 : All (ub8 27 0 vb6 xe2) xm9 := ⟨⟨rfl, rfl, fun _ _ => rfl, fun _ _ => rfl⟩, trivial⟩
def vw1 : Code := Tryz.f24.body.getD .skip
def ws8 : Spec E.S := (Con.add w28 ub0)
theorem wa7 : ua9 E ws8 := (Con.add_ok wE7 ua7)
theorem xA8 : ∀ pt r, ur6 pt = some r → Good E Tryz.f24 vw1 0 (uQ5.av r) (uQ5.bx r) (vb6 pt) (xe2 pt) := by
 refine ur6.partial_correctness (fun pt r => Good E Tryz.f24 vw1 0 (uQ5.av r) (uQ5.bx r) (vb6 pt) (xe2 pt)) ?_
 intro run' ih pt r hr
 cases pt <;> exact ua8 (spec := ws8) (wr := (mkWr [] [])) (l := xm9) (z := 27) (p := uQ5) E_ok wT0.mem rfl wa7 ih (Eq.trans (by kernel_rfl) hr)
def w29 : Con E := ⟨24, _, _, (.cons (Rw.sl 103) .nil), .nil, 0, x08, fun a b => ur6 (.start a.1), uQ5.av, uQ5.bx⟩
theorem wE8 : w29.Ok := fun a b r h => ub3 (fn := Tryz.f24) (code := vw1) E_ok (by kernel_rfl) (by kernel_rfl) (by kernel_rfl) (Nat.le_of_ble_eq_true rfl) (xA8 (.start a.1) r h)
inductive xq6 where
 | start (l0 : (List ua2))
def vL6 : xq6 → List Bool
 | .start .. => []
def xL2 : xq6 → St E.S
 | .start l0 => st0 11 [.sl 103 l0 false] []
abbrev x09 : Type := ((Int × Unit) × Unit)
def vf2 : Res E (Int × Unit) Unit := { rows := [], flat := [], keep := 0, done := [0], rl := (.cons (Rd.int .i64) .nil), rb := .nil }
def vB1 : xq6 → Option x09
 | .start l0 =>
  (ur6 (.start l0)) >>= fun t1 =>
  some ((t1.1.2.1, ()), ())
def xn0 : List (Plc E xq6) := []
theorem wT1 : All (ub8 11 0 vL6 xL2) xn0 := trivial
def wh7 : Code := Tryz.f62.body.getD .skip
def ws9 : Spec E.S := (Con.add w29 ub0)
theorem wa8 : ua9 E ws9 := (Con.add_ok wE8 ua7)
theorem xA9 : ∀ pt r, vB1 pt = some r → Good E Tryz.f62 wh7 0 (vf2.av r) (vf2.bx r) (vL6 pt) (xL2 pt) := by
 intro pt r hr
 cases pt <;> exact ua8 (spec := ws9) (wr := (mkWr [] [])) (l := xn0) (z := 11) (p := vf2) (run' := fun _ => none) E_ok wT1.mem rfl wa8 (fun _ _ h => by cases h) (Eq.trans (by kernel_rfl) hr)
def w30 : Con E := ⟨62, _, _, (.cons (Rw.sl 103) .nil), .nil, 0, x09, fun a b => vB1 (.start a.1), vf2.av, vf2.bx⟩
theorem wE9 : w30.Ok := fun a b r h => ub3 (fn := Tryz.f62) (code := wh7) E_ok (by kernel_rfl) (by kernel_rfl) (by kernel_rfl) (Nat.le_of_ble_eq_true rfl) (xA9 (.start a.1) r h)
inductive xq7 where
 | start (t0_0 : Int) (t0_1 : Int) (t0_2 : ByteArray) (t0_3 : (List ua0))
def vL7 : xq7 → List Bool
 | .start .. => []
def xL3 : xq7 → St E.S
 | .start t0_0 t0_1 t0_2 t0_3 => st0 11 [.agg [.v (.int .i64 t0_0), .v (.int .i64 t0_1), .v (.string t0_2), .sl 25 t0_3 false]] []
abbrev x10 : Type := ((Bool × Unit) × Unit)
def vf3 : Res E (Bool × Unit) Unit := { rows := [], flat := [], keep := 0, done := [0], rl := (.cons Rd.bool .nil), rb := .nil }
def uD8 : xq7 → Option x10
 | .start t0_0 t0_1 t0_2 t0_3 =>
  if (t0_0 == (1 : Int)) = true then
   some ((seq t0_2 (⟨#[66, 105, 116]⟩ : ByteArray), ()), ())
  else
   some ((false, ()), ())
def xn1 : List (Plc E xq7) := []
theorem wT2 : All (ub8 11 0 vL7 xL3) xn1 := trivial
def wh8 : Code := Tryz.f27.body.getD .skip
def wt0 : Spec E.S := ub0
theorem wa9 : ua9 E wt0 := ua7
theorem xB0 : ∀ pt r, uD8 pt = some r → Good E Tryz.f27 wh8 0 (vf3.av r) (vf3.bx r) (vL7 pt) (xL3 pt) := by
 intro pt r hr
 cases pt <;> exact ua8 (spec := wt0) (wr := (mkWr [] [])) (l := xn1) (z := 11) (p := vf3) (run' := fun _ => none) E_ok wT2.mem rfl wa9 (fun _ _ h => by cases h) (Eq.trans (by kernel_rfl) hr)
def vx1 : Con E := ⟨27, _, _, (.cons (Rw.agg (.cons (Rd.int .i64).w (.cons (Rd.int .i64).w (.cons Rd.str.w (.cons (Rw.sl 25) .nil))))) .nil), .nil, 0, x10, fun a b => uD8 (.start a.1.1 a.1.2.1 a.1.2.2.1 a.1.2.2.2.1), vf3.av, vf3.bx⟩
theorem uX6 : vx1.Ok := fun a b r h => ub3 (fn := Tryz.f27) (code := wh8) E_ok (by kernel_rfl) (by kernel_rfl) (by kernel_rfl) (Nat.le_of_ble_eq_true rfl) (xB0 (.start a.1.1 a.1.2.1 a.1.2.2.1 a.1.2.2.2.1) r h)
inductive xq8 where
 | start (n0 : Int)
def vL8 : xq8 → List Bool
 | .start .. => []
def xL4 : xq8 → St E.S
 | .start n0 => st0 5 [.v (.int .i64 n0)] []
abbrev x11 : Type := ((Bool × Unit) × Unit)
def vf4 : Res E (Bool × Unit) Unit := { rows := [], flat := [], keep := 0, done := [0], rl := (.cons Rd.bool .nil), rb := .nil }
def uR2 : xq8 → Option x11
 | .start n0 =>
  (uy5 (.start n0 (1 : Int) (16 : Int))) >>= fun t1 =>
  some ((t1.1.1, ()), ())
def xn2 : List (Plc E xq8) := []
theorem wT3 : All (ub8 5 0 vL8 xL4) xn2 := trivial
def wh9 : Code := Tryz.f44.body.getD .skip
def wt1 : Spec E.S := (Con.add vx0 ub0)
theorem wb0 : ua9 E wt1 := (Con.add_ok uX5 ua7)
theorem xB1 : ∀ pt r, uR2 pt = some r → Good E Tryz.f44 wh9 0 (vf4.av r) (vf4.bx r) (vL8 pt) (xL4 pt) := by
 intro pt r hr
 cases pt <;> exact ua8 (spec := wt1) (wr := (mkWr [] [])) (l := xn2) (z := 5) (p := vf4) (run' := fun _ => none) E_ok wT3.mem rfl wb0 (fun _ _ h => by cases h) (Eq.trans (by kernel_rfl) hr)
def vx2 : Con E := ⟨44, _, _, (.cons (Rd.int .i64).w .nil), .nil, 0, x11, fun a b => uR2 (.start a.1), vf4.av, vf4.bx⟩
theorem uX7 : vx2.Ok := fun a b r h => ub3 (fn := Tryz.f44) (code := wh9) E_ok (by kernel_rfl) (by kernel_rfl) (by kernel_rfl) (Nat.le_of_ble_eq_true rfl) (xB1 (.start a.1) r h)
inductive vC6 where
 | start (t0_0 : Int) (t0_1 : Int) (t0_2 : ByteArray) (t0_3 : (List ua0))
 | p244 (i4 : Int) (C0 : Int) (C1 : Int) (C2 : ByteArray) (C3 : (List ua0)) (D0 : Int) (D1 : Int) (D2 : ByteArray) (G0 : Int) (G1 : Int) (G2 : ByteArray) (B3 : (List ua0))
def uG9 : vC6 → List Bool
 | .start .. => []
 | .p244 .. => [false, false, true, false, true, true, true]
def vQ3 : vC6 → St E.S
 | .start t0_0 t0_1 t0_2 t0_3 => st0 26 [.agg [.v (.int .i64 t0_0), .v (.int .i64 t0_1), .v (.string t0_2), .sl 25 t0_3 false]] []
 | .p244 i4 C0 C1 C2 C3 D0 D1 D2 G0 G1 G2 B3 => mkSt 26 [1, 2, 3, 4] [.bp 0 0, .bp 1 0, .bp 2 0, .v (.int .i64 i4)] [.var 25 [.v (.int .i64 C0), .v (.int .i64 C1), .v (.string C2), .sl 25 C3 false], .var 25 [.v (.int .i64 D0), .v (.int .i64 D1), .v (.string D2), .nl], .var 25 [.v (.int .i64 G0), .v (.int .i64 G1), .v (.string G2), .rw 3], .row 25 B3 false]
abbrev vR2 : Type := (((Int × (Int × (ByteArray × ((List ua0) × Unit)))) × Unit) × Unit)
def up3 : Res E ((Int × (Int × (ByteArray × ((List ua0) × Unit)))) × Unit) Unit := { rows := [], flat := [], keep := 0, deep := [(false, 0, 3, 25)], done := [0], rl := (.cons (Rd.agg (.cons (Rd.int .i64) (.cons (Rd.int .i64) (.cons Rd.str (.cons (Rd.sl 25 false) .nil))))) .nil), rb := .nil }
def un7 : vC6 → Option vR2
 | .start t0_0 t0_1 t0_2 t0_3 =>
  un7 (.p244 (0 : Int) t0_0 t0_1 t0_2 t0_3 (0 : Int) (0 : Int) (⟨#[]⟩ : ByteArray) t0_0 t0_1 t0_2 ([] : List ua0))
 | .p244 i4 C0 C1 C2 C3 D0 D1 D2 G0 G1 G2 B3 =>
  if (decide (i4 < (List.length C3 : Int))) = true then
   (idx C3 i4) >>= fun t1 =>
   (un7 (.start t1.Kind t1.Value t1.Name t1.Parts)) >>= fun t2 =>
   if (fits (List.length B3) (List.length ([(⟨t2.1.1.1, t2.1.1.2.1, t2.1.1.2.2.1, t2.1.1.2.2.2.1⟩ : ua0)] : List ua0)) 56) = true then
    un7 (.p244 (IntKind.wrap .i64 (i4 + (1 : Int))) C0 C1 C2 C3 D0 D1 D2 G0 G1 G2 (B3 ++ ([(⟨t2.1.1.1, t2.1.1.2.1, t2.1.1.2.2.1, t2.1.1.2.2.2.1⟩ : ua0)] : List ua0)))
   else none
  else
   some (((G0, (G1, (G2, (B3, ())))), ()), ())
 partial_fixpoint
def xn3 : List (Plc E vC6) := [⟨244, [false, false, true, false, true, true, true], { slots := [1, 2, 3, 4], rows := [], flat := [], keep := 0, up := [(true, 3, 3, 25)] }, _, _, (.cons (Rd.bp 0 0) (.cons (Rd.bp 1 0) (.cons (Rd.bp 2 0) (.cons (Rd.int .i64) .nil)))), (.cons (.var 25 (.cons (Rd.int .i64) (.cons (Rd.int .i64) (.cons Rd.str (.cons (Rd.sl 25 false) .nil))))) (.cons (.var 25 (.cons (Rd.int .i64) (.cons (Rd.int .i64) (.cons Rd.str (.cons Rd.nl .nil))))) (.cons (.var 25 (.cons (Rd.int .i64) (.cons (Rd.int .i64) (.cons Rd.str (.cons (Rd.rw 3) .nil))))) (.cons (.row 25 false) .nil)))), fun a b => .p244 a.2.2.2.1 b.1.1 b.1.2.1 b.1.2.2.1 b.1.2.2.2.1 b.2.1.1 b.2.1.2.1 b.2.1.2.2.1 b.2.2.1.1 b.2.2.1.2.1 b.2.2.1.2.2.1 b.2.2.2.1⟩]
theorem wT4 : All (ub8 26 0 uG9 vQ3) xn3 := ⟨⟨rfl, rfl, fun _ _ => rfl, fun _ _ => rfl⟩, trivial⟩
def uJ9 : Code := Tryz.f107.body.getD .skip
def w90 (run' : vC6 → Option vR2) : Con E := ⟨107, ((Int × (Int × (ByteArray × ((List ua0) × Unit)))) × Unit), Unit, (RwL.cons (Rw.agg (RwL.cons (Rd.int .i64).w (RwL.cons (Rd.int .i64).w (RwL.cons Rd.str.w (RwL.cons (Rw.sl 25) RwL.nil))))) RwL.nil), RdBL.nil, 0, vR2, fun a b => run' (.start a.1.1 a.1.2.1 a.1.2.2.1 a.1.2.2.2.1), up3.av, up3.bx⟩
theorem wJ2 {run' : vC6 → Option vR2} (ih : ∀ pt r, run' pt = some r → Good E Tryz.f107 uJ9 0 (up3.av r) (up3.bx r) (uG9 pt) (vQ3 pt)) : (w90 run').Ok := fun a b r h => ub3 (fn := Tryz.f107) (code := uJ9) E_ok (by kernel_rfl) (by kernel_rfl) (by kernel_rfl) (Nat.le_of_ble_eq_true rfl) (ih (.start a.1.1 a.1.2.1 a.1.2.2.1 a.1.2.2.2.1) r h)
def wt2 (run' : vC6 → Option vR2) : Spec E.S := (Con.add (w90 run') ub0)
theorem wb1 {run' : vC6 → Option vR2} (ih : ∀ pt r, run' pt = some r → Good E Tryz.f107 uJ9 0 (up3.av r) (up3.bx r) (uG9 pt) (vQ3 pt)) : ua9 E (wt2 run') := (Con.add_ok (wJ2 ih) ua7)
theorem xB2 : ∀ pt r, un7 pt = some r → Good E Tryz.f107 uJ9 0 (up3.av r) (up3.bx r) (uG9 pt) (vQ3 pt) := by
 refine un7.partial_correctness (fun pt r => Good E Tryz.f107 uJ9 0 (up3.av r) (up3.bx r) (uG9 pt) (vQ3 pt)) ?_
 intro run' ih pt r hr
 cases pt <;> exact ua8 (spec := (wt2 run')) (wr := (mkWr [] [])) (l := xn3) (z := 26) (p := up3) E_ok wT4.mem rfl (wb1 ih) ih (Eq.trans (by kernel_rfl) hr)
def vU1 : Con E := ⟨107, _, _, (.cons (Rw.agg (.cons (Rd.int .i64).w (.cons (Rd.int .i64).w (.cons Rd.str.w (.cons (Rw.sl 25) .nil))))) .nil), .nil, 0, vR2, fun a b => un7 (.start a.1.1 a.1.2.1 a.1.2.2.1 a.1.2.2.2.1), up3.av, up3.bx⟩
theorem vo8 : vU1.Ok := fun a b r h => ub3 (fn := Tryz.f107) (code := uJ9) E_ok (by kernel_rfl) (by kernel_rfl) (by kernel_rfl) (Nat.le_of_ble_eq_true rfl) (xB2 (.start a.1.1 a.1.2.1 a.1.2.2.1 a.1.2.2.2.1) r h)
inductive vC7 where
 | start (t0_0 : Int) (t0_1 : Int) (t0_2 : ByteArray) (t0_3 : (List ua0)) (params1 : (List ByteArray)) (args2 : (List ua0))
 | p7 (params1 : (List ByteArray)) (args2 : (List ua0)) (C0 : Int) (C1 : Int) (C2 : ByteArray) (C3 : (List ua0)) (D0 : Int) (D1 : Int) (D2 : ByteArray)
 | p212 (params1 : (List ByteArray)) (args2 : (List ua0)) (i7 : Int) (C0 : Int) (C1 : Int) (C2 : ByteArray) (C3 : (List ua0)) (D0 : Int) (D1 : Int) (D2 : ByteArray)
 | p500 (params1 : (List ByteArray)) (args2 : (List ua0)) (i9 : Int) (C0 : Int) (C1 : Int) (C2 : ByteArray) (C3 : (List ua0)) (D0 : Int) (D1 : Int) (D2 : ByteArray) (G0 : Int) (G1 : Int) (G2 : ByteArray) (B3 : (List ua0))
def uH0 : vC7 → List Bool
 | .start .. => []
 | .p7 .. => [true, true]
 | .p212 .. => [false, false, true, false, true, false, true]
 | .p500 .. => [false, false, true, false, true, true, true, true]
def vQ4 : vC7 → St E.S
 | .start t0_0 t0_1 t0_2 t0_3 params1 args2 => st0 54 [.agg [.v (.int .i64 t0_0), .v (.int .i64 t0_1), .v (.string t0_2), .sl 25 t0_3 false], .sl 9 params1 false, .sl 25 args2 false] []
 | .p7 params1 args2 C0 C1 C2 C3 D0 D1 D2 => mkSt 54 [1, 2, 3, 6] [.sl 9 params1 false, .sl 25 args2 false, .bp 0 0, .bp 1 0] [.var 25 [.v (.int .i64 C0), .v (.int .i64 C1), .v (.string C2), .sl 25 C3 false], .var 25 [.v (.int .i64 D0), .v (.int .i64 D1), .v (.string D2), .nl]]
 | .p212 params1 args2 i7 C0 C1 C2 C3 D0 D1 D2 => mkSt 54 [1, 2, 3, 6, 7] [.sl 9 params1 false, .sl 25 args2 false, .bp 0 0, .bp 1 0, .v (.int .i64 i7)] [.var 25 [.v (.int .i64 C0), .v (.int .i64 C1), .v (.string C2), .sl 25 C3 false], .var 25 [.v (.int .i64 D0), .v (.int .i64 D1), .v (.string D2), .nl]]
 | .p500 params1 args2 i9 C0 C1 C2 C3 D0 D1 D2 G0 G1 G2 B3 => mkSt 54 [1, 2, 3, 6, 8, 9] [.sl 9 params1 false, .sl 25 args2 false, .bp 0 0, .bp 1 0, .bp 2 0, .v (.int .i64 i9)] [.var 25 [.v (.int .i64 C0), .v (.int .i64 C1), .v (.string C2), .sl 25 C3 false], .var 25 [.v (.int .i64 D0), .v (.int .i64 D1), .v (.string D2), .nl], .var 25 [.v (.int .i64 G0), .v (.int .i64 G1), .v (.string G2), .rw 3], .row 25 B3 false]
abbrev vR3 : Type := (((Int × (Int × (ByteArray × ((List ua0) × Unit)))) × Unit) × Unit)
def up4 : Res E ((Int × (Int × (ByteArray × ((List ua0) × Unit)))) × Unit) Unit := { rows := [], flat := [], keep := 0, deep := [(false, 0, 3, 25)], done := [0], rl := (.cons (Rd.agg (.cons (Rd.int .i64) (.cons (Rd.int .i64) (.cons Rd.str (.cons (Rd.sl 25 false) .nil))))) .nil), rb := .nil }
def uf5 : vC7 → Option vR3
 | .start t0_0 t0_1 t0_2 t0_3 params1 args2 =>
  if (t0_0 == (0 : Int)) = true then
   uf5 (.p212 params1 args2 (0 : Int) t0_0 t0_1 t0_2 t0_3 (0 : Int) (0 : Int) (⟨#[]⟩ : ByteArray))
  else
   uf5 (.p7 params1 args2 t0_0 t0_1 t0_2 t0_3 (0 : Int) (0 : Int) (⟨#[]⟩ : ByteArray))
 | .p7 params1 args2 C0 C1 C2 C3 D0 D1 D2 =>
  uf5 (.p500 params1 args2 (0 : Int) C0 C1 C2 C3 D0 D1 D2 C0 C1 C2 ([] : List ua0))
 | .p212 params1 args2 i7 C0 C1 C2 C3 D0 D1 D2 =>
  if (decide (i7 < (List.length params1 : Int))) = true then
   (idx params1 i7) >>= fun t1 =>
   if (seq t1 C2) = true then
    (idx args2 i7) >>= fun t2 =>
    (un7 (.start t2.Kind t2.Value t2.Name t2.Parts)) >>= fun t3 =>
    some (((t3.1.1.1, (t3.1.1.2.1, (t3.1.1.2.2.1, (t3.1.1.2.2.2.1, ())))), ()), ())
   else
    uf5 (.p212 params1 args2 (IntKind.wrap .i64 (i7 + (1 : Int))) C0 C1 C2 C3 D0 D1 D2)
  else
   uf5 (.p7 params1 args2 C0 C1 C2 C3 D0 D1 D2)
 | .p500 params1 args2 i9 C0 C1 C2 C3 D0 D1 D2 G0 G1 G2 B3 =>
  if (decide (i9 < (List.length C3 : Int))) = true then
   (idx C3 i9) >>= fun t1 =>
   (uf5 (.start t1.Kind t1.Value t1.Name t1.Parts params1 args2)) >>= fun t2 =>
   if (fits (List.length B3) (List.length ([(⟨t2.1.1.1, t2.1.1.2.1, t2.1.1.2.2.1, t2.1.1.2.2.2.1⟩ : ua0)] : List ua0)) 56) = true then
    uf5 (.p500 params1 args2 (IntKind.wrap .i64 (i9 + (1 : Int))) C0 C1 C2 C3 D0 D1 D2 G0 G1 G2 (B3 ++ ([(⟨t2.1.1.1, t2.1.1.2.1, t2.1.1.2.2.1, t2.1.1.2.2.2.1⟩ : ua0)] : List ua0)))
   else none
  else
   some (((G0, (G1, (G2, (B3, ())))), ()), ())
 partial_fixpoint
def xn4 : List (Plc E vC7) := [⟨7, [true, true], { slots := [1, 2, 3, 6], rows := [], flat := [], keep := 0 }, _, _, (.cons (Rd.sl 9 false) (.cons (Rd.sl 25 false) (.cons (Rd.bp 0 0) (.cons (Rd.bp 1 0) .nil)))), (.cons (.var 25 (.cons (Rd.int .i64) (.cons (Rd.int .i64) (.cons Rd.str (.cons (Rd.sl 25 false) .nil))))) (.cons (.var 25 (.cons (Rd.int .i64) (.cons (Rd.int .i64) (.cons Rd.str (.cons Rd.nl .nil))))) .nil)), fun a b => .p7 a.1 a.2.1 b.1.1 b.1.2.1 b.1.2.2.1 b.1.2.2.2.1 b.2.1.1 b.2.1.2.1 b.2.1.2.2.1⟩,
 ⟨212, [false, false, true, false, true, false, true], { slots := [1, 2, 3, 6, 7], rows := [], flat := [], keep := 0 }, _, _, (.cons (Rd.sl 9 false) (.cons (Rd.sl 25 false) (.cons (Rd.bp 0 0) (.cons (Rd.bp 1 0) (.cons (Rd.int .i64) .nil))))), (.cons (.var 25 (.cons (Rd.int .i64) (.cons (Rd.int .i64) (.cons Rd.str (.cons (Rd.sl 25 false) .nil))))) (.cons (.var 25 (.cons (Rd.int .i64) (.cons (Rd.int .i64) (.cons Rd.str (.cons Rd.nl .nil))))) .nil)), fun a b => .p212 a.1 a.2.1 a.2.2.2.2.1 b.1.1 b.1.2.1 b.1.2.2.1 b.1.2.2.2.1 b.2.1.1 b.2.1.2.1 b.2.1.2.2.1⟩,
 ⟨500, [false, false, true, false, true, true, true, true], { slots := [1, 2, 3, 6, 8, 9], rows := [], flat := [], keep := 0, up := [(true, 8, 3, 25)] }, _, _, (.cons (Rd.sl 9 false) (.cons (Rd.sl 25 false) (.cons (Rd.bp 0 0) (.cons (Rd.bp 1 0) (.cons (Rd.bp 2 0) (.cons (Rd.int .i64) .nil)))))), (.cons (.var 25 (.cons (Rd.int .i64) (.cons (Rd.int .i64) (.cons Rd.str (.cons (Rd.sl 25 false) .nil))))) (.cons (.var 25 (.cons (Rd.int .i64) (.cons (Rd.int .i64) (.cons Rd.str (.cons Rd.nl .nil))))) (.cons (.var 25 (.cons (Rd.int .i64) (.cons (Rd.int .i64) (.cons Rd.str (.cons (Rd.rw 3) .nil))))) (.cons (.row 25 false) .nil)))), fun a b => .p500 a.1 a.2.1 a.2.2.2.2.2.1 b.1.1 b.1.2.1 b.1.2.2.1 b.1.2.2.2.1 b.2.1.1 b.2.1.2.1 b.2.1.2.2.1 b.2.2.1.1 b.2.2.1.2.1 b.2.2.1.2.2.1 b.2.2.2.1⟩]
theorem wT5 : All (ub8 54 0 uH0 vQ4) xn4 := ⟨⟨rfl, rfl, fun _ _ => rfl, fun _ _ => rfl⟩, ⟨⟨rfl, rfl, fun _ _ => rfl, fun _ _ => rfl⟩, ⟨⟨rfl, rfl, fun _ _ => rfl, fun _ _ => rfl⟩, trivial⟩⟩⟩
def uK0 : Code := Tryz.f82.body.getD .skip
def w91 (run' : vC7 → Option vR3) : Con E := ⟨82, ((Int × (Int × (ByteArray × ((List ua0) × Unit)))) × ((List ByteArray) × ((List ua0) × Unit))), Unit, (RwL.cons (Rw.agg (RwL.cons (Rd.int .i64).w (RwL.cons (Rd.int .i64).w (RwL.cons Rd.str.w (RwL.cons (Rw.sl 25) RwL.nil))))) (RwL.cons (Rw.sl 9) (RwL.cons (Rw.sl 25) RwL.nil))), RdBL.nil, 0, vR3, fun a b => run' (.start a.1.1 a.1.2.1 a.1.2.2.1 a.1.2.2.2.1 a.2.1 a.2.2.1), up4.av, up4.bx⟩
theorem wJ3 {run' : vC7 → Option vR3} (ih : ∀ pt r, run' pt = some r → Good E Tryz.f82 uK0 0 (up4.av r) (up4.bx r) (uH0 pt) (vQ4 pt)) : (w91 run').Ok := fun a b r h => ub3 (fn := Tryz.f82) (code := uK0) E_ok (by kernel_rfl) (by kernel_rfl) (by kernel_rfl) (Nat.le_of_ble_eq_true rfl) (ih (.start a.1.1 a.1.2.1 a.1.2.2.1 a.1.2.2.2.1 a.2.1 a.2.2.1) r h)
def wt3 (run' : vC7 → Option vR3) : Spec E.S := (Con.add (w91 run') (Con.add vU1 ub0))
theorem wb2 {run' : vC7 → Option vR3} (ih : ∀ pt r, run' pt = some r → Good E Tryz.f82 uK0 0 (up4.av r) (up4.bx r) (uH0 pt) (vQ4 pt)) : ua9 E (wt3 run') := (Con.add_ok (wJ3 ih) (Con.add_ok vo8 ua7))
theorem xB3 : ∀ pt r, uf5 pt = some r → Good E Tryz.f82 uK0 0 (up4.av r) (up4.bx r) (uH0 pt) (vQ4 pt) := by
 refine uf5.partial_correctness (fun pt r => Good E Tryz.f82 uK0 0 (up4.av r) (up4.bx r) (uH0 pt) (vQ4 pt)) ?_
 intro run' ih pt r hr
 cases pt <;> exact ua8 (spec := (wt3 run')) (wr := (mkWr [] [])) (l := xn4) (z := 54) (p := up4) E_ok wT5.mem rfl (wb2 ih) ih (Eq.trans (by kernel_rfl) hr)
def w31 : Con E := ⟨82, _, _, (.cons (Rw.agg (.cons (Rd.int .i64).w (.cons (Rd.int .i64).w (.cons Rd.str.w (.cons (Rw.sl 25) .nil))))) (.cons (Rw.sl 9) (.cons (Rw.sl 25) .nil))), .nil, 0, vR3, fun a b => uf5 (.start a.1.1 a.1.2.1 a.1.2.2.1 a.1.2.2.2.1 a.2.1 a.2.2.1), up4.av, up4.bx⟩
theorem wF0 : w31.Ok := fun a b r h => ub3 (fn := Tryz.f82) (code := uK0) E_ok (by kernel_rfl) (by kernel_rfl) (by kernel_rfl) (Nat.le_of_ble_eq_true rfl) (xB3 (.start a.1.1 a.1.2.1 a.1.2.2.1 a.1.2.2.2.1 a.2.1 a.2.2.1) r h)
inductive xq9 where
 | start (l0 : (List ua2)) (t1_0 : Int) (t1_1 : Int) (t1_2 : ByteArray) (t1_3 : (List ua0))
 | p500 (i7 : Int) (C0 : Int) (C1 : Int) (C2 : ByteArray) (C3 : (List ua0)) (D0 : ByteArray) (D1 : (List ByteArray)) (D2 : (List ua1)) (B2 : (List ua1))
 | p128148 (i7 : Int) (k9 : Int) (C0 : Int) (C1 : Int) (C2 : ByteArray) (C3 : (List ua0)) (D0 : ByteArray) (D1 : (List ByteArray)) (D2 : (List ua1)) (B2 : (List ua1)) (B3 : ByteArray) (B4 : (List ua6))
def vb7 : xq9 → List Bool
 | .start .. => []
 | .p500 .. => [false, false, true, false, true, true, true, true]
 | .p128148 .. => [false, false, true, false, true, false, false, true, false, false, true, false, true, true, true, true]
def xe3 : xq9 → St E.S
 | .start l0 t1_0 t1_1 t1_2 t1_3 => st0 78 [.sl 103 l0 false, .agg [.v (.int .i64 t1_0), .v (.int .i64 t1_1), .v (.string t1_2), .sl 25 t1_3 false]] []
 | .p500 i7 C0 C1 C2 C3 D0 D1 D2 B2 => mkSt 78 [3, 5, 6, 7] [.bp 0 0, .bp 1 0, .rw 2, .v (.int .i64 i7)] [.var 25 [.v (.int .i64 C0), .v (.int .i64 C1), .v (.string C2), .sl 25 C3 false], .var 103 [.v (.string D0), .sl 9 D1 false, .sl 56 D2 false], .row 56 B2 false]
 | .p128148 i7 k9 C0 C1 C2 C3 D0 D1 D2 B2 B3 B4 => mkSt 78 [3, 5, 6, 7, 8, 9] [.bp 0 0, .bp 1 0, .rw 2, .v (.int .i64 i7), .bp 3 0, .v (.int .i64 k9)] [.var 25 [.v (.int .i64 C0), .v (.int .i64 C1), .v (.string C2), .sl 25 C3 false], .var 103 [.v (.string D0), .sl 9 D1 false, .sl 56 D2 false], .row 56 B2 false, .var 56 [.v (.string B3), .rw 4], .row 58 B4 false]
abbrev x12 : Type := (((List ua1) × Unit) × Unit)
def uQ6 : Res E ((List ua1) × Unit) Unit := { rows := [], flat := [(0, 56)], keep := 0, done := [0], rl := (.cons (Rd.sl 56 false) .nil), rb := .nil }
def ug2 : xq9 → Option x12
 | .start l0 t1_0 t1_1 t1_2 t1_3 =>
  if (seq t1_2 (⟨#[66, 111, 111, 108]⟩ : ByteArray)) = true then
   some ((([(⟨(⟨#[70, 97, 108, 115, 101]⟩ : ByteArray), []⟩ : ua1), (⟨(⟨#[84, 114, 117, 101]⟩ : ByteArray), []⟩ : ua1)] : List ua1), ()), ())
  else
   (un6 (.start l0 t1_2)) >>= fun t1 =>
   (idx l0 t1.1.1) >>= fun t2 =>
   ug2 (.p500 (0 : Int) t1_0 t1_1 t1_2 t1_3 t2.Name t2.Params t2.Constructors ([] : List ua1))
 | .p500 i7 C0 C1 C2 C3 D0 D1 D2 B2 =>
  if (decide (i7 < (List.length D2 : Int))) = true then
   (idx D2 i7) >>= fun t1 =>
   ug2 (.p128148 i7 (0 : Int) C0 C1 C2 C3 D0 D1 D2 B2 t1.Name ([] : List ua6))
  else
   some ((B2, ()), ())
 | .p128148 i7 k9 C0 C1 C2 C3 D0 D1 D2 B2 B3 B4 =>
  (idx D2 i7) >>= fun t1 =>
  if (decide (k9 < (List.length t1.Fields : Int))) = true then
   (idx D2 i7) >>= fun t2 =>
   (idx t2.Fields k9) >>= fun t3 =>
   (uf5 (.start t3.Type_.Kind t3.Type_.Value t3.Type_.Name t3.Type_.Parts D1 C3)) >>= fun t4 =>
   if (fits (List.length B4) (List.length ([(⟨t3.Name, (⟨t4.1.1.1, t4.1.1.2.1, t4.1.1.2.2.1, t4.1.1.2.2.2.1⟩ : ua0)⟩ : ua6)] : List ua6)) 72) = true then
    ug2 (.p128148 i7 (IntKind.wrap .i64 (k9 + (1 : Int))) C0 C1 C2 C3 D0 D1 D2 B2 B3 (B4 ++ ([(⟨t3.Name, (⟨t4.1.1.1, t4.1.1.2.1, t4.1.1.2.2.1, t4.1.1.2.2.2.1⟩ : ua0)⟩ : ua6)] : List ua6)))
   else none
  else
   if (fits (List.length B2) (List.length ([(⟨B3, B4⟩ : ua1)] : List ua1)) 40) = true then
    ug2 (.p500 (IntKind.wrap .i64 (i7 + (1 : Int))) C0 C1 C2 C3 D0 D1 D2 (B2 ++ ([(⟨B3, B4⟩ : ua1)] : List ua1)))
   else none
 partial_fixpoint
def xn5 : List (Plc E xq9) := [⟨500, [false, false, true, false, true, true, true, true], { slots := [3, 5, 6, 7], rows := [(6, 56)], flat := [], keep := 0 }, _, _, (.cons (Rd.bp 0 0) (.cons (Rd.bp 1 0) (.cons (Rd.rw 2) (.cons (Rd.int .i64) .nil)))), (.cons (.var 25 (.cons (Rd.int .i64) (.cons (Rd.int .i64) (.cons Rd.str (.cons (Rd.sl 25 false) .nil))))) (.cons (.var 103 (.cons Rd.str (.cons (Rd.sl 9 false) (.cons (Rd.sl 56 false) .nil)))) (.cons (.row 56 false) .nil))), fun a b => .p500 a.2.2.2.1 b.1.1 b.1.2.1 b.1.2.2.1 b.1.2.2.2.1 b.2.1.1 b.2.1.2.1 b.2.1.2.2.1 b.2.2.1⟩,
 ⟨128148, [false, false, true, false, true, false, false, true, false, false, true, false, true, true, true, true], { slots := [3, 5, 6, 7, 8, 9], rows := [], flat := [], keep := 0, up := [(true, 8, 1, 58)] }, _, _, (.cons (Rd.bp 0 0) (.cons (Rd.bp 1 0) (.cons (Rd.rw 2) (.cons (Rd.int .i64) (.cons (Rd.bp 3 0) (.cons (Rd.int .i64) .nil)))))), (.cons (.var 25 (.cons (Rd.int .i64) (.cons (Rd.int .i64) (.cons Rd.str (.cons (Rd.sl 25 false) .nil))))) (.cons (.var 103 (.cons Rd.str (.cons (Rd.sl 9 false) (.cons (Rd.sl 56 false) .nil)))) (.cons (.row 56 false) (.cons (.var 56 (.cons Rd.str (.cons (Rd.rw 4) .nil))) (.cons (.row 58 false) .nil))))), fun a b => .p128148 a.2.2.2.1 a.2.2.2.2.2.1 b.1.1 b.1.2.1 b.1.2.2.1 b.1.2.2.2.1 b.2.1.1 b.2.1.2.1 b.2.1.2.2.1 b.2.2.1 b.2.2.2.1.1 b.2.2.2.2.1⟩]
theorem wT6 : All (ub8 78 0 vb7 xe3) xn5 := ⟨⟨rfl, rfl, fun _ _ => rfl, fun _ _ => rfl⟩, ⟨⟨rfl, rfl, fun _ _ => rfl, fun _ _ => rfl⟩, trivial⟩⟩
def vw2 : Code := Tryz.f28.body.getD .skip
def wt4 : Spec E.S := (Con.add w31 (Con.add vw9 ub0))
theorem wb3 : ua9 E wt4 := (Con.add_ok wF0 (Con.add_ok uX4 ua7))
theorem xB4 : ∀ pt r, ug2 pt = some r → Good E Tryz.f28 vw2 0 (uQ6.av r) (uQ6.bx r) (vb7 pt) (xe3 pt) := by
 refine ug2.partial_correctness (fun pt r => Good E Tryz.f28 vw2 0 (uQ6.av r) (uQ6.bx r) (vb7 pt) (xe3 pt)) ?_
 intro run' ih pt r hr
 cases pt <;> exact ua8 (spec := wt4) (wr := (mkWr [] [(16019, [8])])) (l := xn5) (z := 78) (p := uQ6) E_ok wT6.mem rfl wb3 ih (Eq.trans (by kernel_rfl) hr)
def vx3 : Con E := ⟨28, _, _, (.cons (Rw.sl 103) (.cons (Rw.agg (.cons (Rd.int .i64).w (.cons (Rd.int .i64).w (.cons Rd.str.w (.cons (Rw.sl 25) .nil))))) .nil)), .nil, 0, x12, fun a b => ug2 (.start a.1 a.2.1.1 a.2.1.2.1 a.2.1.2.2.1 a.2.1.2.2.2.1), uQ6.av, uQ6.bx⟩
theorem uX8 : vx3.Ok := fun a b r h => ub3 (fn := Tryz.f28) (code := vw2) E_ok (by kernel_rfl) (by kernel_rfl) (by kernel_rfl) (Nat.le_of_ble_eq_true rfl) (xB4 (.start a.1 a.2.1.1 a.2.1.2.1 a.2.1.2.2.1 a.2.1.2.2.2.1) r h)
inductive vC8 where
 | start (l0 : (List ua2)) (t1_0 : Int) (t1_1 : Int) (t1_2 : ByteArray) (t1_3 : (List ua0)) (before2_0 : Int) (before2_1 : Int) (before2_2 : Int)
 | p31 (l0 : (List ua2)) (C0 : Int) (C1 : Int) (C2 : ByteArray) (C3 : (List ua0)) (D0 : Int) (D1 : Int) (D2 : Int) (G0 : Int) (G1 : Int) (G2 : Int)
 | p63 (l0 : (List ua2)) (C0 : Int) (C1 : Int) (C2 : ByteArray) (C3 : (List ua0)) (D0 : Int) (D1 : Int) (D2 : Int) (G0 : Int) (G1 : Int) (G2 : Int)
 | p127 (l0 : (List ua2)) (C0 : Int) (C1 : Int) (C2 : ByteArray) (C3 : (List ua0)) (D0 : Int) (D1 : Int) (D2 : Int) (G0 : Int) (G1 : Int) (G2 : Int)
 | p8180 (l0 : (List ua2)) (all8 : (List ua1)) (i9 : Int) (C0 : Int) (C1 : Int) (C2 : Int) (D0 : Int) (D1 : Int) (D2 : Int)
 | p523556 (l0 : (List ua2)) (all8 : (List ua1)) (i9 : Int) (k10 : Int) (C0 : Int) (C1 : Int) (C2 : Int) (D0 : Int) (D1 : Int) (D2 : Int)
def uH1 : vC8 → List Bool
 | .start .. => []
 | .p31 .. => [true, true, true, true]
 | .p63 .. => [true, true, true, true, true]
 | .p127 .. => [true, true, true, true, true, true]
 | .p8180 .. => [false, false, true, false, true, true, true, true, true, true, true, true]
 | .p523556 .. => [false, false, true, false, false, true, false, false, true, false, true, true, true, true, true, true, true, true]
def vQ5 : vC8 → St E.S
 | .start l0 t1_0 t1_1 t1_2 t1_3 before2_0 before2_1 before2_2 => st0 113 [.sl 103 l0 false, .agg [.v (.int .i64 t1_0), .v (.int .i64 t1_1), .v (.string t1_2), .sl 25 t1_3 false], .agg [.v (.int .i64 before2_0), .v (.int .i64 before2_1), .v (.int .i64 before2_2)]] []
 | .p31 l0 C0 C1 C2 C3 D0 D1 D2 G0 G1 G2 => mkSt 113 [0, 4, 6, 7] [.sl 103 l0 false, .bp 0 0, .bp 1 0, .bp 2 0] [.var 25 [.v (.int .i64 C0), .v (.int .i64 C1), .v (.string C2), .sl 25 C3 false], .var 143 [.v (.int .i64 D0), .v (.int .i64 D1), .v (.int .i64 D2)], .var 143 [.v (.int .i64 G0), .v (.int .i64 G1), .v (.int .i64 G2)]]
 | .p63 l0 C0 C1 C2 C3 D0 D1 D2 G0 G1 G2 => mkSt 113 [0, 4, 6, 7] [.sl 103 l0 false, .bp 0 0, .bp 1 0, .bp 2 0] [.var 25 [.v (.int .i64 C0), .v (.int .i64 C1), .v (.string C2), .sl 25 C3 false], .var 143 [.v (.int .i64 D0), .v (.int .i64 D1), .v (.int .i64 D2)], .var 143 [.v (.int .i64 G0), .v (.int .i64 G1), .v (.int .i64 G2)]]
 | .p127 l0 C0 C1 C2 C3 D0 D1 D2 G0 G1 G2 => mkSt 113 [0, 4, 6, 7] [.sl 103 l0 false, .bp 0 0, .bp 1 0, .bp 2 0] [.var 25 [.v (.int .i64 C0), .v (.int .i64 C1), .v (.string C2), .sl 25 C3 false], .var 143 [.v (.int .i64 D0), .v (.int .i64 D1), .v (.int .i64 D2)], .var 143 [.v (.int .i64 G0), .v (.int .i64 G1), .v (.int .i64 G2)]]
 | .p8180 l0 all8 i9 C0 C1 C2 D0 D1 D2 => mkSt 113 [0, 6, 7, 8, 9] [.sl 103 l0 false, .bp 0 0, .bp 1 0, .sl 56 all8 false, .v (.int .i64 i9)] [.var 143 [.v (.int .i64 C0), .v (.int .i64 C1), .v (.int .i64 C2)], .var 143 [.v (.int .i64 D0), .v (.int .i64 D1), .v (.int .i64 D2)]]
 | .p523556 l0 all8 i9 k10 C0 C1 C2 D0 D1 D2 => mkSt 113 [0, 6, 7, 8, 9, 10] [.sl 103 l0 false, .bp 0 0, .bp 1 0, .sl 56 all8 false, .v (.int .i64 i9), .v (.int .i64 k10)] [.var 143 [.v (.int .i64 C0), .v (.int .i64 C1), .v (.int .i64 C2)], .var 143 [.v (.int .i64 D0), .v (.int .i64 D1), .v (.int .i64 D2)]]
abbrev vR4 : Type := (((Int × (Int × (Int × Unit))) × Unit) × Unit)
def up5 : Res E ((Int × (Int × (Int × Unit))) × Unit) Unit := { rows := [], flat := [], keep := 0, done := [0], rl := (.cons (Rd.agg (.cons (Rd.int .i64) (.cons (Rd.int .i64) (.cons (Rd.int .i64) .nil)))) .nil), rb := .nil }
def uc3 : vC8 → Option vR4
 | .start l0 t1_0 t1_1 t1_2 t1_3 before2_0 before2_1 before2_2 =>
  (uR1 (.start t1_0 t1_1 t1_2 t1_3)) >>= fun t1 =>
  if (!t1.1.1) = true then
   some (((IntKind.wrap .i64 (before2_0 + (1 : Int)), ((8 : Int), (before2_2, ()))), ()), ())
  else
   if (t1_0 == (2 : Int)) = true then
    some (((IntKind.wrap .i64 (before2_0 + (1 : Int)), ((26 : Int), (before2_2, ()))), ()), ())
   else
    (uD8 (.start t1_0 t1_1 t1_2 t1_3)) >>= fun t2 =>
    if t2.1.1 = true then
     (idx t1_3 (0 : Int)) >>= fun t3 =>
     if (t3.Kind != (2 : Int)) = true then
      some (((IntKind.wrap .i64 (before2_0 + (1 : Int)), ((26 : Int), (before2_2, ()))), ()), ())
     else
      uc3 (.p31 l0 t1_0 t1_1 t1_2 t1_3 (0 : Int) (0 : Int) (0 : Int) (IntKind.wrap .i64 (before2_0 + (1 : Int))) (0 : Int) before2_2)
    else
     uc3 (.p31 l0 t1_0 t1_1 t1_2 t1_3 (0 : Int) (0 : Int) (0 : Int) (IntKind.wrap .i64 (before2_0 + (1 : Int))) (0 : Int) before2_2)
 | .p31 l0 C0 C1 C2 C3 D0 D1 D2 G0 G1 G2 =>
  (uD8 (.start C0 C1 C2 C3)) >>= fun t1 =>
  if t1.1.1 = true then
   (idx C3 (0 : Int)) >>= fun t2 =>
   (uR2 (.start t2.Value)) >>= fun t3 =>
   if (!t3.1.1) = true then
    some (((G0, ((25 : Int), (G2, ()))), ()), ())
   else
    uc3 (.p63 l0 C0 C1 C2 C3 D0 D1 D2 G0 G1 G2)
  else
   uc3 (.p63 l0 C0 C1 C2 C3 D0 D1 D2 G0 G1 G2)
 | .p63 l0 C0 C1 C2 C3 D0 D1 D2 G0 G1 G2 =>
  if (decide (G0 > (200 : Int))) = true then
   some (((G0, ((8 : Int), (G2, ()))), ()), ())
  else
   if (decide (G2 ≥ (40 : Int))) = true then
    some (((G0, ((8 : Int), (G2, ()))), ()), ())
   else
    uc3 (.p127 l0 C0 C1 C2 C3 D0 D1 D2 G0 G1 G2)
 | .p127 l0 C0 C1 C2 C3 D0 D1 D2 G0 G1 G2 =>
  (uD8 (.start C0 C1 C2 C3)) >>= fun t1 =>
  if t1.1.1 = true then
   some (((G0, (G1, (G2, ()))), ()), ())
  else
   (ug2 (.start l0 C0 C1 C2 C3)) >>= fun t2 =>
   uc3 (.p8180 l0 t2.1.1 (0 : Int) D0 D1 D2 G0 G1 G2)
 | .p8180 l0 all8 i9 C0 C1 C2 D0 D1 D2 =>
  if (decide (i9 < (List.length all8 : Int))) = true then
   uc3 (.p523556 l0 all8 i9 (0 : Int) C0 C1 C2 D0 D1 D2)
  else
   some (((D0, (D1, (D2, ()))), ()), ())
 | .p523556 l0 all8 i9 k10 C0 C1 C2 D0 D1 D2 =>
  (idx all8 i9) >>= fun t1 =>
  if (decide (k10 < (List.length t1.Fields : Int))) = true then
   (idx all8 i9) >>= fun t2 =>
   (idx t2.Fields k10) >>= fun t3 =>
   (uc3 (.start l0 t3.Type_.Kind t3.Type_.Value t3.Type_.Name t3.Type_.Parts D0 (0 : Int) (IntKind.wrap .i64 (D2 + (1 : Int))))) >>= fun t4 =>
   if (t4.1.1.2.1 != (0 : Int)) = true then
    some (((t4.1.1.1, (t4.1.1.2.1, (D2, ()))), ()), ())
   else
    uc3 (.p523556 l0 all8 i9 (IntKind.wrap .i64 (k10 + (1 : Int))) C0 C1 C2 t4.1.1.1 t4.1.1.2.1 D2)
  else
   uc3 (.p8180 l0 all8 (IntKind.wrap .i64 (i9 + (1 : Int))) C0 C1 C2 D0 D1 D2)
 partial_fixpoint
def xn7 : List (Plc E vC8) := [⟨31, [true, true, true, true], { slots := [0, 4, 6, 7], rows := [], flat := [], keep := 0 }, _, _, (.cons (Rd.sl 103 false) (.cons (Rd.bp 0 0) (.cons (Rd.bp 1 0) (.cons (Rd.bp 2 0) .nil)))), (.cons (.var 25 (.cons (Rd.int .i64) (.cons (Rd.int .i64) (.cons Rd.str (.cons (Rd.sl 25 false) .nil))))) (.cons (.var 143 (.cons (Rd.int .i64) (.cons (Rd.int .i64) (.cons (Rd.int .i64) .nil)))) (.cons (.var 143 (.cons (Rd.int .i64) (.cons (Rd.int .i64) (.cons (Rd.int .i64) .nil)))) .nil))), fun a b => .p31 a.1 b.1.1 b.1.2.1 b.1.2.2.1 b.1.2.2.2.1 b.2.1.1 b.2.1.2.1 b.2.1.2.2.1 b.2.2.1.1 b.2.2.1.2.1 b.2.2.1.2.2.1⟩,
 ⟨63, [true, true, true, true, true], { slots := [0, 4, 6, 7], rows := [], flat := [], keep := 0 }, _, _, (.cons (Rd.sl 103 false) (.cons (Rd.bp 0 0) (.cons (Rd.bp 1 0) (.cons (Rd.bp 2 0) .nil)))), (.cons (.var 25 (.cons (Rd.int .i64) (.cons (Rd.int .i64) (.cons Rd.str (.cons (Rd.sl 25 false) .nil))))) (.cons (.var 143 (.cons (Rd.int .i64) (.cons (Rd.int .i64) (.cons (Rd.int .i64) .nil)))) (.cons (.var 143 (.cons (Rd.int .i64) (.cons (Rd.int .i64) (.cons (Rd.int .i64) .nil)))) .nil))), fun a b => .p63 a.1 b.1.1 b.1.2.1 b.1.2.2.1 b.1.2.2.2.1 b.2.1.1 b.2.1.2.1 b.2.1.2.2.1 b.2.2.1.1 b.2.2.1.2.1 b.2.2.1.2.2.1⟩,
 ⟨127, [true, true, true, true, true, true], { slots := [0, 4, 6, 7], rows := [], flat := [], keep := 0 }, _, _, (.cons (Rd.sl 103 false) (.cons (Rd.bp 0 0) (.cons (Rd.bp 1 0) (.cons (Rd.bp 2 0) .nil)))), (.cons (.var 25 (.cons (Rd.int .i64) (.cons (Rd.int .i64) (.cons Rd.str (.cons (Rd.sl 25 false) .nil))))) (.cons (.var 143 (.cons (Rd.int .i64) (.cons (Rd.int .i64) (.cons (Rd.int .i64) .nil)))) (.cons (.var 143 (.cons (Rd.int .i64) (.cons (Rd.int .i64) (.cons (Rd.int .i64) .nil)))) .nil))), fun a b => .p127 a.1 b.1.1 b.1.2.1 b.1.2.2.1 b.1.2.2.2.1 b.2.1.1 b.2.1.2.1 b.2.1.2.2.1 b.2.2.1.1 b.2.2.1.2.1 b.2.2.1.2.2.1⟩,
 ⟨8180, [false, false, true, false, true, true, true, true, true, true, true, true], { slots := [0, 6, 7, 8, 9], rows := [], flat := [], keep := 0 }, _, _, (.cons (Rd.sl 103 false) (.cons (Rd.bp 0 0) (.cons (Rd.bp 1 0) (.cons (Rd.sl 56 false) (.cons (Rd.int .i64) .nil))))), (.cons (.var 143 (.cons (Rd.int .i64) (.cons (Rd.int .i64) (.cons (Rd.int .i64) .nil)))) (.cons (.var 143 (.cons (Rd.int .i64) (.cons (Rd.int .i64) (.cons (Rd.int .i64) .nil)))) .nil)), fun a b => .p8180 a.1 a.2.2.2.1 a.2.2.2.2.1 b.1.1 b.1.2.1 b.1.2.2.1 b.2.1.1 b.2.1.2.1 b.2.1.2.2.1⟩,
 ⟨523556, [false, false, true, false, false, true, false, false, true, false, true, true, true, true, true, true, true, true], { slots := [0, 6, 7, 8, 9, 10], rows := [], flat := [], keep := 0 }, _, _, (.cons (Rd.sl 103 false) (.cons (Rd.bp 0 0) (.cons (Rd.bp 1 0) (.cons (Rd.sl 56 false) (.cons (Rd.int .i64) (.cons (Rd.int .i64) .nil)))))), (.cons (.var 143 (.cons (Rd.int .i64) (.cons (Rd.int .i64) (.cons (Rd.int .i64) .nil)))) (.cons (.var 143 (.cons (Rd.int .i64) (.cons (Rd.int .i64) (.cons (Rd.int .i64) .nil)))) .nil)), fun a b => .p523556 a.1 a.2.2.2.1 a.2.2.2.2.1 a.2.2.2.2.2.1 b.1.1 b.1.2.1 b.1.2.2.1 b.2.1.1 b.2.1.2.1 b.2.1.2.2.1⟩]
theorem wT7 : All (ub8 113 0 uH1 vQ5) xn7 := ⟨⟨rfl, rfl, fun _ _ => rfl, fun _ _ => rfl⟩, ⟨⟨rfl, rfl, fun _ _ => rfl, fun _ _ => rfl⟩, ⟨⟨rfl, rfl, fun _ _ => rfl, fun _ _ => rfl⟩, ⟨⟨rfl, rfl, fun _ _ => rfl, fun _ _ => rfl⟩, ⟨⟨rfl, rfl, fun _ _ => rfl, fun _ _ => rfl⟩, trivial⟩⟩⟩⟩⟩
def uK1 : Code := Tryz.f104.body.getD .skip
def w92 (run' : vC8 → Option vR4) : Con E := ⟨104, ((List ua2) × ((Int × (Int × (ByteArray × ((List ua0) × Unit)))) × ((Int × (Int × (Int × Unit))) × Unit))), Unit, (RwL.cons (Rw.sl 103) (RwL.cons (Rw.agg (RwL.cons (Rd.int .i64).w (RwL.cons (Rd.int .i64).w (RwL.cons Rd.str.w (RwL.cons (Rw.sl 25) RwL.nil))))) (RwL.cons (Rw.agg (RwL.cons (Rd.int .i64).w (RwL.cons (Rd.int .i64).w (RwL.cons (Rd.int .i64).w RwL.nil)))) RwL.nil))), RdBL.nil, 0, vR4, fun a b => run' (.start a.1 a.2.1.1 a.2.1.2.1 a.2.1.2.2.1 a.2.1.2.2.2.1 a.2.2.1.1 a.2.2.1.2.1 a.2.2.1.2.2.1), up5.av, up5.bx⟩
theorem wJ4 {run' : vC8 → Option vR4} (ih : ∀ pt r, run' pt = some r → Good E Tryz.f104 uK1 0 (up5.av r) (up5.bx r) (uH1 pt) (vQ5 pt)) : (w92 run').Ok := fun a b r h => ub3 (fn := Tryz.f104) (code := uK1) E_ok (by kernel_rfl) (by kernel_rfl) (by kernel_rfl) (Nat.le_of_ble_eq_true rfl) (ih (.start a.1 a.2.1.1 a.2.1.2.1 a.2.1.2.2.1 a.2.1.2.2.2.1 a.2.2.1.1 a.2.2.1.2.1 a.2.2.1.2.2.1) r h)
def wt5 (run' : vC8 → Option vR4) : Spec E.S := (Con.add (w92 run') (Con.add vx3 (Con.add vx2 (Con.add vx1 (Con.add vw8 ub0)))))
theorem wb4 {run' : vC8 → Option vR4} (ih : ∀ pt r, run' pt = some r → Good E Tryz.f104 uK1 0 (up5.av r) (up5.bx r) (uH1 pt) (vQ5 pt)) : ua9 E (wt5 run') := (Con.add_ok (wJ4 ih) (Con.add_ok uX8 (Con.add_ok uX7 (Con.add_ok uX6 (Con.add_ok uX3 ua7)))))
theorem xB5 : ∀ pt r, uc3 pt = some r → Good E Tryz.f104 uK1 0 (up5.av r) (up5.bx r) (uH1 pt) (vQ5 pt) := by
 refine uc3.partial_correctness (fun pt r => Good E Tryz.f104 uK1 0 (up5.av r) (up5.bx r) (uH1 pt) (vQ5 pt)) ?_
 intro run' ih pt r hr
 cases pt <;> exact ua8 (spec := (wt5 run')) (wr := (mkWr [] [])) (l := xn7) (z := 113) (p := up5) E_ok wT7.mem rfl (wb4 ih) ih (Eq.trans (by kernel_rfl) hr)
def w33 : Con E := ⟨104, _, _, (.cons (Rw.sl 103) (.cons (Rw.agg (.cons (Rd.int .i64).w (.cons (Rd.int .i64).w (.cons Rd.str.w (.cons (Rw.sl 25) .nil))))) (.cons (Rw.agg (.cons (Rd.int .i64).w (.cons (Rd.int .i64).w (.cons (Rd.int .i64).w .nil)))) .nil))), .nil, 0, vR4, fun a b => uc3 (.start a.1 a.2.1.1 a.2.1.2.1 a.2.1.2.2.1 a.2.1.2.2.2.1 a.2.2.1.1 a.2.2.1.2.1 a.2.2.1.2.2.1), up5.av, up5.bx⟩
theorem wF1 : w33.Ok := fun a b r h => ub3 (fn := Tryz.f104) (code := uK1) E_ok (by kernel_rfl) (by kernel_rfl) (by kernel_rfl) (Nat.le_of_ble_eq_true rfl) (xB5 (.start a.1 a.2.1.1 a.2.1.2.1 a.2.1.2.2.1 a.2.1.2.2.2.1 a.2.2.1.1 a.2.2.1.2.1 a.2.2.1.2.2.1) r h)
inductive xr0 where
 | start (n0 : Int)
def vL9 : xr0 → List Bool
 | .start .. => []
def xL5 : xr0 → St E.S
 | .start n0 => st0 5 [.v (.int .i64 n0)] []
abbrev x13 : Type := ((Int × Unit) × Unit)
def vf5 : Res E (Int × Unit) Unit := { rows := [], flat := [], keep := 0, done := [0], rl := (.cons (Rd.int .i64) .nil), rb := .nil }
def u09 : xr0 → Option x13
 | .start n0 =>
  if (decide ((0 : Int) ≤ n0)) = true then
   some ((shl .i64 (1 : Int) n0, ()), ())
  else none
def xn8 : List (Plc E xr0) := []
theorem wT8 : All (ub8 5 0 vL9 xL5) xn8 := trivial
def wi0 : Code := Tryz.f18.body.getD .skip
def wt6 : Spec E.S := ub0
theorem wb5 : ua9 E wt6 := ua7
theorem xB6 : ∀ pt r, u09 pt = some r → Good E Tryz.f18 wi0 0 (vf5.av r) (vf5.bx r) (vL9 pt) (xL5 pt) := by
 intro pt r hr
 cases pt <;> exact ua8 (spec := wt6) (wr := (mkWr [] [])) (l := xn8) (z := 5) (p := vf5) (run' := fun _ => none) E_ok wT8.mem rfl wb5 (fun _ _ h => by cases h) (Eq.trans (by kernel_rfl) hr)
def vU2 : Con E := ⟨18, _, _, (.cons (Rd.int .i64).w .nil), .nil, 0, x13, fun a b => u09 (.start a.1), vf5.av, vf5.bx⟩
theorem vo9 : vU2.Ok := fun a b r h => ub3 (fn := Tryz.f18) (code := wi0) E_ok (by kernel_rfl) (by kernel_rfl) (by kernel_rfl) (Nat.le_of_ble_eq_true rfl) (xB6 (.start a.1) r h)
inductive xr1 where
 | start (count0 : Int)
 | p56 (count0 : Int) (n3 : Int)
def vb8 : xr1 → List Bool
 | .start .. => []
 | .p56 .. => [false, false, false, true, true]
def xe4 : xr1 → St E.S
 | .start count0 => st0 11 [.v (.int .i64 count0)] []
 | .p56 count0 n3 => mkSt 11 [0, 3] [.v (.int .i64 count0), .v (.int .i64 n3)] []
abbrev x14 : Type := ((Int × Unit) × Unit)
def uQ7 : Res E (Int × Unit) Unit := { rows := [], flat := [], keep := 0, done := [0], rl := (.cons (Rd.int .i64) .nil), rb := .nil }
def uv6 : xr1 → Option x14
 | .start count0 =>
  uv6 (.p56 count0 (0 : Int))
 | .p56 count0 n3 =>
  (u09 (.start n3)) >>= fun t1 =>
  if (decide (t1.1.1 < count0)) = true then
   uv6 (.p56 count0 (IntKind.wrap .i64 (n3 + (1 : Int))))
  else
   some ((n3, ()), ())
 partial_fixpoint
def xn9 : List (Plc E xr1) := [⟨56, [false, false, false, true, true], { slots := [0, 3], rows := [], flat := [], keep := 0 }, _, _, (.cons (Rd.int .i64) (.cons (Rd.int .i64) .nil)), .nil, fun a b => .p56 a.1 a.2.1⟩]
theorem wT9 : All (ub8 11 0 vb8 xe4) xn9 := ⟨⟨rfl, rfl, fun _ _ => rfl, fun _ _ => rfl⟩, trivial⟩
def vw3 : Code := Tryz.f46.body.getD .skip
def wt7 : Spec E.S := (Con.add vU2 ub0)
theorem wb6 : ua9 E wt7 := (Con.add_ok vo9 ua7)
theorem xB7 : ∀ pt r, uv6 pt = some r → Good E Tryz.f46 vw3 0 (uQ7.av r) (uQ7.bx r) (vb8 pt) (xe4 pt) := by
 refine uv6.partial_correctness (fun pt r => Good E Tryz.f46 vw3 0 (uQ7.av r) (uQ7.bx r) (vb8 pt) (xe4 pt)) ?_
 intro run' ih pt r hr
 cases pt <;> exact ua8 (spec := wt7) (wr := (mkWr [] [])) (l := xn9) (z := 11) (p := uQ7) E_ok wT9.mem rfl wb6 ih (Eq.trans (by kernel_rfl) hr)
def w34 : Con E := ⟨46, _, _, (.cons (Rd.int .i64).w .nil), .nil, 0, x14, fun a b => uv6 (.start a.1), uQ7.av, uQ7.bx⟩
theorem wF2 : w34.Ok := fun a b r h => ub3 (fn := Tryz.f46) (code := vw3) E_ok (by kernel_rfl) (by kernel_rfl) (by kernel_rfl) (Nat.le_of_ble_eq_true rfl) (xB7 (.start a.1) r h)
end
end Go.Proofs.YtaennkkcnhfglaaGreatDoor.Ev.F
