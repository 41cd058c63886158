/- A part of the proof. -/
import Derived.Test.YtaennkkcnhfglaaGreatDoorLF1
set_option linter.unusedVariables false
set_option maxRecDepth 100000
namespace Go.Proofs.YtaennkkcnhfglaaGreatDoor.Ev.F
open Go.Proofs Go.Proofs.YtaennkkcnhfglaaGreatDoor.Ev
noncomputable section
inductive u84 where
 | start (i0 : Int) (part1_0 : ByteArray) (part1_1 : Int) (part1_2 : (List ua5)) (C0 : ByteArray) (C1 : (List ua6)) (C2 : (Option (List (Option ua4))))
def uA3 : u84 → List Bool
 | .start .. => []
def vw1 : u84 → St E.S
 | .start i0 part1_0 part1_1 part1_2 C0 C1 C2 => st0 13 [.v (.int .i64 i0), .agg [.v (.string part1_0), .v (.int .i64 part1_1), .sl 37 part1_2 false], .bp 0 0] [.var 125 [.v (.string C0), .sl 58 C1 false, .so 105 C2]]
abbrev vH0 : Type := ((Int × Unit) × ((ByteArray × ((List ua6) × ((Option (List (Option ua4))) × Unit))) × Unit))
def ul9 : Res E (Int × Unit) ((ByteArray × ((List ua6) × ((Option (List (Option ua4))) × Unit))) × Unit) := { rows := [], flat := [], keep := 1, done := [0], rl := (.cons (Rd.int .i64) .nil), rb := (.cons (.var 125 (.cons Rd.str (.cons (Rd.sl 58 false) (.cons (Rd.so 105) .nil)))) .nil) }
inductive u85 where
 | start (x0 : (Option ua4)) (v1_0 : ByteArray) (v1_1 : Int) (v1_2 : (List ua5))
def uA4 : u85 → List Bool
 | .start .. => []
def vw2 : u85 → St E.S
 | .start x0 v1_0 v1_1 v1_2 => st0 72 [.op 128 x0, .agg [.v (.string v1_0), .v (.int .i64 v1_1), .sl 37 v1_2 false]] []
abbrev vH1 : Type := ((Int × Unit) × Unit)
def um0 : Res E (Int × Unit) Unit := { rows := [], flat := [], keep := 0, done := [0], rl := (.cons (Rd.int .i64) .nil), rb := .nil }
inductive uZ0 where
 | start (l0 : (List ua5)) (C0 : ByteArray) (C1 : (List ua6)) (C2 : (Option (List (Option ua4))))
 | p52 (s9 : (List ua5)) (s10 : Int) (s11 : Int) (C0 : ByteArray) (C1 : (List ua6)) (C2 : (Option (List (Option ua4))))
def uv6 : uZ0 → List Bool
 | .start .. => []
 | .p52 .. => [false, false, true, false, true]
def vm3 : uZ0 → St E.S
 | .start l0 C0 C1 C2 => st0 25 [.sl 37 l0 false, .fn 143 [.bp 0 0]] [.var 125 [.v (.string C0), .sl 58 C1 false, .so 105 C2]]
 | .p52 s9 s10 s11 C0 C1 C2 => mkSt 25 [1, 9, 10, 11] [.fn 143 [.bp 0 0], .sl 37 s9 false, .v (.int .i64 s10), .v (.int .i64 s11)] [.var 125 [.v (.string C0), .sl 58 C1 false, .so 105 C2]]
abbrev vp0 : Type := ((Int × (Int × Unit)) × ((ByteArray × ((List ua6) × ((Option (List (Option ua4))) × Unit))) × Unit))
def uj5 : Res E (Int × (Int × Unit)) ((ByteArray × ((List ua6) × ((Option (List (Option ua4))) × Unit))) × Unit) := { rows := [], flat := [], keep := 1, done := [0, 1], rl := (.cons (Rd.int .i64) (.cons (Rd.int .i64) .nil)), rb := (.cons (.var 125 (.cons Rd.str (.cons (Rd.sl 58 false) (.cons (Rd.so 105) .nil)))) .nil) }
mutual
def uJ6 : u84 → Option vH0
 | .start i0 part1_0 part1_1 part1_2 C0 C1 C2 =>
  (idx (Option.getD C2 []) i0) >>= fun t1 =>
  (run_z53 (.start t1 part1_0 part1_1 part1_2)) >>= fun t2 =>
  some ((t2.1.1, ()), ((C0, (C1, (C2, ()))), ()))
 partial_fixpoint
def run_z53 : u85 → Option vH1
 | .start x0 v1_0 v1_1 v1_2 =>
  (un8 (.start x0)) >>= fun t1 =>
  if t1.1.1 = true then
   if (seq v1_0 (⟨#[]⟩ : ByteArray)) = true then
    (uc7 (.start ((List.length v1_2 : Int) == (0 : Int)) (3 : Int))) >>= fun t2 =>
    x0 >>= fun t3 =>
    if (decide ((0 : Int) ≤ t3.bits)) = true then
     (uk8 (.start v1_1 (0 : Int) (IntKind.wrap .i64 ((shl .i64 (1 : Int) t3.bits) - (1 : Int))))) >>= fun t4 =>
     (uc7 (.start t4.1.1 (2 : Int))) >>= fun t5 =>
     (ud1 (.start ([t2.1.1, t5.1.1] : List Int))) >>= fun t6 =>
     some ((t6.1.1, ()), ())
    else none
   else
    (uc7 (.start false (3 : Int))) >>= fun t7 =>
    x0 >>= fun t8 =>
    if (decide ((0 : Int) ≤ t8.bits)) = true then
     (uk8 (.start v1_1 (0 : Int) (IntKind.wrap .i64 ((shl .i64 (1 : Int) t8.bits) - (1 : Int))))) >>= fun t9 =>
     (uc7 (.start t9.1.1 (2 : Int))) >>= fun t10 =>
     (ud1 (.start ([t7.1.1, t10.1.1] : List Int))) >>= fun t11 =>
     some ((t11.1.1, ()), ())
    else none
  else
   (uJ5 (.start x0 v1_0)) >>= fun t12 =>
   if (decide (t12.1.1 < (0 : Int))) = true then
    some (((6 : Int), ()), ())
   else
    x0 >>= fun t13 =>
    (idx (Option.getD t13.constructors []) t12.1.1) >>= fun t14 =>
    (uc7 (.start (v1_1 == (0 : Int)) (3 : Int))) >>= fun t15 =>
    (uc7 (.start ((List.length v1_2 : Int) == (List.length (Option.getD t14.parts []) : Int)) (10 : Int))) >>= fun t16 =>
    (ud1 (.start ([t15.1.1, t16.1.1] : List Int))) >>= fun t17 =>
    if (t17.1.1 != (0 : Int)) = true then
     some ((t17.1.1, ()), ())
    else
     (run_z54 (.start v1_2 t14.name t14.fields t14.parts)) >>= fun t18 =>
     some ((t18.1.2.1, ()), ())
 partial_fixpoint
def run_z54 : uZ0 → Option vp0
 | .start l0 C0 C1 C2 =>
  run_z54 (.p52 l0 (List.length l0 : Int) (0 : Int) C0 C1 C2)
 | .p52 s9 s10 s11 C0 C1 C2 =>
  if (decide (s11 < s10)) = true then
   (idx s9 s11) >>= fun t1 =>
   (uJ6 (.start s11 t1.Name t1.Number t1.Parts C0 C1 C2)) >>= fun t2 =>
   if (t2.1.1 != (0 : Int)) = true then
    some ((s11, (t2.1.1, ())), ((t2.2.1.1, (t2.2.1.2.1, (t2.2.1.2.2.1, ()))), ()))
   else
    run_z54 (.p52 s9 s10 (IntKind.wrap .i64 (s11 + (1 : Int))) t2.2.1.1 t2.2.1.2.1 t2.2.1.2.2.1)
  else
   some (((0 : Int), ((0 : Int), ())), ((C0, (C1, (C2, ()))), ()))
 partial_fixpoint
end
def xq7 : List (Plc E u84) := []
theorem wW4 : All (ub8 13 1 uA3 vw1) xq7 := trivial
def uB6 : Code := Tryz.f143.body.getD .skip
def xe9 (run' : u84 → Option vH0) : Con E := ⟨143, (Int × ((ByteArray × (Int × ((List ua5) × Unit))) × (Unit × Unit))), ((ByteArray × ((List ua6) × ((Option (List (Option ua4))) × Unit))) × Unit), (RwL.cons (Rd.int .i64).w (RwL.cons (Rw.agg (RwL.cons Rd.str.w (RwL.cons (Rd.int .i64).w (RwL.cons (Rw.sl 37) RwL.nil)))) (RwL.cons (Rd.bp 0 0).w RwL.nil))), (RdBL.cons (RdB.var 125 (RdL.cons Rd.str (RdL.cons (Rd.sl 58 false) (RdL.cons (Rd.so 105) RdL.nil)))) RdBL.nil), 1, vH0, fun a b => run' (.start a.1 a.2.1.1 a.2.1.2.1 a.2.1.2.2.1 b.1.1 b.1.2.1 b.1.2.2.1), ul9.av, ul9.bx⟩
theorem wO8 {run' : u84 → Option vH0} (ih : ∀ pt r, run' pt = some r → Good E Tryz.f143 uB6 1 (ul9.av r) (ul9.bx r) (uA3 pt) (vw1 pt)) : (xe9 run').Ok := fun a b r h => ub4 (fn := Tryz.f143) (code := uB6) E_ok (by kernel_rfl) (by kernel_rfl) (by kernel_rfl) (Nat.le_of_ble_eq_true rfl) (ih (.start a.1 a.2.1.1 a.2.1.2.1 a.2.1.2.2.1 b.1.1 b.1.2.1 b.1.2.2.1) r h)
def xq8 : List (Plc E u85) := []
theorem wW5 : All (ub8 72 0 uA4 vw2) xq8 := trivial
def uB7 : Code := Tryz.f109.body.getD .skip
def xf0 (run' : u85 → Option vH1) : Con E := ⟨109, ((Option ua4) × ((ByteArray × (Int × ((List ua5) × Unit))) × Unit)), Unit, (RwL.cons (Rd.op 128).w (RwL.cons (Rw.agg (RwL.cons Rd.str.w (RwL.cons (Rd.int .i64).w (RwL.cons (Rw.sl 37) RwL.nil)))) RwL.nil)), RdBL.nil, 0, vH1, fun a b => run' (.start a.1 a.2.1.1 a.2.1.2.1 a.2.1.2.2.1), um0.av, um0.bx⟩
theorem wO9 {run' : u85 → Option vH1} (ih : ∀ pt r, run' pt = some r → Good E Tryz.f109 uB7 0 (um0.av r) (um0.bx r) (uA4 pt) (vw2 pt)) : (xf0 run').Ok := fun a b r h => ub4 (fn := Tryz.f109) (code := uB7) E_ok (by kernel_rfl) (by kernel_rfl) (by kernel_rfl) (Nat.le_of_ble_eq_true rfl) (ih (.start a.1 a.2.1.1 a.2.1.2.1 a.2.1.2.2.1) r h)
def xq9 : List (Plc E uZ0) := [⟨52, [false, false, true, false, true], { slots := [1, 9, 10, 11], rows := [], flat := [], keep := 1 }, _, _, (.cons (Rd.fn 143 (.cons (Rd.bp 0 0) .nil)) (.cons (Rd.sl 37 false) (.cons (Rd.int .i64) (.cons (Rd.int .i64) .nil)))), (.cons (.var 125 (.cons Rd.str (.cons (Rd.sl 58 false) (.cons (Rd.so 105) .nil)))) .nil), fun a b => .p52 a.2.1 a.2.2.1 a.2.2.2.1 b.1.1 b.1.2.1 b.1.2.2.1⟩]
theorem wW6 : All (ub8 25 1 uv6 vm3) xq9 := ⟨⟨rfl, rfl, fun _ _ => rfl, fun _ _ => rfl⟩, trivial⟩
def ux6 : Code := Tryz.f134.body.getD .skip
def v17 (run' : uZ0 → Option vp0) : Con E := ⟨134, ((List ua5) × ((Unit × Unit) × Unit)), ((ByteArray × ((List ua6) × ((Option (List (Option ua4))) × Unit))) × Unit), (RwL.cons (Rw.sl 37) (RwL.cons (Rd.fn 143 (RdL.cons (Rd.bp 0 0) RdL.nil)).w RwL.nil)), (RdBL.cons (RdB.var 125 (RdL.cons Rd.str (RdL.cons (Rd.sl 58 false) (RdL.cons (Rd.so 105) RdL.nil)))) RdBL.nil), 1, vp0, fun a b => run' (.start a.1 b.1.1 b.1.2.1 b.1.2.2.1), uj5.av, uj5.bx⟩
theorem vu4 {run' : uZ0 → Option vp0} (ih : ∀ pt r, run' pt = some r → Good E Tryz.f134 ux6 1 (uj5.av r) (uj5.bx r) (uv6 pt) (vm3 pt)) : (v17 run').Ok := fun a b r h => ub4 (fn := Tryz.f134) (code := ux6) E_ok (by kernel_rfl) (by kernel_rfl) (by kernel_rfl) (Nat.le_of_ble_eq_true rfl) (ih (.start a.1 b.1.1 b.1.2.1 b.1.2.2.1) r h)
def ww0 (r_z53 : u85 → Option vH1) : Spec E.S := (Con.add (xf0 r_z53) ub1)
theorem wc8 {r_z53 : u85 → Option vH1} (h_z53 : ∀ pt r, r_z53 pt = some r → Good E Tryz.f109 uB7 0 (um0.av r) (um0.bx r) (uA4 pt) (vw2 pt)) : ub0 E (ww0 r_z53) := (Con.add_ok (wO9 h_z53) ua7)
def ww1 (r_z54 : uZ0 → Option vp0) : Spec E.S := (Con.add (v17 r_z54) (Con.add vY6 (Con.add uG1 (Con.add uU8 (Con.add uU9 (Con.add uB9 ub1))))))
theorem wc9 {r_z54 : uZ0 → Option vp0} (h_z54 : ∀ pt r, r_z54 pt = some r → Good E Tryz.f134 ux6 1 (uj5.av r) (uj5.bx r) (uv6 pt) (vm3 pt)) : ub0 E (ww1 r_z54) := (Con.add_ok (vu4 h_z54) (Con.add_ok vr6 (Con.add_ok uo4 (Con.add_ok ur7 (Con.add_ok ur8 (Con.add_ok um5 ua7))))))
def ww2 (r_z52 : u84 → Option vH0) (r_z54 : uZ0 → Option vp0) : Spec E.S := (Con.add (v17 r_z54) (Con.add (xe9 r_z52) ub1))
theorem wd0 {r_z52 : u84 → Option vH0} (h_z52 : ∀ pt r, r_z52 pt = some r → Good E Tryz.f143 uB6 1 (ul9.av r) (ul9.bx r) (uA3 pt) (vw1 pt)) {r_z54 : uZ0 → Option vp0} (h_z54 : ∀ pt r, r_z54 pt = some r → Good E Tryz.f134 ux6 1 (uj5.av r) (uj5.bx r) (uv6 pt) (vm3 pt)) : ub0 E (ww2 r_z52 r_z54) := (Con.add_ok (vu4 h_z54) (Con.add_ok (wO8 h_z52) ua7))
theorem vb3 : (∀ pt r, uJ6 pt = some r → Good E Tryz.f143 uB6 1 (ul9.av r) (ul9.bx r) (uA3 pt) (vw1 pt)) ∧ (∀ pt r, run_z53 pt = some r → Good E Tryz.f109 uB7 0 (um0.av r) (um0.bx r) (uA4 pt) (vw2 pt)) ∧ (∀ pt r, run_z54 pt = some r → Good E Tryz.f134 ux6 1 (uj5.av r) (uj5.bx r) (uv6 pt) (vm3 pt)) := by
  refine uJ6.mutual_partial_correctness (fun pt r => Good E Tryz.f143 uB6 1 (ul9.av r) (ul9.bx r) (uA3 pt) (vw1 pt)) (fun pt r => Good E Tryz.f109 uB7 0 (um0.av r) (um0.bx r) (uA4 pt) (vw2 pt)) (fun pt r => Good E Tryz.f134 ux6 1 (uj5.av r) (uj5.bx r) (uv6 pt) (vm3 pt)) ?_ ?_ ?_
  · intro r_z53 h_z53 pt r hr
    cases pt <;> exact ua9 (spec := (ww0 r_z53)) (wr := (mkWr [] [])) (l := xq7) (z := 13) (p := ul9) (run' := fun _ => none) E_ok wW4.mem rfl (wc8 h_z53) (fun _ _ h => by cases h) (Eq.trans (by kernel_rfl) hr)
  · intro r_z54 h_z54 pt r hr
    cases pt <;> exact ua9 (spec := (ww1 r_z54)) (wr := (mkWr [] [])) (l := xq8) (z := 72) (p := um0) (run' := fun _ => none) E_ok wW5.mem rfl (wc9 h_z54) (fun _ _ h => by cases h) (Eq.trans (by kernel_rfl) hr)
  · intro r_z52 r_z54 h_z52 h_z54 pt r hr
    cases pt <;> exact ua9 (spec := (ww2 r_z52 r_z54)) (wr := (mkWr [] [])) (l := xq9) (z := 25) (p := uj5) E_ok wW6.mem rfl (wd0 h_z52 h_z54) h_z54 (Eq.trans (by kernel_rfl) hr)
theorem xF1 : ∀ pt r, uJ6 pt = some r → Good E Tryz.f143 uB6 1 (ul9.av r) (ul9.bx r) (uA3 pt) (vw1 pt) := vb3.1
theorem xF2 : ∀ pt r, run_z53 pt = some r → Good E Tryz.f109 uB7 0 (um0.av r) (um0.bx r) (uA4 pt) (vw2 pt) := vb3.2.1
theorem xF3 : ∀ pt r, run_z54 pt = some r → Good E Tryz.f134 ux6 1 (uj5.av r) (uj5.bx r) (uv6 pt) (vm3 pt) := vb3.2.2
def xZ9 : Con E := ⟨143, _, _, (.cons (Rd.int .i64).w (.cons (Rw.agg (.cons Rd.str.w (.cons (Rd.int .i64).w (.cons (Rw.sl 37) .nil)))) (.cons (Rd.bp 0 0).w .nil))), (.cons (.var 125 (.cons Rd.str (.cons (Rd.sl 58 false) (.cons (Rd.so 105) .nil)))) .nil), 1, vH0, fun a b => uJ6 (.start a.1 a.2.1.1 a.2.1.2.1 a.2.1.2.2.1 b.1.1 b.1.2.1 b.1.2.2.1), ul9.av, ul9.bx⟩
theorem x69 : xZ9.Ok := fun a b r h => ub4 (fn := Tryz.f143) (code := uB6) E_ok (by kernel_rfl) (by kernel_rfl) (by kernel_rfl) (Nat.le_of_ble_eq_true rfl) (xF1 (.start a.1 a.2.1.1 a.2.1.2.1 a.2.1.2.2.1 b.1.1 b.1.2.1 b.1.2.2.1) r h)
def w70 : Con E := ⟨109, _, _, (.cons (Rd.op 128).w (.cons (Rw.agg (.cons Rd.str.w (.cons (Rd.int .i64).w (.cons (Rw.sl 37) .nil)))) .nil)), .nil, 0, vH1, fun a b => run_z53 (.start a.1 a.2.1.1 a.2.1.2.1 a.2.1.2.2.1), um0.av, um0.bx⟩
theorem wJ4 : w70.Ok := fun a b r h => ub4 (fn := Tryz.f109) (code := uB7) E_ok (by kernel_rfl) (by kernel_rfl) (by kernel_rfl) (Nat.le_of_ble_eq_true rfl) (xF2 (.start a.1 a.2.1.1 a.2.1.2.1 a.2.1.2.2.1) r h)
def x00 : Con E := ⟨134, _, _, (.cons (Rw.sl 37) (.cons (Rd.fn 143 (.cons (Rd.bp 0 0) .nil)).w .nil)), (.cons (.var 125 (.cons Rd.str (.cons (Rd.sl 58 false) (.cons (Rd.so 105) .nil)))) .nil), 1, vp0, fun a b => run_z54 (.start a.1 b.1.1 b.1.2.1 b.1.2.2.1), uj5.av, uj5.bx⟩
theorem x70 : x00.Ok := fun a b r h => ub4 (fn := Tryz.f134) (code := ux6) E_ok (by kernel_rfl) (by kernel_rfl) (by kernel_rfl) (Nat.le_of_ble_eq_true rfl) (xF3 (.start a.1 b.1.1 b.1.2.1 b.1.2.2.1) r h)
inductive wF4 where
 | start (l0 : (List ua2)) (t1_0 : Int) (t1_1 : Int) (t1_2 : ByteArray) (t1_3 : (List ua0)) (v2_0 : ByteArray) (v2_1 : Int) (v2_2 : (List ua5))
 | p15 (x8 : (Option ua4)) (e10 : Int) (C0 : ByteArray) (C1 : Int) (C2 : (List ua5))
def ve0 : wF4 → List Bool
 | .start .. => []
 | .p15 .. => [true, true, true]
def xk4 : wF4 → St E.S
 | .start l0 t1_0 t1_1 t1_2 t1_3 v2_0 v2_1 v2_2 => st0 29 [.sl 103 l0 false, .agg [.v (.int .i64 t1_0), .v (.int .i64 t1_1), .v (.string t1_2), .sl 25 t1_3 false], .agg [.v (.string v2_0), .v (.int .i64 v2_1), .sl 37 v2_2 false]] []
 | .p15 x8 e10 C0 C1 C2 => mkSt 29 [5, 8, 10] [.bp 0 0, .op 128 x8, .v (.int .i64 e10)] [.var 37 [.v (.string C0), .v (.int .i64 C1), .sl 37 C2 false]]
abbrev xY3 : Type := (((Option ua4) × (Int × Unit)) × Unit)
def uR5 : Res E ((Option ua4) × (Int × Unit)) Unit := { rows := [], flat := [], keep := 0, done := [0, 1], rl := (.cons (Rd.op 128) (.cons (Rd.int .i64) .nil)), rb := .nil }
def uJ7 : wF4 → Option xY3
 | .start l0 t1_0 t1_1 t1_2 t1_3 v2_0 v2_1 v2_2 =>
  (uq9 (.start l0 t1_0 t1_1 t1_2 t1_3)) >>= fun t1 =>
  if (t1.1.2.2.1 == (0 : Int)) = true then
   (u29 (.start v2_0 v2_1 v2_2)) >>= fun t2 =>
   uJ7 (.p15 t1.1.1 t2.1.1 v2_0 v2_1 v2_2)
  else
   uJ7 (.p15 t1.1.1 t1.1.2.2.1 v2_0 v2_1 v2_2)
 | .p15 x8 e10 C0 C1 C2 =>
  if (e10 == (0 : Int)) = true then
   (run_z53 (.start x8 C0 C1 C2)) >>= fun t1 =>
   some ((x8, (t1.1.1, ())), ())
  else
   some ((x8, (e10, ())), ())
 partial_fixpoint
def xr0 : List (Plc E wF4) := [⟨15, [true, true, true], { slots := [5, 8, 10], rows := [], flat := [], keep := 0 }, _, _, (.cons (Rd.bp 0 0) (.cons (Rd.op 128) (.cons (Rd.int .i64) .nil))), (.cons (.var 37 (.cons Rd.str (.cons (Rd.int .i64) (.cons (Rd.sl 37 false) .nil)))) .nil), fun a b => .p15 a.2.1 a.2.2.1 b.1.1 b.1.2.1 b.1.2.2.1⟩]
theorem wW7 : All (ub8 29 0 ve0 xk4) xr0 := ⟨⟨rfl, rfl, fun _ _ => rfl, fun _ _ => rfl⟩, trivial⟩
def vy8 : Code := Tryz.f73.body.getD .skip
def ww3 : Spec E.S := (Con.add w70 (Con.add vY5 (Con.add uG2 ub1)))
theorem wd1 : ub0 E ww3 := (Con.add_ok wJ4 (Con.add_ok vr5 (Con.add_ok uo5 ua7)))
theorem xF4 : ∀ pt r, uJ7 pt = some r → Good E Tryz.f73 vy8 0 (uR5.av r) (uR5.bx r) (ve0 pt) (xk4 pt) := by
 refine uJ7.partial_correctness (fun pt r => Good E Tryz.f73 vy8 0 (uR5.av r) (uR5.bx r) (ve0 pt) (xk4 pt)) ?_
 intro run' ih pt r hr
 cases pt <;> exact ua9 (spec := ww3) (wr := (mkWr [] [])) (l := xr0) (z := 29) (p := uR5) E_ok wW7.mem rfl wd1 ih (Eq.trans (by kernel_rfl) hr)
def w71 : Con E := ⟨73, _, _, (.cons (Rw.sl 103) (.cons (Rw.agg (.cons (Rd.int .i64).w (.cons (Rd.int .i64).w (.cons Rd.str.w (.cons (Rw.sl 25) .nil))))) (.cons (Rw.agg (.cons Rd.str.w (.cons (Rd.int .i64).w (.cons (Rw.sl 37) .nil)))) .nil))), .nil, 0, xY3, fun a b => uJ7 (.start a.1 a.2.1.1 a.2.1.2.1 a.2.1.2.2.1 a.2.1.2.2.2.1 a.2.2.1.1 a.2.2.1.2.1 a.2.2.1.2.2.1), uR5.av, uR5.bx⟩
theorem wJ5 : w71.Ok := fun a b r h => ub4 (fn := Tryz.f73) (code := vy8) E_ok (by kernel_rfl) (by kernel_rfl) (by kernel_rfl) (Nat.le_of_ble_eq_true rfl) (xF4 (.start a.1 a.2.1.1 a.2.1.2.1 a.2.1.2.2.1 a.2.1.2.2.2.1 a.2.2.1.1 a.2.2.1.2.1 a.2.2.1.2.2.1) r h)
inductive vo0 where
 | start (x0 : (Option ua4)) (v1_0 : ByteArray) (v1_1 : Int) (v1_2 : (List ua5))
 | p500 (x0 : (Option ua4)) (tag5 : Int) (fields6 : Int) (s24 : (Option (List (Option ua4)))) (s25 : Int) (s26 : Int) (C0 : ByteArray) (C1 : Int) (C2 : (List ua5))
def uH6 : vo0 → List Bool
 | .start .. => []
 | .p500 .. => [false, false, true, false, true, true, true, true]
def vU2 : vo0 → St E.S
 | .start x0 v1_0 v1_1 v1_2 => st0 50 [.op 128 x0, .agg [.v (.string v1_0), .v (.int .i64 v1_1), .sl 37 v1_2 false]] []
 | .p500 x0 tag5 fields6 s24 s25 s26 C0 C1 C2 => mkSt 50 [0, 3, 5, 6, 24, 25, 26] [.op 128 x0, .bp 0 0, .v (.int .i64 tag5), .v (.int .i64 fields6), .so 105 s24, .v (.int .i64 s25), .v (.int .i64 s26)] [.var 37 [.v (.string C0), .v (.int .i64 C1), .sl 37 C2 false]]
abbrev vH2 : Type := ((Int × Unit) × Unit)
def up5 : Res E (Int × Unit) Unit := { rows := [], flat := [], keep := 0, done := [0], rl := (.cons (Rd.int .i64) .nil), rb := .nil }
def uE4 : vo0 → Option vH2
 | .start x0 v1_0 v1_1 v1_2 =>
  (un8 (.start x0)) >>= fun t1 =>
  if t1.1.1 = true then
   some ((v1_1, ()), ())
  else
   (uJ5 (.start x0 v1_0)) >>= fun t2 =>
   x0 >>= fun t3 =>
   (idx (Option.getD t3.constructors []) t2.1.1) >>= fun t4 =>
   uE4 (.p500 x0 t2.1.1 (0 : Int) t4.parts (List.length (Option.getD t4.parts []) : Int) (0 : Int) v1_0 v1_1 v1_2)
 | .p500 x0 tag5 fields6 s24 s25 s26 C0 C1 C2 =>
  if (decide (s26 < s25)) = true then
   (idx (Option.getD s24 []) s26) >>= fun t1 =>
   (run_z41 (.start t1)) >>= fun t2 =>
   if (decide ((0 : Int) ≤ t2.1.1)) = true then
    (idx C2 s26) >>= fun t3 =>
    (uE4 (.start t1 t3.Name t3.Number t3.Parts)) >>= fun t4 =>
    uE4 (.p500 x0 tag5 (bits .or .i64 (shl .i64 fields6 t2.1.1) t4.1.1) s24 s25 (IntKind.wrap .i64 (s26 + (1 : Int))) C0 C1 C2)
   else none
  else
   (run_z42 (.start x0)) >>= fun t5 =>
   if (decide ((0 : Int) ≤ t5.1.1)) = true then
    some ((bits .or .i64 (shl .i64 tag5 t5.1.1) fields6, ()), ())
   else none
 partial_fixpoint
def xr1 : List (Plc E vo0) := [⟨500, [false, false, true, false, true, true, true, true], { slots := [0, 3, 5, 6, 24, 25, 26], rows := [], flat := [], keep := 0 }, _, _, (.cons (Rd.op 128) (.cons (Rd.bp 0 0) (.cons (Rd.int .i64) (.cons (Rd.int .i64) (.cons (Rd.so 105) (.cons (Rd.int .i64) (.cons (Rd.int .i64) .nil))))))), (.cons (.var 37 (.cons Rd.str (.cons (Rd.int .i64) (.cons (Rd.sl 37 false) .nil)))) .nil), fun a b => .p500 a.1 a.2.2.1 a.2.2.2.1 a.2.2.2.2.1 a.2.2.2.2.2.1 a.2.2.2.2.2.2.1 b.1.1 b.1.2.1 b.1.2.2.1⟩]
theorem wW8 : All (ub8 50 0 uH6 vU2) xr1 := ⟨⟨rfl, rfl, fun _ _ => rfl, fun _ _ => rfl⟩, trivial⟩
def uK5 : Code := Tryz.f74.body.getD .skip
def xf1 (run' : vo0 → Option vH2) : Con E := ⟨74, ((Option ua4) × ((ByteArray × (Int × ((List ua5) × Unit))) × Unit)), Unit, (RwL.cons (Rd.op 128).w (RwL.cons (Rw.agg (RwL.cons Rd.str.w (RwL.cons (Rd.int .i64).w (RwL.cons (Rw.sl 37) RwL.nil)))) RwL.nil)), RdBL.nil, 0, vH2, fun a b => run' (.start a.1 a.2.1.1 a.2.1.2.1 a.2.1.2.2.1), up5.av, up5.bx⟩
theorem wP0 {run' : vo0 → Option vH2} (ih : ∀ pt r, run' pt = some r → Good E Tryz.f74 uK5 0 (up5.av r) (up5.bx r) (uH6 pt) (vU2 pt)) : (xf1 run').Ok := fun a b r h => ub4 (fn := Tryz.f74) (code := uK5) E_ok (by kernel_rfl) (by kernel_rfl) (by kernel_rfl) (Nat.le_of_ble_eq_true rfl) (ih (.start a.1 a.2.1.1 a.2.1.2.1 a.2.1.2.2.1) r h)
def ww4 (run' : vo0 → Option vH2) : Spec E.S := (Con.add (xf1 run') (Con.add vA4 (Con.add uP2 (Con.add vY6 (Con.add uB9 ub1)))))
theorem wd2 {run' : vo0 → Option vH2} (ih : ∀ pt r, run' pt = some r → Good E Tryz.f74 uK5 0 (up5.av r) (up5.bx r) (uH6 pt) (vU2 pt)) : ub0 E (ww4 run') := (Con.add_ok (wP0 ih) (Con.add_ok uZ9 (Con.add_ok uu1 (Con.add_ok vr6 (Con.add_ok um5 ua7)))))
theorem xF5 : ∀ pt r, uE4 pt = some r → Good E Tryz.f74 uK5 0 (up5.av r) (up5.bx r) (uH6 pt) (vU2 pt) := by
 refine uE4.partial_correctness (fun pt r => Good E Tryz.f74 uK5 0 (up5.av r) (up5.bx r) (uH6 pt) (vU2 pt)) ?_
 intro run' ih pt r hr
 cases pt <;> exact ua9 (spec := (ww4 run')) (wr := (mkWr [] [])) (l := xr1) (z := 50) (p := up5) E_ok wW8.mem rfl (wd2 ih) ih (Eq.trans (by kernel_rfl) hr)
def w72 : Con E := ⟨74, _, _, (.cons (Rd.op 128).w (.cons (Rw.agg (.cons Rd.str.w (.cons (Rd.int .i64).w (.cons (Rw.sl 37) .nil)))) .nil)), .nil, 0, vH2, fun a b => uE4 (.start a.1 a.2.1.1 a.2.1.2.1 a.2.1.2.2.1), up5.av, up5.bx⟩
theorem wJ6 : w72.Ok := fun a b r h => ub4 (fn := Tryz.f74) (code := uK5) E_ok (by kernel_rfl) (by kernel_rfl) (by kernel_rfl) (Nat.le_of_ble_eq_true rfl) (xF5 (.start a.1 a.2.1.1 a.2.1.2.1 a.2.1.2.2.1) r h)
inductive wF5 where
 | start (l0 : (List ua2)) (t1_0 : Int) (t1_1 : Int) (t1_2 : ByteArray) (t1_3 : (List ua0)) (v2_0 : ByteArray) (v2_1 : Int) (v2_2 : (List ua5))
def vO2 : wF5 → List Bool
 | .start .. => []
def xS3 : wF5 → St E.S
 | .start l0 t1_0 t1_1 t1_2 t1_3 v2_0 v2_1 v2_2 => st0 23 [.sl 103 l0 false, .agg [.v (.int .i64 t1_0), .v (.int .i64 t1_1), .v (.string t1_2), .sl 25 t1_3 false], .agg [.v (.string v2_0), .v (.int .i64 v2_1), .sl 37 v2_2 false]] []
abbrev xY4 : Type := ((Int × (Int × Unit)) × Unit)
def vh9 : Res E (Int × (Int × Unit)) Unit := { rows := [], flat := [], keep := 0, done := [0, 1], rl := (.cons (Rd.int .i64) (.cons (Rd.int .i64) .nil)), rb := .nil }
def vk7 : wF5 → Option xY4
 | .start l0 t1_0 t1_1 t1_2 t1_3 v2_0 v2_1 v2_2 =>
  (uJ7 (.start l0 t1_0 t1_1 t1_2 t1_3 v2_0 v2_1 v2_2)) >>= fun t1 =>
  if (t1.1.2.1 != (0 : Int)) = true then
   some (((0 : Int), (t1.1.2.1, ())), ())
  else
   (uE4 (.start t1.1.1 v2_0 v2_1 v2_2)) >>= fun t2 =>
   some ((t2.1.1, ((0 : Int), ())), ())
def xr2 : List (Plc E wF5) := []
theorem wW9 : All (ub8 23 0 vO2 xS3) xr2 := trivial
def wm6 : Code := Tryz.f21.body.getD .skip
def ww5 : Spec E.S := (Con.add w72 (Con.add w71 ub1))
theorem wd3 : ub0 E ww5 := (Con.add_ok wJ6 (Con.add_ok wJ5 ua7))
theorem xF6 : ∀ pt r, vk7 pt = some r → Good E Tryz.f21 wm6 0 (vh9.av r) (vh9.bx r) (vO2 pt) (xS3 pt) := by
 intro pt r hr
 cases pt <;> exact ua9 (spec := ww5) (wr := (mkWr [] [])) (l := xr2) (z := 23) (p := vh9) (run' := fun _ => none) E_ok wW9.mem rfl wd3 (fun _ _ h => by cases h) (Eq.trans (by kernel_rfl) hr)
def w73 : Con E := ⟨21, _, _, (.cons (Rw.sl 103) (.cons (Rw.agg (.cons (Rd.int .i64).w (.cons (Rd.int .i64).w (.cons Rd.str.w (.cons (Rw.sl 25) .nil))))) (.cons (Rw.agg (.cons Rd.str.w (.cons (Rd.int .i64).w (.cons (Rw.sl 37) .nil)))) .nil))), .nil, 0, xY4, fun a b => vk7 (.start a.1 a.2.1.1 a.2.1.2.1 a.2.1.2.2.1 a.2.1.2.2.2.1 a.2.2.1.1 a.2.2.1.2.1 a.2.2.1.2.2.1), vh9.av, vh9.bx⟩
theorem wJ7 : w73.Ok := fun a b r h => ub4 (fn := Tryz.f21) (code := wm6) E_ok (by kernel_rfl) (by kernel_rfl) (by kernel_rfl) (Nat.le_of_ble_eq_true rfl) (xF6 (.start a.1 a.2.1.1 a.2.1.2.1 a.2.1.2.2.1 a.2.1.2.2.2.1 a.2.2.1.1 a.2.2.1.2.1 a.2.2.1.2.2.1) r h)
inductive vo1 where
 | start (x0 : (Option ua4)) (n1 : Int)
 | p8180 (fields7 : Int) (low9 : Int) (s54 : (Option (List (Option ua4)))) (s55 : Int) (s56 : Int) (C0 : ByteArray) (C1 : Int) (B1 : (List ua5))
def uH7 : vo1 → List Bool
 | .start .. => []
 | .p8180 .. => [false, false, true, false, true, true, true, true, true, true, true, true]
def vU3 : vo1 → St E.S
 | .start x0 n1 => st0 88 [.op 128 x0, .v (.int .i64 n1)] []
 | .p8180 fields7 low9 s54 s55 s56 C0 C1 B1 => mkSt 88 [4, 7, 9, 54, 55, 56] [.bp 0 0, .v (.int .i64 fields7), .v (.int .i64 low9), .so 105 s54, .v (.int .i64 s55), .v (.int .i64 s56)] [.var 37 [.v (.string C0), .v (.int .i64 C1), .rw 1], .row 37 B1 false]
abbrev vH3 : Type := (((ByteArray × (Int × ((List ua5) × Unit))) × (Bool × Unit)) × Unit)
def up6 : Res E ((ByteArray × (Int × ((List ua5) × Unit))) × (Bool × Unit)) Unit := { rows := [], flat := [], keep := 0, deep := [(false, 0, 2, 37)], done := [0, 1], rl := (.cons (Rd.agg (.cons Rd.str (.cons (Rd.int .i64) (.cons (Rd.sl 37 false) .nil)))) (.cons Rd.bool .nil)), rb := .nil }
def uE5 : vo1 → Option vH3
 | .start x0 n1 =>
  (un8 (.start x0)) >>= fun t1 =>
  if t1.1.1 = true then
   some ((((⟨#[]⟩ : ByteArray), (n1, ([], ()))), (true, ())), ())
  else
   (run_z42 (.start x0)) >>= fun t2 =>
   if (decide ((0 : Int) ≤ t2.1.1)) = true then
    (run_z42 (.start x0)) >>= fun t3 =>
    if (decide ((0 : Int) ≤ t3.1.1)) = true then
     x0 >>= fun t4 =>
     if (decide ((shr .i64 n1 t2.1.1) ≥ (List.length (Option.getD t4.constructors []) : Int))) = true then
      some ((((⟨#[]⟩ : ByteArray), ((0 : Int), ([], ()))), (false, ())), ())
     else
      x0 >>= fun t5 =>
      (idx (Option.getD t5.constructors []) (shr .i64 n1 t2.1.1)) >>= fun t6 =>
      (ui4 (.start t6.name t6.fields t6.parts)) >>= fun t7 =>
      if (decide ((0 : Int) ≤ t7.1.1)) = true then
       if ((shr .i64 (bits .and .i64 n1 (IntKind.wrap .i64 ((shl .i64 (1 : Int) t3.1.1) - (1 : Int)))) t7.1.1) != (0 : Int)) = true then
        some ((((⟨#[]⟩ : ByteArray), ((0 : Int), ([], ()))), (false, ())), ())
       else
        uE5 (.p8180 (bits .and .i64 n1 (IntKind.wrap .i64 ((shl .i64 (1 : Int) t3.1.1) - (1 : Int)))) t7.1.1 t6.parts (List.length (Option.getD t6.parts []) : Int) (0 : Int) t6.name (0 : Int) ([] : List ua5))
      else none
    else none
   else none
 | .p8180 fields7 low9 s54 s55 s56 C0 C1 B1 =>
  if (decide (s56 < s55)) = true then
   (idx (Option.getD s54 []) s56) >>= fun t1 =>
   (run_z41 (.start t1)) >>= fun t2 =>
   if (decide ((0 : Int) ≤ (IntKind.wrap .i64 (low9 - t2.1.1)))) = true then
    (run_z41 (.start t1)) >>= fun t3 =>
    if (decide ((0 : Int) ≤ t3.1.1)) = true then
     (uE5 (.start t1 (bits .and .i64 (shr .i64 fields7 (IntKind.wrap .i64 (low9 - t2.1.1))) (IntKind.wrap .i64 ((shl .i64 (1 : Int) t3.1.1) - (1 : Int)))))) >>= fun t4 =>
     if (!t4.1.2.1) = true then
      some (((C0, (C1, (B1, ()))), (false, ())), ())
     else
      if (fits (List.length B1) (List.length ([(⟨t4.1.1.1, t4.1.1.2.1, t4.1.1.2.2.1⟩ : ua5)] : List ua5)) 48) = true then
       uE5 (.p8180 fields7 (IntKind.wrap .i64 (low9 - t2.1.1)) s54 s55 (IntKind.wrap .i64 (s56 + (1 : Int))) C0 C1 (B1 ++ ([(⟨t4.1.1.1, t4.1.1.2.1, t4.1.1.2.2.1⟩ : ua5)] : List ua5)))
      else none
    else none
   else none
  else
   some (((C0, (C1, (B1, ()))), (true, ())), ())
 partial_fixpoint
def xr3 : List (Plc E vo1) := [⟨8180, [false, false, true, false, true, true, true, true, true, true, true, true], { slots := [4, 7, 9, 54, 55, 56], rows := [], flat := [], keep := 0, up := [(true, 4, 2, 37)] }, _, _, (.cons (Rd.bp 0 0) (.cons (Rd.int .i64) (.cons (Rd.int .i64) (.cons (Rd.so 105) (.cons (Rd.int .i64) (.cons (Rd.int .i64) .nil)))))), (.cons (.var 37 (.cons Rd.str (.cons (Rd.int .i64) (.cons (Rd.rw 1) .nil)))) (.cons (.row 37 false) .nil)), fun a b => .p8180 a.2.1 a.2.2.1 a.2.2.2.1 a.2.2.2.2.1 a.2.2.2.2.2.1 b.1.1 b.1.2.1 b.2.1⟩]
theorem wX0 : All (ub8 88 0 uH7 vU3) xr3 := ⟨⟨rfl, rfl, fun _ _ => rfl, fun _ _ => rfl⟩, trivial⟩
def uK6 : Code := Tryz.f71.body.getD .skip
def xf2 (run' : vo1 → Option vH3) : Con E := ⟨71, ((Option ua4) × (Int × Unit)), Unit, (RwL.cons (Rd.op 128).w (RwL.cons (Rd.int .i64).w RwL.nil)), RdBL.nil, 0, vH3, fun a b => run' (.start a.1 a.2.1), up6.av, up6.bx⟩
theorem wP1 {run' : vo1 → Option vH3} (ih : ∀ pt r, run' pt = some r → Good E Tryz.f71 uK6 0 (up6.av r) (up6.bx r) (uH7 pt) (vU3 pt)) : (xf2 run').Ok := fun a b r h => ub4 (fn := Tryz.f71) (code := uK6) E_ok (by kernel_rfl) (by kernel_rfl) (by kernel_rfl) (Nat.le_of_ble_eq_true rfl) (ih (.start a.1 a.2.1) r h)
def ww6 (run' : vo1 → Option vH3) : Spec E.S := (Con.add (xf2 run') (Con.add uP2 (Con.add vY3 (Con.add vA4 (Con.add uB9 ub1)))))
theorem wd4 {run' : vo1 → Option vH3} (ih : ∀ pt r, run' pt = some r → Good E Tryz.f71 uK6 0 (up6.av r) (up6.bx r) (uH7 pt) (vU3 pt)) : ub0 E (ww6 run') := (Con.add_ok (wP1 ih) (Con.add_ok uu1 (Con.add_ok vr3 (Con.add_ok uZ9 (Con.add_ok um5 ua7)))))
theorem xF7 : ∀ pt r, uE5 pt = some r → Good E Tryz.f71 uK6 0 (up6.av r) (up6.bx r) (uH7 pt) (vU3 pt) := by
 refine uE5.partial_correctness (fun pt r => Good E Tryz.f71 uK6 0 (up6.av r) (up6.bx r) (uH7 pt) (vU3 pt)) ?_
 intro run' ih pt r hr
 cases pt <;> exact ua9 (spec := (ww6 run')) (wr := (mkWr [] [])) (l := xr3) (z := 88) (p := up6) E_ok wX0.mem rfl (wd4 ih) ih (Eq.trans (by kernel_rfl) hr)
def w74 : Con E := ⟨71, _, _, (.cons (Rd.op 128).w (.cons (Rd.int .i64).w .nil)), .nil, 0, vH3, fun a b => uE5 (.start a.1 a.2.1), up6.av, up6.bx⟩
theorem wJ8 : w74.Ok := fun a b r h => ub4 (fn := Tryz.f71) (code := uK6) E_ok (by kernel_rfl) (by kernel_rfl) (by kernel_rfl) (Nat.le_of_ble_eq_true rfl) (xF7 (.start a.1 a.2.1) r h)
inductive wF6 where
 | start (l0 : (List ua2)) (t1_0 : Int) (t1_1 : Int) (t1_2 : ByteArray) (t1_3 : (List ua0)) (bits2 : Int)
def vO3 : wF6 → List Bool
 | .start .. => []
def xS4 : wF6 → St E.S
 | .start l0 t1_0 t1_1 t1_2 t1_3 bits2 => st0 45 [.sl 103 l0 false, .agg [.v (.int .i64 t1_0), .v (.int .i64 t1_1), .v (.string t1_2), .sl 25 t1_3 false], .v (.int .i64 bits2)] []
abbrev xY5 : Type := (((ByteArray × (Int × ((List ua5) × Unit))) × (Int × Unit)) × Unit)
def vi0 : Res E ((ByteArray × (Int × ((List ua5) × Unit))) × (Int × Unit)) Unit := { rows := [], flat := [], keep := 0, deep := [(false, 0, 2, 37)], done := [0, 1], rl := (.cons (Rd.agg (.cons Rd.str (.cons (Rd.int .i64) (.cons (Rd.sl 37 false) .nil)))) (.cons (Rd.int .i64) .nil)), rb := .nil }
def vk8 : wF6 → Option xY5
 | .start l0 t1_0 t1_1 t1_2 t1_3 bits2 =>
  (uq9 (.start l0 t1_0 t1_1 t1_2 t1_3)) >>= fun t1 =>
  (ud1 (.start ([t1.1.2.2.1] : List Int))) >>= fun t2 =>
  if (t2.1.1 != (0 : Int)) = true then
   some ((((⟨#[]⟩ : ByteArray), ((0 : Int), ([], ()))), (t2.1.1, ())), ())
  else
   (run_z41 (.start t1.1.1)) >>= fun t3 =>
   if (decide ((0 : Int) ≤ t3.1.1)) = true then
    (uk8 (.start bits2 (0 : Int) (IntKind.wrap .i64 ((shl .i64 (1 : Int) t3.1.1) - (1 : Int))))) >>= fun t4 =>
    if (!t4.1.1) = true then
     some ((((⟨#[]⟩ : ByteArray), ((0 : Int), ([], ()))), ((2 : Int), ())), ())
    else
     (uE5 (.start t1.1.1 bits2)) >>= fun t5 =>
     if (!t5.1.2.1) = true then
      some ((((⟨#[]⟩ : ByteArray), ((0 : Int), ([], ()))), ((3 : Int), ())), ())
     else
      some (((t5.1.1.1, (t5.1.1.2.1, (t5.1.1.2.2.1, ()))), ((0 : Int), ())), ())
   else none
def xr4 : List (Plc E wF6) := []
theorem wX1 : All (ub8 45 0 vO3 xS4) xr4 := trivial
def wm7 : Code := Tryz.f19.body.getD .skip
def ww7 : Spec E.S := (Con.add w74 (Con.add uU8 (Con.add uP2 (Con.add uG1 (Con.add uG2 ub1)))))
theorem wd5 : ub0 E ww7 := (Con.add_ok wJ8 (Con.add_ok ur7 (Con.add_ok uu1 (Con.add_ok uo4 (Con.add_ok uo5 ua7)))))
theorem xF8 : ∀ pt r, vk8 pt = some r → Good E Tryz.f19 wm7 0 (vi0.av r) (vi0.bx r) (vO3 pt) (xS4 pt) := by
 intro pt r hr
 cases pt <;> exact ua9 (spec := ww7) (wr := (mkWr [] [])) (l := xr4) (z := 45) (p := vi0) (run' := fun _ => none) E_ok wX1.mem rfl wd5 (fun _ _ h => by cases h) (Eq.trans (by kernel_rfl) hr)
def w75 : Con E := ⟨19, _, _, (.cons (Rw.sl 103) (.cons (Rw.agg (.cons (Rd.int .i64).w (.cons (Rd.int .i64).w (.cons Rd.str.w (.cons (Rw.sl 25) .nil))))) (.cons (Rd.int .i64).w .nil))), .nil, 0, xY5, fun a b => vk8 (.start a.1 a.2.1.1 a.2.1.2.1 a.2.1.2.2.1 a.2.1.2.2.2.1 a.2.2.1), vi0.av, vi0.bx⟩
theorem wJ9 : w75.Ok := fun a b r h => ub4 (fn := Tryz.f19) (code := wm7) E_ok (by kernel_rfl) (by kernel_rfl) (by kernel_rfl) (Nat.le_of_ble_eq_true rfl) (xF8 (.start a.1 a.2.1.1 a.2.1.2.1 a.2.1.2.2.1 a.2.1.2.2.2.1 a.2.2.1) r h)
inductive uZ1 where
 | start (v0_0 : ByteArray) (v0_1 : (List ua6)) (v0_2 : (Option (List (Option ua4))))
 | p116 (n3 : Int) (s7 : (Option (List (Option ua4)))) (s8 : Int) (s9 : Int)
def uv7 : uZ1 → List Bool
 | .start .. => []
 | .p116 .. => [false, false, true, false, true, true]
def vm4 : uZ1 → St E.S
 | .start v0_0 v0_1 v0_2 => st0 19 [.agg [.v (.string v0_0), .sl 58 v0_1 false, .so 105 v0_2]] []
 | .p116 n3 s7 s8 s9 => mkSt 19 [3, 7, 8, 9] [.v (.int .i64 n3), .so 105 s7, .v (.int .i64 s8), .v (.int .i64 s9)] []
abbrev vp1 : Type := ((Int × Unit) × Unit)
def uj6 : Res E (Int × Unit) Unit := { rows := [], flat := [], keep := 0, done := [0], rl := (.cons (Rd.int .i64) .nil), rb := .nil }
inductive uZ2 where
 | start (x0 : (Option ua4))
 | p244 (sum3 : Int) (s16 : (Option (List data_variant))) (s17 : Int) (s18 : Int)
def uv8 : uZ2 → List Bool
 | .start .. => []
 | .p244 .. => [false, false, true, false, true, true, true]
def vm5 : uZ2 → St E.S
 | .start x0 => st0 28 [.op 128 x0] []
 | .p244 sum3 s16 s17 s18 => mkSt 28 [3, 16, 17, 18] [.v (.int .i64 sum3), .so 125 s16, .v (.int .i64 s17), .v (.int .i64 s18)] []
abbrev vp2 : Type := ((Int × Unit) × Unit)
def uj7 : Res E (Int × Unit) Unit := { rows := [], flat := [], keep := 0, done := [0], rl := (.cons (Rd.int .i64) .nil), rb := .nil }
mutual
def uk3 : uZ1 → Option vp1
 | .start v0_0 v0_1 v0_2 =>
  uk3 (.p116 (1 : Int) v0_2 (List.length (Option.getD v0_2 []) : Int) (0 : Int))
 | .p116 n3 s7 s8 s9 =>
  if (decide (s9 < s8)) = true then
   (idx (Option.getD s7 []) s9) >>= fun t1 =>
   (run_z61 (.start t1)) >>= fun t2 =>
   uk3 (.p116 (IntKind.wrap .i64 (n3 * t2.1.1)) s7 s8 (IntKind.wrap .i64 (s9 + (1 : Int))))
  else
   some ((n3, ()), ())
 partial_fixpoint
def run_z61 : uZ2 → Option vp2
 | .start x0 =>
  (un8 (.start x0)) >>= fun t1 =>
  if t1.1.1 = true then
   x0 >>= fun t2 =>
   if (decide ((0 : Int) ≤ t2.bits)) = true then
    some ((shl .i64 (1 : Int) t2.bits, ()), ())
   else none
  else
   x0 >>= fun t3 =>
   run_z61 (.p244 (0 : Int) t3.constructors (List.length (Option.getD t3.constructors []) : Int) (0 : Int))
 | .p244 sum3 s16 s17 s18 =>
  if (decide (s18 < s17)) = true then
   (idx (Option.getD s16 []) s18) >>= fun t1 =>
   (uk3 (.start t1.name t1.fields t1.parts)) >>= fun t2 =>
   run_z61 (.p244 (IntKind.wrap .i64 (sum3 + t2.1.1)) s16 s17 (IntKind.wrap .i64 (s18 + (1 : Int))))
  else
   some ((sum3, ()), ())
 partial_fixpoint
end
def xr6 : List (Plc E uZ1) := [⟨116, [false, false, true, false, true, true], { slots := [3, 7, 8, 9], rows := [], flat := [], keep := 0 }, _, _, (.cons (Rd.int .i64) (.cons (Rd.so 105) (.cons (Rd.int .i64) (.cons (Rd.int .i64) .nil)))), .nil, fun a b => .p116 a.1 a.2.1 a.2.2.1 a.2.2.2.1⟩]
theorem wX2 : All (ub8 19 0 uv7 vm4) xr6 := ⟨⟨rfl, rfl, fun _ _ => rfl, fun _ _ => rfl⟩, trivial⟩
def ux7 : Code := Tryz.f108.body.getD .skip
def v18 (run' : uZ1 → Option vp1) : Con E := ⟨108, ((ByteArray × ((List ua6) × ((Option (List (Option ua4))) × Unit))) × Unit), Unit, (RwL.cons (Rw.agg (RwL.cons Rd.str.w (RwL.cons (Rw.sl 58) (RwL.cons (Rd.so 105).w RwL.nil)))) RwL.nil), RdBL.nil, 0, vp1, fun a b => run' (.start a.1.1 a.1.2.1 a.1.2.2.1), uj6.av, uj6.bx⟩
theorem vu5 {run' : uZ1 → Option vp1} (ih : ∀ pt r, run' pt = some r → Good E Tryz.f108 ux7 0 (uj6.av r) (uj6.bx r) (uv7 pt) (vm4 pt)) : (v18 run').Ok := fun a b r h => ub4 (fn := Tryz.f108) (code := ux7) E_ok (by kernel_rfl) (by kernel_rfl) (by kernel_rfl) (Nat.le_of_ble_eq_true rfl) (ih (.start a.1.1 a.1.2.1 a.1.2.2.1) r h)
def xr7 : List (Plc E uZ2) := [⟨244, [false, false, true, false, true, true, true], { slots := [3, 16, 17, 18], rows := [], flat := [], keep := 0 }, _, _, (.cons (Rd.int .i64) (.cons (Rd.so 125) (.cons (Rd.int .i64) (.cons (Rd.int .i64) .nil)))), .nil, fun a b => .p244 a.1 a.2.1 a.2.2.1 a.2.2.2.1⟩]
theorem wX3 : All (ub8 28 0 uv8 vm5) xr7 := ⟨⟨rfl, rfl, fun _ _ => rfl, fun _ _ => rfl⟩, trivial⟩
def ux8 : Code := Tryz.f68.body.getD .skip
def v19 (run' : uZ2 → Option vp2) : Con E := ⟨68, ((Option ua4) × Unit), Unit, (RwL.cons (Rd.op 128).w RwL.nil), RdBL.nil, 0, vp2, fun a b => run' (.start a.1), uj7.av, uj7.bx⟩
theorem vu6 {run' : uZ2 → Option vp2} (ih : ∀ pt r, run' pt = some r → Good E Tryz.f68 ux8 0 (uj7.av r) (uj7.bx r) (uv8 pt) (vm5 pt)) : (v19 run').Ok := fun a b r h => ub4 (fn := Tryz.f68) (code := ux8) E_ok (by kernel_rfl) (by kernel_rfl) (by kernel_rfl) (Nat.le_of_ble_eq_true rfl) (ih (.start a.1) r h)
def ww8 (r_z60 : uZ1 → Option vp1) (r_z61 : uZ2 → Option vp2) : Spec E.S := (Con.add (v19 r_z61) (Con.add (v18 r_z60) ub1))
theorem wd6 {r_z60 : uZ1 → Option vp1} (h_z60 : ∀ pt r, r_z60 pt = some r → Good E Tryz.f108 ux7 0 (uj6.av r) (uj6.bx r) (uv7 pt) (vm4 pt)) {r_z61 : uZ2 → Option vp2} (h_z61 : ∀ pt r, r_z61 pt = some r → Good E Tryz.f68 ux8 0 (uj7.av r) (uj7.bx r) (uv8 pt) (vm5 pt)) : ub0 E (ww8 r_z60 r_z61) := (Con.add_ok (vu6 h_z61) (Con.add_ok (vu5 h_z60) ua7))
def ww9 (r_z60 : uZ1 → Option vp1) (r_z61 : uZ2 → Option vp2) : Spec E.S := (Con.add (v19 r_z61) (Con.add (v18 r_z60) (Con.add uB9 ub1)))
theorem wd7 {r_z60 : uZ1 → Option vp1} (h_z60 : ∀ pt r, r_z60 pt = some r → Good E Tryz.f108 ux7 0 (uj6.av r) (uj6.bx r) (uv7 pt) (vm4 pt)) {r_z61 : uZ2 → Option vp2} (h_z61 : ∀ pt r, r_z61 pt = some r → Good E Tryz.f68 ux8 0 (uj7.av r) (uj7.bx r) (uv8 pt) (vm5 pt)) : ub0 E (ww9 r_z60 r_z61) := (Con.add_ok (vu6 h_z61) (Con.add_ok (vu5 h_z60) (Con.add_ok um5 ua7)))
theorem vK0 : (∀ pt r, uk3 pt = some r → Good E Tryz.f108 ux7 0 (uj6.av r) (uj6.bx r) (uv7 pt) (vm4 pt)) ∧ (∀ pt r, run_z61 pt = some r → Good E Tryz.f68 ux8 0 (uj7.av r) (uj7.bx r) (uv8 pt) (vm5 pt)) := by
  refine uk3.mutual_partial_correctness (fun pt r => Good E Tryz.f108 ux7 0 (uj6.av r) (uj6.bx r) (uv7 pt) (vm4 pt)) (fun pt r => Good E Tryz.f68 ux8 0 (uj7.av r) (uj7.bx r) (uv8 pt) (vm5 pt)) ?_ ?_
  · intro r_z60 r_z61 h_z60 h_z61 pt r hr
    cases pt <;> exact ua9 (spec := (ww8 r_z60 r_z61)) (wr := (mkWr [] [])) (l := xr6) (z := 19) (p := uj6) E_ok wX2.mem rfl (wd6 h_z60 h_z61) h_z60 (Eq.trans (by kernel_rfl) hr)
  · intro r_z60 r_z61 h_z60 h_z61 pt r hr
    cases pt <;> exact ua9 (spec := (ww9 r_z60 r_z61)) (wr := (mkWr [] [])) (l := xr7) (z := 28) (p := uj7) E_ok wX3.mem rfl (wd7 h_z60 h_z61) h_z61 (Eq.trans (by kernel_rfl) hr)
theorem xF9 : ∀ pt r, uk3 pt = some r → Good E Tryz.f108 ux7 0 (uj6.av r) (uj6.bx r) (uv7 pt) (vm4 pt) := vK0.1
theorem xG0 : ∀ pt r, run_z61 pt = some r → Good E Tryz.f68 ux8 0 (uj7.av r) (uj7.bx r) (uv8 pt) (vm5 pt) := vK0.2
def w77 : Con E := ⟨108, _, _, (.cons (Rw.agg (.cons Rd.str.w (.cons (Rw.sl 58) (.cons (Rd.so 105).w .nil)))) .nil), .nil, 0, vp1, fun a b => uk3 (.start a.1.1 a.1.2.1 a.1.2.2.1), uj6.av, uj6.bx⟩
theorem wK0 : w77.Ok := fun a b r h => ub4 (fn := Tryz.f108) (code := ux7) E_ok (by kernel_rfl) (by kernel_rfl) (by kernel_rfl) (Nat.le_of_ble_eq_true rfl) (xF9 (.start a.1.1 a.1.2.1 a.1.2.2.1) r h)
def vA5 : Con E := ⟨68, _, _, (.cons (Rd.op 128).w .nil), .nil, 0, vp2, fun a b => run_z61 (.start a.1), uj7.av, uj7.bx⟩
theorem u00 : vA5.Ok := fun a b r h => ub4 (fn := Tryz.f68) (code := ux8) E_ok (by kernel_rfl) (by kernel_rfl) (by kernel_rfl) (Nat.le_of_ble_eq_true rfl) (xG0 (.start a.1) r h)
inductive vo2 where
 | start (x0 : (Option ua4)) (index1 : Int)
 | p116 (index1 : Int) (s18 : (Option (List data_variant))) (s19 : Int) (s20 : Int) (C0 : ByteArray) (C1 : Int)
 | p478452 (index1 : Int) (n7 : Int) (s36 : (Option (List (Option ua4)))) (s37 : Int) (s38 : Int) (C0 : ByteArray) (C1 : Int) (D0 : ByteArray) (D1 : Int) (B2 : (List ua5))
def uH8 : vo2 → List Bool
 | .start .. => []
 | .p116 .. => [false, false, true, false, true, true]
 | .p478452 .. => [false, false, true, false, true, true, true, true, false, false, true, true, false, false, true, false, true, true]
def vU4 : vo2 → St E.S
 | .start x0 index1 => st0 63 [.op 128 x0, .v (.int .i64 index1)] []
 | .p116 index1 s18 s19 s20 C0 C1 => mkSt 63 [1, 4, 18, 19, 20] [.v (.int .i64 index1), .bp 0 0, .so 125 s18, .v (.int .i64 s19), .v (.int .i64 s20)] [.var 37 [.v (.string C0), .v (.int .i64 C1), .nl]]
 | .p478452 index1 n7 s36 s37 s38 C0 C1 D0 D1 B2 => mkSt 63 [1, 4, 7, 8, 36, 37, 38] [.v (.int .i64 index1), .bp 0 0, .v (.int .i64 n7), .bp 1 0, .so 105 s36, .v (.int .i64 s37), .v (.int .i64 s38)] [.var 37 [.v (.string C0), .v (.int .i64 C1), .nl], .var 37 [.v (.string D0), .v (.int .i64 D1), .rw 2], .row 37 B2 false]
abbrev vH4 : Type := (((ByteArray × (Int × ((List ua5) × Unit))) × Unit) × Unit)
def up7 : Res E ((ByteArray × (Int × ((List ua5) × Unit))) × Unit) Unit := { rows := [], flat := [], keep := 0, deep := [(false, 0, 2, 37)], done := [0], rl := (.cons (Rd.agg (.cons Rd.str (.cons (Rd.int .i64) (.cons (Rd.sl 37 false) .nil)))) .nil), rb := .nil }
def uw4 : vo2 → Option vH4
 | .start x0 index1 =>
  (un8 (.start x0)) >>= fun t1 =>
  if t1.1.1 = true then
   some ((((⟨#[]⟩ : ByteArray), (index1, ([], ()))), ()), ())
  else
   x0 >>= fun t2 =>
   uw4 (.p116 index1 t2.constructors (List.length (Option.getD t2.constructors []) : Int) (0 : Int) (⟨#[]⟩ : ByteArray) (0 : Int))
 | .p116 index1 s18 s19 s20 C0 C1 =>
  if (decide (s20 < s19)) = true then
   (idx (Option.getD s18 []) s20) >>= fun t1 =>
   (uk3 (.start t1.name t1.fields t1.parts)) >>= fun t2 =>
   if (decide (index1 ≥ t2.1.1)) = true then
    uw4 (.p116 (IntKind.wrap .i64 (index1 - t2.1.1)) s18 s19 (IntKind.wrap .i64 (s20 + (1 : Int))) C0 C1)
   else
    uw4 (.p478452 index1 t2.1.1 t1.parts (List.length (Option.getD t1.parts []) : Int) (0 : Int) C0 C1 t1.name (0 : Int) ([] : List ua5))
  else
   some ((((⟨#[]⟩ : ByteArray), ((0 : Int), ([], ()))), ()), ())
 | .p478452 index1 n7 s36 s37 s38 C0 C1 D0 D1 B2 =>
  if (decide (s38 < s37)) = true then
   (idx (Option.getD s36 []) s38) >>= fun t1 =>
   (run_z61 (.start t1)) >>= fun t2 =>
   if (!(t2.1.1 == (0 : Int))) = true then
    if (!((IntKind.wrap .i64 (Int.tdiv n7 t2.1.1)) == (0 : Int))) = true then
     (uw4 (.start t1 (IntKind.wrap .i64 (Int.tdiv index1 (IntKind.wrap .i64 (Int.tdiv n7 t2.1.1)))))) >>= fun t3 =>
     if (fits (List.length B2) (List.length ([(⟨t3.1.1.1, t3.1.1.2.1, t3.1.1.2.2.1⟩ : ua5)] : List ua5)) 48) = true then
      if (!((IntKind.wrap .i64 (Int.tdiv n7 t2.1.1)) == (0 : Int))) = true then
       uw4 (.p478452 (Int.tmod index1 (IntKind.wrap .i64 (Int.tdiv n7 t2.1.1))) (IntKind.wrap .i64 (Int.tdiv n7 t2.1.1)) s36 s37 (IntKind.wrap .i64 (s38 + (1 : Int))) C0 C1 D0 D1 (B2 ++ ([(⟨t3.1.1.1, t3.1.1.2.1, t3.1.1.2.2.1⟩ : ua5)] : List ua5)))
      else none
     else none
    else none
   else none
  else
   some (((D0, (D1, (B2, ()))), ()), ())
 partial_fixpoint
def xr8 : List (Plc E vo2) := [⟨116, [false, false, true, false, true, true], { slots := [1, 4, 18, 19, 20], rows := [], flat := [], keep := 0 }, _, _, (.cons (Rd.int .i64) (.cons (Rd.bp 0 0) (.cons (Rd.so 125) (.cons (Rd.int .i64) (.cons (Rd.int .i64) .nil))))), (.cons (.var 37 (.cons Rd.str (.cons (Rd.int .i64) (.cons Rd.nl .nil)))) .nil), fun a b => .p116 a.1 a.2.2.1 a.2.2.2.1 a.2.2.2.2.1 b.1.1 b.1.2.1⟩,
 ⟨478452, [false, false, true, false, true, true, true, true, false, false, true, true, false, false, true, false, true, true], { slots := [1, 4, 7, 8, 36, 37, 38], rows := [], flat := [], keep := 0, up := [(true, 8, 2, 37)] }, _, _, (.cons (Rd.int .i64) (.cons (Rd.bp 0 0) (.cons (Rd.int .i64) (.cons (Rd.bp 1 0) (.cons (Rd.so 105) (.cons (Rd.int .i64) (.cons (Rd.int .i64) .nil))))))), (.cons (.var 37 (.cons Rd.str (.cons (Rd.int .i64) (.cons Rd.nl .nil)))) (.cons (.var 37 (.cons Rd.str (.cons (Rd.int .i64) (.cons (Rd.rw 2) .nil)))) (.cons (.row 37 false) .nil))), fun a b => .p478452 a.1 a.2.2.1 a.2.2.2.2.1 a.2.2.2.2.2.1 a.2.2.2.2.2.2.1 b.1.1 b.1.2.1 b.2.1.1 b.2.1.2.1 b.2.2.1⟩]
theorem wX4 : All (ub8 63 0 uH8 vU4) xr8 := ⟨⟨rfl, rfl, fun _ _ => rfl, fun _ _ => rfl⟩, ⟨⟨rfl, rfl, fun _ _ => rfl, fun _ _ => rfl⟩, trivial⟩⟩
def uK7 : Code := Tryz.f84.body.getD .skip
def xf3 (run' : vo2 → Option vH4) : Con E := ⟨84, ((Option ua4) × (Int × Unit)), Unit, (RwL.cons (Rd.op 128).w (RwL.cons (Rd.int .i64).w RwL.nil)), RdBL.nil, 0, vH4, fun a b => run' (.start a.1 a.2.1), up7.av, up7.bx⟩
theorem wP2 {run' : vo2 → Option vH4} (ih : ∀ pt r, run' pt = some r → Good E Tryz.f84 uK7 0 (up7.av r) (up7.bx r) (uH8 pt) (vU4 pt)) : (xf3 run').Ok := fun a b r h => ub4 (fn := Tryz.f84) (code := uK7) E_ok (by kernel_rfl) (by kernel_rfl) (by kernel_rfl) (Nat.le_of_ble_eq_true rfl) (ih (.start a.1 a.2.1) r h)
def wx0 (run' : vo2 → Option vH4) : Spec E.S := (Con.add (xf3 run') (Con.add vA5 (Con.add w77 (Con.add uB9 ub1))))
theorem wd8 {run' : vo2 → Option vH4} (ih : ∀ pt r, run' pt = some r → Good E Tryz.f84 uK7 0 (up7.av r) (up7.bx r) (uH8 pt) (vU4 pt)) : ub0 E (wx0 run') := (Con.add_ok (wP2 ih) (Con.add_ok u00 (Con.add_ok wK0 (Con.add_ok um5 ua7))))
theorem xG1 : ∀ pt r, uw4 pt = some r → Good E Tryz.f84 uK7 0 (up7.av r) (up7.bx r) (uH8 pt) (vU4 pt) := by
 refine uw4.partial_correctness (fun pt r => Good E Tryz.f84 uK7 0 (up7.av r) (up7.bx r) (uH8 pt) (vU4 pt)) ?_
 intro run' ih pt r hr
 cases pt <;> exact ua9 (spec := (wx0 run')) (wr := (mkWr [] [])) (l := xr8) (z := 63) (p := up7) E_ok wX4.mem rfl (wd8 ih) ih (Eq.trans (by kernel_rfl) hr)
def w78 : Con E := ⟨84, _, _, (.cons (Rd.op 128).w (.cons (Rd.int .i64).w .nil)), .nil, 0, vH4, fun a b => uw4 (.start a.1 a.2.1), up7.av, up7.bx⟩
theorem wK1 : w78.Ok := fun a b r h => ub4 (fn := Tryz.f84) (code := uK7) E_ok (by kernel_rfl) (by kernel_rfl) (by kernel_rfl) (Nat.le_of_ble_eq_true rfl) (xG1 (.start a.1 a.2.1) r h)
inductive wF7 where
 | start (l0 : (List ua2)) (t1_0 : Int) (t1_1 : Int) (t1_2 : ByteArray) (t1_3 : (List ua0)) (index2 : Int)
def vO4 : wF7 → List Bool
 | .start .. => []
def xS5 : wF7 → St E.S
 | .start l0 t1_0 t1_1 t1_2 t1_3 index2 => st0 32 [.sl 103 l0 false, .agg [.v (.int .i64 t1_0), .v (.int .i64 t1_1), .v (.string t1_2), .sl 25 t1_3 false], .v (.int .i64 index2)] []
abbrev xY6 : Type := (((ByteArray × (Int × ((List ua5) × Unit))) × (Int × Unit)) × Unit)
def vi2 : Res E ((ByteArray × (Int × ((List ua5) × Unit))) × (Int × Unit)) Unit := { rows := [], flat := [], keep := 0, deep := [(false, 0, 2, 37)], done := [0, 1], rl := (.cons (Rd.agg (.cons Rd.str (.cons (Rd.int .i64) (.cons (Rd.sl 37 false) .nil)))) (.cons (Rd.int .i64) .nil)), rb := .nil }
def vk9 : wF7 → Option xY6
 | .start l0 t1_0 t1_1 t1_2 t1_3 index2 =>
  (uq9 (.start l0 t1_0 t1_1 t1_2 t1_3)) >>= fun t1 =>
  if (t1.1.2.2.1 != (0 : Int)) = true then
   some ((((⟨#[]⟩ : ByteArray), ((0 : Int), ([], ()))), (t1.1.2.2.1, ())), ())
  else
   (run_z61 (.start t1.1.1)) >>= fun t2 =>
   (uk8 (.start index2 (0 : Int) (IntKind.wrap .i64 (t2.1.1 - (1 : Int))))) >>= fun t3 =>
   if (!t3.1.1) = true then
    some ((((⟨#[]⟩ : ByteArray), ((0 : Int), ([], ()))), ((6 : Int), ())), ())
   else
    (uw4 (.start t1.1.1 index2)) >>= fun t4 =>
    some (((t4.1.1.1, (t4.1.1.2.1, (t4.1.1.2.2.1, ()))), ((0 : Int), ())), ())
def xr9 : List (Plc E wF7) := []
theorem wX5 : All (ub8 32 0 vO4 xS5) xr9 := trivial
def wm8 : Code := Tryz.f33.body.getD .skip
def wx1 : Spec E.S := (Con.add w78 (Con.add uU8 (Con.add vA5 (Con.add uG2 ub1))))
theorem wd9 : ub0 E wx1 := (Con.add_ok wK1 (Con.add_ok ur7 (Con.add_ok u00 (Con.add_ok uo5 ua7))))
theorem xG2 : ∀ pt r, vk9 pt = some r → Good E Tryz.f33 wm8 0 (vi2.av r) (vi2.bx r) (vO4 pt) (xS5 pt) := by
 intro pt r hr
 cases pt <;> exact ua9 (spec := wx1) (wr := (mkWr [] [])) (l := xr9) (z := 32) (p := vi2) (run' := fun _ => none) E_ok wX5.mem rfl wd9 (fun _ _ h => by cases h) (Eq.trans (by kernel_rfl) hr)
def w79 : Con E := ⟨33, _, _, (.cons (Rw.sl 103) (.cons (Rw.agg (.cons (Rd.int .i64).w (.cons (Rd.int .i64).w (.cons Rd.str.w (.cons (Rw.sl 25) .nil))))) (.cons (Rd.int .i64).w .nil))), .nil, 0, xY6, fun a b => vk9 (.start a.1 a.2.1.1 a.2.1.2.1 a.2.1.2.2.1 a.2.1.2.2.2.1 a.2.2.1), vi2.av, vi2.bx⟩
theorem wK2 : w79.Ok := fun a b r h => ub4 (fn := Tryz.f33) (code := wm8) E_ok (by kernel_rfl) (by kernel_rfl) (by kernel_rfl) (Nat.le_of_ble_eq_true rfl) (xG2 (.start a.1 a.2.1.1 a.2.1.2.1 a.2.1.2.2.1 a.2.1.2.2.2.1 a.2.2.1) r h)
inductive u86 where
 | start (s0 : Int) (x1_0 : ByteArray) (x1_1 : Int) (x1_2 : (List ua5))
def uA5 : u86 → List Bool
 | .start .. => []
def vw3 : u86 → St E.S
 | .start s0 x1_0 x1_1 x1_2 => st0 7 [.v (.int .i64 s0), .agg [.v (.string x1_0), .v (.int .i64 x1_1), .sl 37 x1_2 false]] []
abbrev vH5 : Type := ((Int × Unit) × Unit)
def um1 : Res E (Int × Unit) Unit := { rows := [], flat := [], keep := 0, done := [0], rl := (.cons (Rd.int .i64) .nil), rb := .nil }
inductive uZ3 where
 | start (v0_0 : ByteArray) (v0_1 : Int) (v0_2 : (List ua5))
 | p15 (e4 : Int) (C0 : ByteArray) (C1 : Int) (C2 : (List ua5))
def uv9 : uZ3 → List Bool
 | .start .. => []
 | .p15 .. => [true, true, true]
def vm6 : uZ3 → St E.S
 | .start v0_0 v0_1 v0_2 => st0 47 [.agg [.v (.string v0_0), .v (.int .i64 v0_1), .sl 37 v0_2 false]] []
 | .p15 e4 C0 C1 C2 => mkSt 47 [1, 4] [.bp 0 0, .v (.int .i64 e4)] [.var 37 [.v (.string C0), .v (.int .i64 C1), .sl 37 C2 false]]
abbrev vp3 : Type := ((Int × Unit) × Unit)
def uj8 : Res E (Int × Unit) Unit := { rows := [], flat := [], keep := 0, done := [0], rl := (.cons (Rd.int .i64) .nil), rb := .nil }
inductive uZ4 where
 | start (l0 : (List ua5))
 | p52 (s9 : (List ua5)) (s10 : Int) (s11 : Int)
def uw0 : uZ4 → List Bool
 | .start .. => []
 | .p52 .. => [false, false, true, false, true]
def vm7 : uZ4 → St E.S
 | .start l0 => st0 25 [.sl 37 l0 false, .fn 135 []] []
 | .p52 s9 s10 s11 => mkSt 25 [1, 9, 10, 11] [.fn 135 [], .sl 37 s9 false, .v (.int .i64 s10), .v (.int .i64 s11)] []
abbrev vp4 : Type := ((Int × (Int × Unit)) × Unit)
def uj9 : Res E (Int × (Int × Unit)) Unit := { rows := [], flat := [], keep := 0, done := [0, 1], rl := (.cons (Rd.int .i64) (.cons (Rd.int .i64) .nil)), rb := .nil }
mutual
def uJ8 : u86 → Option vH5
 | .start s0 x1_0 x1_1 x1_2 =>
  (run_z65 (.start x1_0 x1_1 x1_2)) >>= fun t1 =>
  some ((t1.1.1, ()), ())
 partial_fixpoint
def run_z65 : uZ3 → Option vp3
 | .start v0_0 v0_1 v0_2 =>
  if (!(seq v0_0 (⟨#[]⟩ : ByteArray))) = true then
   (uc7 (.start true (3 : Int))) >>= fun t1 =>
   if (seq v0_0 (⟨#[]⟩ : ByteArray)) = true then
    (uc7 (.start true (3 : Int))) >>= fun t2 =>
    if (seq v0_0 (⟨#[]⟩ : ByteArray)) = true then
     (uc7 (.start true (4 : Int))) >>= fun t3 =>
     (uk8 (.start v0_1 (0 : Int) (99999 : Int))) >>= fun t4 =>
     (uc7 (.start t4.1.1 (2 : Int))) >>= fun t5 =>
     (ud1 (.start ([t1.1.1, t2.1.1, t3.1.1, t5.1.1] : List Int))) >>= fun t6 =>
     run_z65 (.p15 t6.1.1 v0_0 v0_1 v0_2)
    else
     (ug8 (.start v0_0)) >>= fun t7 =>
     (uc7 (.start t7.1.1 (4 : Int))) >>= fun t8 =>
     (uk8 (.start v0_1 (0 : Int) (99999 : Int))) >>= fun t9 =>
     (uc7 (.start t9.1.1 (2 : Int))) >>= fun t10 =>
     (ud1 (.start ([t1.1.1, t2.1.1, t8.1.1, t10.1.1] : List Int))) >>= fun t11 =>
     run_z65 (.p15 t11.1.1 v0_0 v0_1 v0_2)
   else
    (uc7 (.start (v0_1 == (0 : Int)) (3 : Int))) >>= fun t12 =>
    if (seq v0_0 (⟨#[]⟩ : ByteArray)) = true then
     (uc7 (.start true (4 : Int))) >>= fun t13 =>
     (uk8 (.start v0_1 (0 : Int) (99999 : Int))) >>= fun t14 =>
     (uc7 (.start t14.1.1 (2 : Int))) >>= fun t15 =>
     (ud1 (.start ([t1.1.1, t12.1.1, t13.1.1, t15.1.1] : List Int))) >>= fun t16 =>
     run_z65 (.p15 t16.1.1 v0_0 v0_1 v0_2)
    else
     (ug8 (.start v0_0)) >>= fun t17 =>
     (uc7 (.start t17.1.1 (4 : Int))) >>= fun t18 =>
     (uk8 (.start v0_1 (0 : Int) (99999 : Int))) >>= fun t19 =>
     (uc7 (.start t19.1.1 (2 : Int))) >>= fun t20 =>
     (ud1 (.start ([t1.1.1, t12.1.1, t18.1.1, t20.1.1] : List Int))) >>= fun t21 =>
     run_z65 (.p15 t21.1.1 v0_0 v0_1 v0_2)
  else
   (uc7 (.start ((List.length v0_2 : Int) == (0 : Int)) (3 : Int))) >>= fun t22 =>
   if (seq v0_0 (⟨#[]⟩ : ByteArray)) = true then
    (uc7 (.start true (3 : Int))) >>= fun t23 =>
    if (seq v0_0 (⟨#[]⟩ : ByteArray)) = true then
     (uc7 (.start true (4 : Int))) >>= fun t24 =>
     (uk8 (.start v0_1 (0 : Int) (99999 : Int))) >>= fun t25 =>
     (uc7 (.start t25.1.1 (2 : Int))) >>= fun t26 =>
     (ud1 (.start ([t22.1.1, t23.1.1, t24.1.1, t26.1.1] : List Int))) >>= fun t27 =>
     run_z65 (.p15 t27.1.1 v0_0 v0_1 v0_2)
    else
     (ug8 (.start v0_0)) >>= fun t28 =>
     (uc7 (.start t28.1.1 (4 : Int))) >>= fun t29 =>
     (uk8 (.start v0_1 (0 : Int) (99999 : Int))) >>= fun t30 =>
     (uc7 (.start t30.1.1 (2 : Int))) >>= fun t31 =>
     (ud1 (.start ([t22.1.1, t23.1.1, t29.1.1, t31.1.1] : List Int))) >>= fun t32 =>
     run_z65 (.p15 t32.1.1 v0_0 v0_1 v0_2)
   else
    (uc7 (.start (v0_1 == (0 : Int)) (3 : Int))) >>= fun t33 =>
    if (seq v0_0 (⟨#[]⟩ : ByteArray)) = true then
     (uc7 (.start true (4 : Int))) >>= fun t34 =>
     (uk8 (.start v0_1 (0 : Int) (99999 : Int))) >>= fun t35 =>
     (uc7 (.start t35.1.1 (2 : Int))) >>= fun t36 =>
     (ud1 (.start ([t22.1.1, t33.1.1, t34.1.1, t36.1.1] : List Int))) >>= fun t37 =>
     run_z65 (.p15 t37.1.1 v0_0 v0_1 v0_2)
    else
     (ug8 (.start v0_0)) >>= fun t38 =>
     (uc7 (.start t38.1.1 (4 : Int))) >>= fun t39 =>
     (uk8 (.start v0_1 (0 : Int) (99999 : Int))) >>= fun t40 =>
     (uc7 (.start t40.1.1 (2 : Int))) >>= fun t41 =>
     (ud1 (.start ([t22.1.1, t33.1.1, t39.1.1, t41.1.1] : List Int))) >>= fun t42 =>
     run_z65 (.p15 t42.1.1 v0_0 v0_1 v0_2)
 | .p15 e4 C0 C1 C2 =>
  if (e4 != (0 : Int)) = true then
   some ((e4, ()), ())
  else
   (run_z66 (.start C2)) >>= fun t1 =>
   some ((t1.1.2.1, ()), ())
 partial_fixpoint
def run_z66 : uZ4 → Option vp4
 | .start l0 =>
  run_z66 (.p52 l0 (List.length l0 : Int) (0 : Int))
 | .p52 s9 s10 s11 =>
  if (decide (s11 < s10)) = true then
   (idx s9 s11) >>= fun t1 =>
   (uJ8 (.start s11 t1.Name t1.Number t1.Parts)) >>= fun t2 =>
   if (t2.1.1 != (0 : Int)) = true then
    some ((s11, (t2.1.1, ())), ())
   else
    run_z66 (.p52 s9 s10 (IntKind.wrap .i64 (s11 + (1 : Int))))
  else
   some (((0 : Int), ((0 : Int), ())), ())
 partial_fixpoint
end
def xs0 : List (Plc E u86) := []
theorem wX6 : All (ub8 7 0 uA5 vw3) xs0 := trivial
def uB8 : Code := Tryz.f135.body.getD .skip
def xf4 (run' : u86 → Option vH5) : Con E := ⟨135, (Int × ((ByteArray × (Int × ((List ua5) × Unit))) × Unit)), Unit, (RwL.cons (Rd.int .i64).w (RwL.cons (Rw.agg (RwL.cons Rd.str.w (RwL.cons (Rd.int .i64).w (RwL.cons (Rw.sl 37) RwL.nil)))) RwL.nil)), RdBL.nil, 0, vH5, fun a b => run' (.start a.1 a.2.1.1 a.2.1.2.1 a.2.1.2.2.1), um1.av, um1.bx⟩
theorem wP3 {run' : u86 → Option vH5} (ih : ∀ pt r, run' pt = some r → Good E Tryz.f135 uB8 0 (um1.av r) (um1.bx r) (uA5 pt) (vw3 pt)) : (xf4 run').Ok := fun a b r h => ub4 (fn := Tryz.f135) (code := uB8) E_ok (by kernel_rfl) (by kernel_rfl) (by kernel_rfl) (Nat.le_of_ble_eq_true rfl) (ih (.start a.1 a.2.1.1 a.2.1.2.1 a.2.1.2.2.1) r h)
def xs2 : List (Plc E uZ3) := [⟨15, [true, true, true], { slots := [1, 4], rows := [], flat := [], keep := 0 }, _, _, (.cons (Rd.bp 0 0) (.cons (Rd.int .i64) .nil)), (.cons (.var 37 (.cons Rd.str (.cons (Rd.int .i64) (.cons (Rd.sl 37 false) .nil)))) .nil), fun a b => .p15 a.2.1 b.1.1 b.1.2.1 b.1.2.2.1⟩]
theorem wX7 : All (ub8 47 0 uv9 vm6) xs2 := ⟨⟨rfl, rfl, fun _ _ => rfl, fun _ _ => rfl⟩, trivial⟩
def ux9 : Code := Tryz.f97.body.getD .skip
def v22 (run' : uZ3 → Option vp3) : Con E := ⟨97, ((ByteArray × (Int × ((List ua5) × Unit))) × Unit), Unit, (RwL.cons (Rw.agg (RwL.cons Rd.str.w (RwL.cons (Rd.int .i64).w (RwL.cons (Rw.sl 37) RwL.nil)))) RwL.nil), RdBL.nil, 0, vp3, fun a b => run' (.start a.1.1 a.1.2.1 a.1.2.2.1), uj8.av, uj8.bx⟩
theorem vu7 {run' : uZ3 → Option vp3} (ih : ∀ pt r, run' pt = some r → Good E Tryz.f97 ux9 0 (uj8.av r) (uj8.bx r) (uv9 pt) (vm6 pt)) : (v22 run').Ok := fun a b r h => ub4 (fn := Tryz.f97) (code := ux9) E_ok (by kernel_rfl) (by kernel_rfl) (by kernel_rfl) (Nat.le_of_ble_eq_true rfl) (ih (.start a.1.1 a.1.2.1 a.1.2.2.1) r h)
def xs3 : List (Plc E uZ4) := [⟨52, [false, false, true, false, true], { slots := [1, 9, 10, 11], rows := [], flat := [], keep := 0 }, _, _, (.cons (Rd.fn 135 .nil) (.cons (Rd.sl 37 false) (.cons (Rd.int .i64) (.cons (Rd.int .i64) .nil)))), .nil, fun a b => .p52 a.2.1 a.2.2.1 a.2.2.2.1⟩]
theorem wX8 : All (ub8 25 0 uw0 vm7) xs3 := ⟨⟨rfl, rfl, fun _ _ => rfl, fun _ _ => rfl⟩, trivial⟩
def uy0 : Code := Tryz.f134.body.getD .skip
def v23 (run' : uZ4 → Option vp4) : Con E := ⟨134, ((List ua5) × (Unit × Unit)), Unit, (RwL.cons (Rw.sl 37) (RwL.cons (Rd.fn 135 RdL.nil).w RwL.nil)), RdBL.nil, 0, vp4, fun a b => run' (.start a.1), uj9.av, uj9.bx⟩
theorem vu8 {run' : uZ4 → Option vp4} (ih : ∀ pt r, run' pt = some r → Good E Tryz.f134 uy0 0 (uj9.av r) (uj9.bx r) (uw0 pt) (vm7 pt)) : (v23 run').Ok := fun a b r h => ub4 (fn := Tryz.f134) (code := uy0) E_ok (by kernel_rfl) (by kernel_rfl) (by kernel_rfl) (Nat.le_of_ble_eq_true rfl) (ih (.start a.1) r h)
def wx2 (r_z65 : uZ3 → Option vp3) : Spec E.S := (Con.add (v22 r_z65) ub1)
theorem we0 {r_z65 : uZ3 → Option vp3} (h_z65 : ∀ pt r, r_z65 pt = some r → Good E Tryz.f97 ux9 0 (uj8.av r) (uj8.bx r) (uv9 pt) (vm6 pt)) : ub0 E (wx2 r_z65) := (Con.add_ok (vu7 h_z65) ua7)
def wx3 (r_z65 : uZ3 → Option vp3) (r_z66 : uZ4 → Option vp4) : Spec E.S := (Con.add (v23 r_z66) (Con.add (v22 r_z65) (Con.add w76 (Con.add uG1 (Con.add uU8 (Con.add uU9 ub1))))))
theorem we1 {r_z65 : uZ3 → Option vp3} (h_z65 : ∀ pt r, r_z65 pt = some r → Good E Tryz.f97 ux9 0 (uj8.av r) (uj8.bx r) (uv9 pt) (vm6 pt)) {r_z66 : uZ4 → Option vp4} (h_z66 : ∀ pt r, r_z66 pt = some r → Good E Tryz.f134 uy0 0 (uj9.av r) (uj9.bx r) (uw0 pt) (vm7 pt)) : ub0 E (wx3 r_z65 r_z66) := (Con.add_ok (vu8 h_z66) (Con.add_ok (vu7 h_z65) (Con.add_ok vJ6 (Con.add_ok uo4 (Con.add_ok ur7 (Con.add_ok ur8 ua7))))))
def wx4 (r_z64 : u86 → Option vH5) (r_z66 : uZ4 → Option vp4) : Spec E.S := (Con.add (v23 r_z66) (Con.add (xf4 r_z64) ub1))
theorem we2 {r_z64 : u86 → Option vH5} (h_z64 : ∀ pt r, r_z64 pt = some r → Good E Tryz.f135 uB8 0 (um1.av r) (um1.bx r) (uA5 pt) (vw3 pt)) {r_z66 : uZ4 → Option vp4} (h_z66 : ∀ pt r, r_z66 pt = some r → Good E Tryz.f134 uy0 0 (uj9.av r) (uj9.bx r) (uw0 pt) (vm7 pt)) : ub0 E (wx4 r_z64 r_z66) := (Con.add_ok (vu8 h_z66) (Con.add_ok (wP3 h_z64) ua7))
theorem vb4 : (∀ pt r, uJ8 pt = some r → Good E Tryz.f135 uB8 0 (um1.av r) (um1.bx r) (uA5 pt) (vw3 pt)) ∧ (∀ pt r, run_z65 pt = some r → Good E Tryz.f97 ux9 0 (uj8.av r) (uj8.bx r) (uv9 pt) (vm6 pt)) ∧ (∀ pt r, run_z66 pt = some r → Good E Tryz.f134 uy0 0 (uj9.av r) (uj9.bx r) (uw0 pt) (vm7 pt)) := by
  refine uJ8.mutual_partial_correctness (fun pt r => Good E Tryz.f135 uB8 0 (um1.av r) (um1.bx r) (uA5 pt) (vw3 pt)) (fun pt r => Good E Tryz.f97 ux9 0 (uj8.av r) (uj8.bx r) (uv9 pt) (vm6 pt)) (fun pt r => Good E Tryz.f134 uy0 0 (uj9.av r) (uj9.bx r) (uw0 pt) (vm7 pt)) ?_ ?_ ?_
  · intro r_z65 h_z65 pt r hr
    cases pt <;> exact ua9 (spec := (wx2 r_z65)) (wr := (mkWr [] [])) (l := xs0) (z := 7) (p := um1) (run' := fun _ => none) E_ok wX6.mem rfl (we0 h_z65) (fun _ _ h => by cases h) (Eq.trans (by kernel_rfl) hr)
  · intro r_z65 r_z66 h_z65 h_z66 pt r hr
    cases pt <;> exact ua9 (spec := (wx3 r_z65 r_z66)) (wr := (mkWr [] [])) (l := xs2) (z := 47) (p := uj8) E_ok wX7.mem rfl (we1 h_z65 h_z66) h_z65 (Eq.trans (by kernel_rfl) hr)
  · intro r_z64 r_z66 h_z64 h_z66 pt r hr
    cases pt <;> exact ua9 (spec := (wx4 r_z64 r_z66)) (wr := (mkWr [] [])) (l := xs3) (z := 25) (p := uj9) E_ok wX8.mem rfl (we2 h_z64 h_z66) h_z66 (Eq.trans (by kernel_rfl) hr)
theorem xG3 : ∀ pt r, uJ8 pt = some r → Good E Tryz.f135 uB8 0 (um1.av r) (um1.bx r) (uA5 pt) (vw3 pt) := vb4.1
theorem xG4 : ∀ pt r, run_z65 pt = some r → Good E Tryz.f97 ux9 0 (uj8.av r) (uj8.bx r) (uv9 pt) (vm6 pt) := vb4.2.1
theorem xG5 : ∀ pt r, run_z66 pt = some r → Good E Tryz.f134 uy0 0 (uj9.av r) (uj9.bx r) (uw0 pt) (vm7 pt) := vb4.2.2
def x01 : Con E := ⟨135, _, _, (.cons (Rd.int .i64).w (.cons (Rw.agg (.cons Rd.str.w (.cons (Rd.int .i64).w (.cons (Rw.sl 37) .nil)))) .nil)), .nil, 0, vH5, fun a b => uJ8 (.start a.1 a.2.1.1 a.2.1.2.1 a.2.1.2.2.1), um1.av, um1.bx⟩
theorem x71 : x01.Ok := fun a b r h => ub4 (fn := Tryz.f135) (code := uB8) E_ok (by kernel_rfl) (by kernel_rfl) (by kernel_rfl) (Nat.le_of_ble_eq_true rfl) (xG3 (.start a.1 a.2.1.1 a.2.1.2.1 a.2.1.2.2.1) r h)
def w80 : Con E := ⟨97, _, _, (.cons (Rw.agg (.cons Rd.str.w (.cons (Rd.int .i64).w (.cons (Rw.sl 37) .nil)))) .nil), .nil, 0, vp3, fun a b => run_z65 (.start a.1.1 a.1.2.1 a.1.2.2.1), uj8.av, uj8.bx⟩
theorem wK3 : w80.Ok := fun a b r h => ub4 (fn := Tryz.f97) (code := ux9) E_ok (by kernel_rfl) (by kernel_rfl) (by kernel_rfl) (Nat.le_of_ble_eq_true rfl) (xG4 (.start a.1.1 a.1.2.1 a.1.2.2.1) r h)
def x02 : Con E := ⟨134, _, _, (.cons (Rw.sl 37) (.cons (Rd.fn 135 .nil).w .nil)), .nil, 0, vp4, fun a b => run_z66 (.start a.1), uj9.av, uj9.bx⟩
theorem x72 : x02.Ok := fun a b r h => ub4 (fn := Tryz.f134) (code := uy0) E_ok (by kernel_rfl) (by kernel_rfl) (by kernel_rfl) (Nat.le_of_ble_eq_true rfl) (xG5 (.start a.1) r h)
inductive vo3 where
 | start (v0_0 : ByteArray) (v0_1 : Int) (v0_2 : (List ua5))
 | p500 (s19 : (List ua5)) (s20 : Int) (s21 : Int) (C0 : ByteArray) (C1 : Int) (C2 : (List ua5)) (B1 : (List ByteArray))
def uH9 : vo3 → List Bool
 | .start .. => []
 | .p500 .. => [false, false, true, false, true, true, true, true]
def vU5 : vo3 → St E.S
 | .start v0_0 v0_1 v0_2 => st0 38 [.agg [.v (.string v0_0), .v (.int .i64 v0_1), .sl 37 v0_2 false]] []
 | .p500 s19 s20 s21 C0 C1 C2 B1 => mkSt 38 [1, 3, 19, 20, 21] [.bp 0 0, .rw 1, .sl 37 s19 false, .v (.int .i64 s20), .v (.int .i64 s21)] [.var 37 [.v (.string C0), .v (.int .i64 C1), .sl 37 C2 false], .row 9 B1 false]
abbrev vH6 : Type := ((ByteArray × Unit) × Unit)
def up8 : Res E (ByteArray × Unit) Unit := { rows := [], flat := [], keep := 0, done := [0], rl := (.cons Rd.str .nil), rb := .nil }
def uE6 : vo3 → Option vH6
 | .start v0_0 v0_1 v0_2 =>
  if (seq v0_0 (⟨#[]⟩ : ByteArray)) = true then
   (vb8 (v0_1, ()) ()) >>= fun t1 =>
   some ((t1.1.1, ()), ())
  else
   if ((List.length v0_2 : Int) == (0 : Int)) = true then
    some ((v0_0, ()), ())
   else
    uE6 (.p500 v0_2 (List.length v0_2 : Int) (0 : Int) v0_0 v0_1 v0_2 ([] : List ByteArray))
 | .p500 s19 s20 s21 C0 C1 C2 B1 =>
  if (decide (s21 < s20)) = true then
   (idx s19 s21) >>= fun t1 =>
   (uE6 (.start t1.Name t1.Number t1.Parts)) >>= fun t2 =>
   if (fits (List.length B1) (List.length ([t2.1.1] : List ByteArray)) 16) = true then
    uE6 (.p500 s19 s20 (IntKind.wrap .i64 (s21 + (1 : Int))) C0 C1 C2 (B1 ++ ([t2.1.1] : List ByteArray)))
   else none
  else
   if (Nat.ble (C0.size + (⟨#[40]⟩ : ByteArray).size) 9223372036854775807) = true then
    (uP7 (B1, (⟨#[44, 32]⟩ : ByteArray), ()) ()) >>= fun t3 =>
    if (Nat.ble ((C0 ++ (⟨#[40]⟩ : ByteArray)).size + t3.1.1.size) 9223372036854775807) = true then
     if (Nat.ble (((C0 ++ (⟨#[40]⟩ : ByteArray)) ++ t3.1.1).size + (⟨#[41]⟩ : ByteArray).size) 9223372036854775807) = true then
      some ((((C0 ++ (⟨#[40]⟩ : ByteArray)) ++ t3.1.1) ++ (⟨#[41]⟩ : ByteArray), ()), ())
     else none
    else none
   else none
 partial_fixpoint
def xs4 : List (Plc E vo3) := [⟨500, [false, false, true, false, true, true, true, true], { slots := [1, 3, 19, 20, 21], rows := [(3, 9)], flat := [], keep := 0 }, _, _, (.cons (Rd.bp 0 0) (.cons (Rd.rw 1) (.cons (Rd.sl 37 false) (.cons (Rd.int .i64) (.cons (Rd.int .i64) .nil))))), (.cons (.var 37 (.cons Rd.str (.cons (Rd.int .i64) (.cons (Rd.sl 37 false) .nil)))) (.cons (.row 9 false) .nil)), fun a b => .p500 a.2.2.1 a.2.2.2.1 a.2.2.2.2.1 b.1.1 b.1.2.1 b.1.2.2.1 b.2.1⟩]
theorem wX9 : All (ub8 38 0 uH9 vU5) xs4 := ⟨⟨rfl, rfl, fun _ _ => rfl, fun _ _ => rfl⟩, trivial⟩
def uK8 : Code := Tryz.f98.body.getD .skip
def xf5 (run' : vo3 → Option vH6) : Con E := ⟨98, ((ByteArray × (Int × ((List ua5) × Unit))) × Unit), Unit, (RwL.cons (Rw.agg (RwL.cons Rd.str.w (RwL.cons (Rd.int .i64).w (RwL.cons (Rw.sl 37) RwL.nil)))) RwL.nil), RdBL.nil, 0, vH6, fun a b => run' (.start a.1.1 a.1.2.1 a.1.2.2.1), up8.av, up8.bx⟩
theorem wP4 {run' : vo3 → Option vH6} (ih : ∀ pt r, run' pt = some r → Good E Tryz.f98 uK8 0 (up8.av r) (up8.bx r) (uH9 pt) (vU5 pt)) : (xf5 run').Ok := fun a b r h => ub4 (fn := Tryz.f98) (code := uK8) E_ok (by kernel_rfl) (by kernel_rfl) (by kernel_rfl) (Nat.le_of_ble_eq_true rfl) (ih (.start a.1.1 a.1.2.1 a.1.2.2.1) r h)
def wx5 (run' : vo3 → Option vH6) : Spec E.S := (Con.add (xf5 run') (Con.add us5 (Con.add us4 ub1)))
theorem we3 {run' : vo3 → Option vH6} (ih : ∀ pt r, run' pt = some r → Good E Tryz.f98 uK8 0 (up8.av r) (up8.bx r) (uH9 pt) (vU5 pt)) : ub0 E (wx5 run') := (Con.add_ok (wP4 ih) (Con.add_ok uv0 (Con.add_ok uu9 ua7)))
theorem xG6 : ∀ pt r, uE6 pt = some r → Good E Tryz.f98 uK8 0 (up8.av r) (up8.bx r) (uH9 pt) (vU5 pt) := by
 refine uE6.partial_correctness (fun pt r => Good E Tryz.f98 uK8 0 (up8.av r) (up8.bx r) (uH9 pt) (vU5 pt)) ?_
 intro run' ih pt r hr
 cases pt <;> exact ua9 (spec := (wx5 run')) (wr := (mkWr [] [])) (l := xs4) (z := 38) (p := up8) E_ok wX9.mem rfl (we3 ih) ih (Eq.trans (by kernel_rfl) hr)
def w81 : Con E := ⟨98, _, _, (.cons (Rw.agg (.cons Rd.str.w (.cons (Rd.int .i64).w (.cons (Rw.sl 37) .nil)))) .nil), .nil, 0, vH6, fun a b => uE6 (.start a.1.1 a.1.2.1 a.1.2.2.1), up8.av, up8.bx⟩
theorem wK4 : w81.Ok := fun a b r h => ub4 (fn := Tryz.f98) (code := uK8) E_ok (by kernel_rfl) (by kernel_rfl) (by kernel_rfl) (Nat.le_of_ble_eq_true rfl) (xG6 (.start a.1.1 a.1.2.1 a.1.2.2.1) r h)
inductive wF8 where
 | start (v0_0 : ByteArray) (v0_1 : Int) (v0_2 : (List ua5))
def vO5 : wF8 → List Bool
 | .start .. => []
def xS6 : wF8 → St E.S
 | .start v0_0 v0_1 v0_2 => st0 18 [.agg [.v (.string v0_0), .v (.int .i64 v0_1), .sl 37 v0_2 false]] []
abbrev xY7 : Type := ((ByteArray × (Int × Unit)) × Unit)
def vi3 : Res E (ByteArray × (Int × Unit)) Unit := { rows := [], flat := [], keep := 0, done := [0, 1], rl := (.cons Rd.str (.cons (Rd.int .i64) .nil)), rb := .nil }
def vl0 : wF8 → Option xY7
 | .start v0_0 v0_1 v0_2 =>
  (u29 (.start v0_0 v0_1 v0_2)) >>= fun t1 =>
  if (t1.1.1 != (0 : Int)) = true then
   some (((⟨#[]⟩ : ByteArray), (t1.1.1, ())), ())
  else
   (run_z65 (.start v0_0 v0_1 v0_2)) >>= fun t2 =>
   if (t2.1.1 != (0 : Int)) = true then
    some (((⟨#[]⟩ : ByteArray), (t2.1.1, ())), ())
   else
    (uE6 (.start v0_0 v0_1 v0_2)) >>= fun t3 =>
    some ((t3.1.1, ((0 : Int), ())), ())
def xs5 : List (Plc E wF8) := []
theorem wY0 : All (ub8 18 0 vO5 xS6) xs5 := trivial
def wm9 : Code := Tryz.f54.body.getD .skip
def wx6 : Spec E.S := (Con.add w81 (Con.add w80 (Con.add vY5 ub1)))
theorem we4 : ub0 E wx6 := (Con.add_ok wK4 (Con.add_ok wK3 (Con.add_ok vr5 ua7)))
theorem xG7 : ∀ pt r, vl0 pt = some r → Good E Tryz.f54 wm9 0 (vi3.av r) (vi3.bx r) (vO5 pt) (xS6 pt) := by
 intro pt r hr
 cases pt <;> exact ua9 (spec := wx6) (wr := (mkWr [] [])) (l := xs5) (z := 18) (p := vi3) (run' := fun _ => none) E_ok wY0.mem rfl we4 (fun _ _ h => by cases h) (Eq.trans (by kernel_rfl) hr)
def w82 : Con E := ⟨54, _, _, (.cons (Rw.agg (.cons Rd.str.w (.cons (Rd.int .i64).w (.cons (Rw.sl 37) .nil)))) .nil), .nil, 0, xY7, fun a b => vl0 (.start a.1.1 a.1.2.1 a.1.2.2.1), vi3.av, vi3.bx⟩
theorem wK5 : w82.Ok := fun a b r h => ub4 (fn := Tryz.f54) (code := wm9) E_ok (by kernel_rfl) (by kernel_rfl) (by kernel_rfl) (Nat.le_of_ble_eq_true rfl) (xG7 (.start a.1.1 a.1.2.1 a.1.2.2.1) r h)
inductive vo4 where
 | start (a0_0 : ByteArray) (a0_1 : Int) (a0_2 : (List ua5)) (b1_0 : ByteArray) (b1_1 : Int) (b1_2 : (List ua5))
 | p7 (C0 : ByteArray) (C1 : Int) (C2 : (List ua5)) (D0 : ByteArray) (D1 : Int) (D2 : (List ua5))
 | p116 (i5 : Int) (C0 : ByteArray) (C1 : Int) (C2 : (List ua5)) (D0 : ByteArray) (D1 : Int) (D2 : (List ua5))
def uI0 : vo4 → List Bool
 | .start .. => []
 | .p7 .. => [true, true]
 | .p116 .. => [false, false, true, false, true, true]
def vU6 : vo4 → St E.S
 | .start a0_0 a0_1 a0_2 b1_0 b1_1 b1_2 => st0 46 [.agg [.v (.string a0_0), .v (.int .i64 a0_1), .sl 37 a0_2 false], .agg [.v (.string b1_0), .v (.int .i64 b1_1), .sl 37 b1_2 false]] []
 | .p7 C0 C1 C2 D0 D1 D2 => mkSt 46 [2, 3] [.bp 0 0, .bp 1 0] [.var 37 [.v (.string C0), .v (.int .i64 C1), .sl 37 C2 false], .var 37 [.v (.string D0), .v (.int .i64 D1), .sl 37 D2 false]]
 | .p116 i5 C0 C1 C2 D0 D1 D2 => mkSt 46 [2, 3, 5] [.bp 0 0, .bp 1 0, .v (.int .i64 i5)] [.var 37 [.v (.string C0), .v (.int .i64 C1), .sl 37 C2 false], .var 37 [.v (.string D0), .v (.int .i64 D1), .sl 37 D2 false]]
abbrev vH7 : Type := ((Bool × Unit) × Unit)
def up9 : Res E (Bool × Unit) Unit := { rows := [], flat := [], keep := 0, done := [0], rl := (.cons Rd.bool .nil), rb := .nil }
def uz4 : vo4 → Option vH7
 | .start a0_0 a0_1 a0_2 b1_0 b1_1 b1_2 =>
  if (!(seq a0_0 b1_0)) = true then
   some ((false, ()), ())
  else
   if (a0_1 != b1_1) = true then
    some ((false, ()), ())
   else
    if ((List.length a0_2 : Int) != (List.length b1_2 : Int)) = true then
     some ((false, ()), ())
    else
     uz4 (.p7 a0_0 a0_1 a0_2 b1_0 b1_1 b1_2)
 | .p7 C0 C1 C2 D0 D1 D2 =>
  uz4 (.p116 (0 : Int) C0 C1 C2 D0 D1 D2)
 | .p116 i5 C0 C1 C2 D0 D1 D2 =>
  if (decide (i5 < (List.length C2 : Int))) = true then
   (idx C2 i5) >>= fun t1 =>
   (idx D2 i5) >>= fun t2 =>
   (uz4 (.start t1.Name t1.Number t1.Parts t2.Name t2.Number t2.Parts)) >>= fun t3 =>
   if (!t3.1.1) = true then
    some ((false, ()), ())
   else
    uz4 (.p116 (IntKind.wrap .i64 (i5 + (1 : Int))) C0 C1 C2 D0 D1 D2)
  else
   some ((true, ()), ())
 partial_fixpoint
def xs6 : List (Plc E vo4) := [⟨7, [true, true], { slots := [2, 3], rows := [], flat := [], keep := 0 }, _, _, (.cons (Rd.bp 0 0) (.cons (Rd.bp 1 0) .nil)), (.cons (.var 37 (.cons Rd.str (.cons (Rd.int .i64) (.cons (Rd.sl 37 false) .nil)))) (.cons (.var 37 (.cons Rd.str (.cons (Rd.int .i64) (.cons (Rd.sl 37 false) .nil)))) .nil)), fun a b => .p7 b.1.1 b.1.2.1 b.1.2.2.1 b.2.1.1 b.2.1.2.1 b.2.1.2.2.1⟩,
 ⟨116, [false, false, true, false, true, true], { slots := [2, 3, 5], rows := [], flat := [], keep := 0 }, _, _, (.cons (Rd.bp 0 0) (.cons (Rd.bp 1 0) (.cons (Rd.int .i64) .nil))), (.cons (.var 37 (.cons Rd.str (.cons (Rd.int .i64) (.cons (Rd.sl 37 false) .nil)))) (.cons (.var 37 (.cons Rd.str (.cons (Rd.int .i64) (.cons (Rd.sl 37 false) .nil)))) .nil)), fun a b => .p116 a.2.2.1 b.1.1 b.1.2.1 b.1.2.2.1 b.2.1.1 b.2.1.2.1 b.2.1.2.2.1⟩]
theorem wY1 : All (ub8 46 0 uI0 vU6) xs6 := ⟨⟨rfl, rfl, fun _ _ => rfl, fun _ _ => rfl⟩, ⟨⟨rfl, rfl, fun _ _ => rfl, fun _ _ => rfl⟩, trivial⟩⟩
def uK9 : Code := Tryz.f34.body.getD .skip
def xf6 (run' : vo4 → Option vH7) : Con E := ⟨34, ((ByteArray × (Int × ((List ua5) × Unit))) × ((ByteArray × (Int × ((List ua5) × Unit))) × Unit)), Unit, (RwL.cons (Rw.agg (RwL.cons Rd.str.w (RwL.cons (Rd.int .i64).w (RwL.cons (Rw.sl 37) RwL.nil)))) (RwL.cons (Rw.agg (RwL.cons Rd.str.w (RwL.cons (Rd.int .i64).w (RwL.cons (Rw.sl 37) RwL.nil)))) RwL.nil)), RdBL.nil, 0, vH7, fun a b => run' (.start a.1.1 a.1.2.1 a.1.2.2.1 a.2.1.1 a.2.1.2.1 a.2.1.2.2.1), up9.av, up9.bx⟩
theorem wP5 {run' : vo4 → Option vH7} (ih : ∀ pt r, run' pt = some r → Good E Tryz.f34 uK9 0 (up9.av r) (up9.bx r) (uI0 pt) (vU6 pt)) : (xf6 run').Ok := fun a b r h => ub4 (fn := Tryz.f34) (code := uK9) E_ok (by kernel_rfl) (by kernel_rfl) (by kernel_rfl) (Nat.le_of_ble_eq_true rfl) (ih (.start a.1.1 a.1.2.1 a.1.2.2.1 a.2.1.1 a.2.1.2.1 a.2.1.2.2.1) r h)
def wx7 (run' : vo4 → Option vH7) : Spec E.S := (Con.add (xf6 run') ub1)
theorem we5 {run' : vo4 → Option vH7} (ih : ∀ pt r, run' pt = some r → Good E Tryz.f34 uK9 0 (up9.av r) (up9.bx r) (uI0 pt) (vU6 pt)) : ub0 E (wx7 run') := (Con.add_ok (wP5 ih) ua7)
theorem xG8 : ∀ pt r, uz4 pt = some r → Good E Tryz.f34 uK9 0 (up9.av r) (up9.bx r) (uI0 pt) (vU6 pt) := by
 refine uz4.partial_correctness (fun pt r => Good E Tryz.f34 uK9 0 (up9.av r) (up9.bx r) (uI0 pt) (vU6 pt)) ?_
 intro run' ih pt r hr
 cases pt <;> exact ua9 (spec := (wx7 run')) (wr := (mkWr [] [])) (l := xs6) (z := 46) (p := up9) E_ok wY1.mem rfl (we5 ih) ih (Eq.trans (by kernel_rfl) hr)
def w83 : Con E := ⟨34, _, _, (.cons (Rw.agg (.cons Rd.str.w (.cons (Rd.int .i64).w (.cons (Rw.sl 37) .nil)))) (.cons (Rw.agg (.cons Rd.str.w (.cons (Rd.int .i64).w (.cons (Rw.sl 37) .nil)))) .nil)), .nil, 0, vH7, fun a b => uz4 (.start a.1.1 a.1.2.1 a.1.2.2.1 a.2.1.1 a.2.1.2.1 a.2.1.2.2.1), up9.av, up9.bx⟩
theorem wK6 : w83.Ok := fun a b r h => ub4 (fn := Tryz.f34) (code := uK9) E_ok (by kernel_rfl) (by kernel_rfl) (by kernel_rfl) (Nat.le_of_ble_eq_true rfl) (xG8 (.start a.1.1 a.1.2.1 a.1.2.2.1 a.2.1.1 a.2.1.2.1 a.2.1.2.2.1) r h)
inductive wF9 where
 | start
def vO6 : wF9 → List Bool
 | .start => []
def xS7 : wF9 → St E.S
 | .start => st0 95 [] []
abbrev xY8 : Type := ((Bool × Unit) × Unit)
def vi4 : Res E (Bool × Unit) Unit := { rows := [], flat := [], keep := 0, done := [0], rl := (.cons Rd.bool .nil), rb := .nil }
def u31 : wF9 → Option xY8
 | .start =>
  (u48 .start) >>= fun t1 =>
  (vk5 (.start (3 : Int))) >>= fun t2 =>
  (uF3 (.start (⟨#[77, 97, 121, 98, 101]⟩ : ByteArray) ([(⟨t2.1.1.1, t2.1.1.2.1, t2.1.1.2.2.1, t2.1.1.2.2.2.1⟩ : ua0)] : List ua0))) >>= fun t3 =>
  (uJ4 (.start t1.1.1 t3.1.1.1 t3.1.1.2.1 t3.1.1.2.2.1 t3.1.1.2.2.2.1)) >>= fun t4 =>
  (u48 .start) >>= fun t5 =>
  (vk5 (.start (2 : Int))) >>= fun t6 =>
  (uF3 (.start (⟨#[67, 111, 108, 111, 114]⟩ : ByteArray) ([]))) >>= fun t7 =>
  (uF3 (.start (⟨#[80, 97, 105, 114]⟩ : ByteArray) ([(⟨t6.1.1.1, t6.1.1.2.1, t6.1.1.2.2.1, t6.1.1.2.2.2.1⟩ : ua0), (⟨t7.1.1.1, t7.1.1.2.1, t7.1.1.2.2.1, t7.1.1.2.2.2.1⟩ : ua0)] : List ua0))) >>= fun t8 =>
  (uw3 (.start (⟨#[66, 108, 117, 101]⟩ : ByteArray) ([]))) >>= fun t9 =>
  (uw3 (.start (⟨#[80, 97, 105, 114]⟩ : ByteArray) ([(⟨(⟨#[]⟩ : ByteArray), (3 : Int), []⟩ : ua5), (⟨t9.1.1.1, t9.1.1.2.1, t9.1.1.2.2.1⟩ : ua5)] : List ua5))) >>= fun t10 =>
  (vk7 (.start t5.1.1 t8.1.1.1 t8.1.1.2.1 t8.1.1.2.2.1 t8.1.1.2.2.2.1 t10.1.1.1 t10.1.1.2.1 t10.1.1.2.2.1)) >>= fun t11 =>
  (u48 .start) >>= fun t12 =>
  (vk5 (.start (3 : Int))) >>= fun t13 =>
  (uF3 (.start (⟨#[77, 97, 121, 98, 101]⟩ : ByteArray) ([(⟨t13.1.1.1, t13.1.1.2.1, t13.1.1.2.2.1, t13.1.1.2.2.2.1⟩ : ua0)] : List ua0))) >>= fun t14 =>
  (vk8 (.start t12.1.1 t14.1.1.1 t14.1.1.2.1 t14.1.1.2.2.1 t14.1.1.2.2.2.1 (5 : Int))) >>= fun t15 =>
  (u48 .start) >>= fun t16 =>
  (uF3 (.start (⟨#[67, 111, 108, 111, 114]⟩ : ByteArray) ([]))) >>= fun t17 =>
  (uF3 (.start (⟨#[66, 111, 111, 108]⟩ : ByteArray) ([]))) >>= fun t18 =>
  (uF3 (.start (⟨#[80, 97, 105, 114]⟩ : ByteArray) ([(⟨t17.1.1.1, t17.1.1.2.1, t17.1.1.2.2.1, t17.1.1.2.2.2.1⟩ : ua0), (⟨t18.1.1.1, t18.1.1.2.1, t18.1.1.2.2.1, t18.1.1.2.2.2.1⟩ : ua0)] : List ua0))) >>= fun t19 =>
  (vk9 (.start t16.1.1 t19.1.1.1 t19.1.1.2.1 t19.1.1.2.2.1 t19.1.1.2.2.2.1 (3 : Int))) >>= fun t20 =>
  (uw3 (.start (⟨#[66, 108, 117, 101]⟩ : ByteArray) ([]))) >>= fun t21 =>
  (uw3 (.start (⟨#[80, 97, 105, 114]⟩ : ByteArray) ([(⟨(⟨#[]⟩ : ByteArray), (3 : Int), []⟩ : ua5), (⟨t21.1.1.1, t21.1.1.2.1, t21.1.1.2.2.1⟩ : ua5)] : List ua5))) >>= fun t22 =>
  (vl0 (.start t22.1.1.1 t22.1.1.2.1 t22.1.1.2.2.1)) >>= fun t23 =>
  if (t4.1.2.1 == (0 : Int)) = true then
   if (t4.1.1 == (4 : Int)) = true then
    if (t11.1.2.1 == (0 : Int)) = true then
     if (t11.1.1 == (14 : Int)) = true then
      if (t15.1.2.1 == (3 : Int)) = true then
       if (t20.1.2.1 == (0 : Int)) = true then
        (uw3 (.start (⟨#[71, 114, 101, 101, 110]⟩ : ByteArray) ([]))) >>= fun t24 =>
        (uw3 (.start (⟨#[84, 114, 117, 101]⟩ : ByteArray) ([]))) >>= fun t25 =>
        (uw3 (.start (⟨#[80, 97, 105, 114]⟩ : ByteArray) ([(⟨t24.1.1.1, t24.1.1.2.1, t24.1.1.2.2.1⟩ : ua5), (⟨t25.1.1.1, t25.1.1.2.1, t25.1.1.2.2.1⟩ : ua5)] : List ua5))) >>= fun t26 =>
        (uz4 (.start t20.1.1.1 t20.1.1.2.1 t20.1.1.2.2.1 t26.1.1.1 t26.1.1.2.1 t26.1.1.2.2.1)) >>= fun t27 =>
        if t27.1.1 = true then
         if (t23.1.2.1 == (0 : Int)) = true then
          some ((seq t23.1.1 (⟨#[80, 97, 105, 114, 40, 51, 44, 32, 66, 108, 117, 101, 41]⟩ : ByteArray), ()), ())
         else
          some ((false, ()), ())
        else
         some ((false, ()), ())
       else
        some ((false, ()), ())
      else
       some ((false, ()), ())
     else
      some ((false, ()), ())
    else
     some ((false, ()), ())
   else
    some ((false, ()), ())
  else
   some ((false, ()), ())
def xs8 : List (Plc E wF9) := []
theorem wY2 : All (ub8 95 0 vO6 xS7) xs8 := trivial
def wn0 : Code := Tryz.f10.body.getD .skip
def wx8 : Spec E.S := (Con.add w83 (Con.add w82 (Con.add w79 (Con.add w75 (Con.add w73 (Con.add w65 (Con.add vY4 (Con.add w49 (Con.add xO7 (Con.add xO5 ub1))))))))))
theorem we6 : ub0 E wx8 := (Con.add_ok wK6 (Con.add_ok wK5 (Con.add_ok wK2 (Con.add_ok wJ9 (Con.add_ok wJ7 (Con.add_ok wI9 (Con.add_ok vr4 (Con.add_ok vJ4 (Con.add_ok w63 (Con.add_ok w41 ua7))))))))))
theorem xG9 : ∀ pt r, u31 pt = some r → Good E Tryz.f10 wn0 0 (vi4.av r) (vi4.bx r) (vO6 pt) (xS7 pt) := by
 intro pt r hr
 cases pt <;> exact ua9 (spec := wx8) (wr := (mkWr [] [])) (l := xs8) (z := 95) (p := vi4) (run' := fun _ => none) E_ok wY2.mem rfl we6 (fun _ _ h => by cases h) (Eq.trans (by kernel_rfl) hr)
def w84 : Con E := ⟨10, _, _, .nil, .nil, 0, xY8, fun a b => u31 (.start), vi4.av, vi4.bx⟩
theorem wK7 : w84.Ok := fun a b r h => ub4 (fn := Tryz.f10) (code := wn0) E_ok (by kernel_rfl) (by kernel_rfl) (by kernel_rfl) (Nat.le_of_ble_eq_true rfl) (xG9 (.start) r h)
inductive vF9 where
 | start (t0_0 : Int) (t0_1 : Int) (t0_2 : ByteArray) (t0_3 : (List ua0)) (depth1 : Int) (count2 : Int)
 | p15 (depth1 : Int) (count2 : Int) (C0 : Int) (C1 : Int) (C2 : ByteArray) (C3 : (List ua0))
 | p244 (depth1 : Int) (count2 : Int) (i7 : Int) (C0 : Int) (C1 : Int) (C2 : ByteArray) (C3 : (List ua0))
 | p489 (depth1 : Int) (count2 : Int) (i7 : Int) (C0 : Int) (C1 : Int) (C2 : ByteArray) (C3 : (List ua0))
def uI1 : vF9 → List Bool
 | .start .. => []
 | .p15 .. => [true, true, true]
 | .p244 .. => [false, false, true, false, true, true, true]
 | .p489 .. => [true, false, false, true, false, true, true, true]
def vU7 : vF9 → St E.S
 | .start t0_0 t0_1 t0_2 t0_3 depth1 count2 => st0 43 [.agg [.v (.int .i64 t0_0), .v (.int .i64 t0_1), .v (.string t0_2), .sl 25 t0_3 false], .v (.int .i64 depth1), .v (.int .i64 count2)] []
 | .p15 depth1 count2 C0 C1 C2 C3 => mkSt 43 [1, 2, 3] [.v (.int .i64 depth1), .v (.int .i64 count2), .bp 0 0] [.var 25 [.v (.int .i64 C0), .v (.int .i64 C1), .v (.string C2), .sl 25 C3 false]]
 | .p244 depth1 count2 i7 C0 C1 C2 C3 => mkSt 43 [1, 2, 3, 7] [.v (.int .i64 depth1), .v (.int .i64 count2), .bp 0 0, .v (.int .i64 i7)] [.var 25 [.v (.int .i64 C0), .v (.int .i64 C1), .v (.string C2), .sl 25 C3 false]]
 | .p489 depth1 count2 i7 C0 C1 C2 C3 => mkSt 43 [1, 2, 3, 7] [.v (.int .i64 depth1), .v (.int .i64 count2), .bp 0 0, .v (.int .i64 i7)] [.var 25 [.v (.int .i64 C0), .v (.int .i64 C1), .v (.string C2), .sl 25 C3 false]]
abbrev vV6 : Type := ((Int × Unit) × Unit)
def uq0 : Res E (Int × Unit) Unit := { rows := [], flat := [], keep := 0, done := [0], rl := (.cons (Rd.int .i64) .nil), rb := .nil }
def ui5 : vF9 → Option vV6
 | .start t0_0 t0_1 t0_2 t0_3 depth1 count2 =>
  if (decide (depth1 > (40 : Int))) = true then
   some (((201 : Int), ()), ())
  else
   if (decide ((IntKind.wrap .i64 (count2 + (1 : Int))) > (200 : Int))) = true then
    some (((201 : Int), ()), ())
   else
    if (decide ((List.length t0_3 : Int) > (200 : Int))) = true then
     some (((201 : Int), ()), ())
    else
     ui5 (.p15 depth1 (IntKind.wrap .i64 (count2 + (1 : Int))) t0_0 t0_1 t0_2 t0_3)
 | .p15 depth1 count2 C0 C1 C2 C3 =>
  ui5 (.p244 depth1 count2 (0 : Int) C0 C1 C2 C3)
 | .p244 depth1 count2 i7 C0 C1 C2 C3 =>
  if (decide (i7 < (List.length C3 : Int))) = true then
   if (decide (count2 ≤ (200 : Int))) = true then
    ui5 (.p489 depth1 count2 i7 C0 C1 C2 C3)
   else
    some ((count2, ()), ())
  else
   some ((count2, ()), ())
 | .p489 depth1 count2 i7 C0 C1 C2 C3 =>
  (idx C3 i7) >>= fun t1 =>
  (ui5 (.start t1.Kind t1.Value t1.Name t1.Parts (IntKind.wrap .i64 (depth1 + (1 : Int))) count2)) >>= fun t2 =>
  ui5 (.p244 depth1 t2.1.1 (IntKind.wrap .i64 (i7 + (1 : Int))) C0 C1 C2 C3)
 partial_fixpoint
def xs9 : List (Plc E vF9) := [⟨15, [true, true, true], { slots := [1, 2, 3], rows := [], flat := [], keep := 0 }, _, _, (.cons (Rd.int .i64) (.cons (Rd.int .i64) (.cons (Rd.bp 0 0) .nil))), (.cons (.var 25 (.cons (Rd.int .i64) (.cons (Rd.int .i64) (.cons Rd.str (.cons (Rd.sl 25 false) .nil))))) .nil), fun a b => .p15 a.1 a.2.1 b.1.1 b.1.2.1 b.1.2.2.1 b.1.2.2.2.1⟩,
 ⟨244, [false, false, true, false, true, true, true], { slots := [1, 2, 3, 7], rows := [], flat := [], keep := 0 }, _, _, (.cons (Rd.int .i64) (.cons (Rd.int .i64) (.cons (Rd.bp 0 0) (.cons (Rd.int .i64) .nil)))), (.cons (.var 25 (.cons (Rd.int .i64) (.cons (Rd.int .i64) (.cons Rd.str (.cons (Rd.sl 25 false) .nil))))) .nil), fun a b => .p244 a.1 a.2.1 a.2.2.2.1 b.1.1 b.1.2.1 b.1.2.2.1 b.1.2.2.2.1⟩,
 ⟨489, [true, false, false, true, false, true, true, true], { slots := [1, 2, 3, 7], rows := [], flat := [], keep := 0 }, _, _, (.cons (Rd.int .i64) (.cons (Rd.int .i64) (.cons (Rd.bp 0 0) (.cons (Rd.int .i64) .nil)))), (.cons (.var 25 (.cons (Rd.int .i64) (.cons (Rd.int .i64) (.cons Rd.str (.cons (Rd.sl 25 false) .nil))))) .nil), fun a b => .p489 a.1 a.2.1 a.2.2.2.1 b.1.1 b.1.2.1 b.1.2.2.1 b.1.2.2.2.1⟩]
theorem wY3 : All (ub8 43 0 uI1 vU7) xs9 := ⟨⟨rfl, rfl, fun _ _ => rfl, fun _ _ => rfl⟩, ⟨⟨rfl, rfl, fun _ _ => rfl, fun _ _ => rfl⟩, ⟨⟨rfl, rfl, fun _ _ => rfl, fun _ _ => rfl⟩, trivial⟩⟩⟩
def uL0 : Code := Tryz.f102.body.getD .skip
def xf7 (run' : vF9 → Option vV6) : Con E := ⟨102, ((Int × (Int × (ByteArray × ((List ua0) × Unit)))) × (Int × (Int × Unit))), Unit, (RwL.cons (Rw.agg (RwL.cons (Rd.int .i64).w (RwL.cons (Rd.int .i64).w (RwL.cons Rd.str.w (RwL.cons (Rw.sl 25) RwL.nil))))) (RwL.cons (Rd.int .i64).w (RwL.cons (Rd.int .i64).w RwL.nil))), RdBL.nil, 0, vV6, fun a b => run' (.start a.1.1 a.1.2.1 a.1.2.2.1 a.1.2.2.2.1 a.2.1 a.2.2.1), uq0.av, uq0.bx⟩
theorem wP6 {run' : vF9 → Option vV6} (ih : ∀ pt r, run' pt = some r → Good E Tryz.f102 uL0 0 (uq0.av r) (uq0.bx r) (uI1 pt) (vU7 pt)) : (xf7 run').Ok := fun a b r h => ub4 (fn := Tryz.f102) (code := uL0) E_ok (by kernel_rfl) (by kernel_rfl) (by kernel_rfl) (Nat.le_of_ble_eq_true rfl) (ih (.start a.1.1 a.1.2.1 a.1.2.2.1 a.1.2.2.2.1 a.2.1 a.2.2.1) r h)
def wx9 (run' : vF9 → Option vV6) : Spec E.S := (Con.add (xf7 run') ub1)
theorem we7 {run' : vF9 → Option vV6} (ih : ∀ pt r, run' pt = some r → Good E Tryz.f102 uL0 0 (uq0.av r) (uq0.bx r) (uI1 pt) (vU7 pt)) : ub0 E (wx9 run') := (Con.add_ok (wP6 ih) ua7)
theorem xH0 : ∀ pt r, ui5 pt = some r → Good E Tryz.f102 uL0 0 (uq0.av r) (uq0.bx r) (uI1 pt) (vU7 pt) := by
 refine ui5.partial_correctness (fun pt r => Good E Tryz.f102 uL0 0 (uq0.av r) (uq0.bx r) (uI1 pt) (vU7 pt)) ?_
 intro run' ih pt r hr
 cases pt <;> exact ua9 (spec := (wx9 run')) (wr := (mkWr [] [])) (l := xs9) (z := 43) (p := uq0) E_ok wY3.mem rfl (we7 ih) ih (Eq.trans (by kernel_rfl) hr)
def w85 : Con E := ⟨102, _, _, (.cons (Rw.agg (.cons (Rd.int .i64).w (.cons (Rd.int .i64).w (.cons Rd.str.w (.cons (Rw.sl 25) .nil))))) (.cons (Rd.int .i64).w (.cons (Rd.int .i64).w .nil))), .nil, 0, vV6, fun a b => ui5 (.start a.1.1 a.1.2.1 a.1.2.2.1 a.1.2.2.2.1 a.2.1 a.2.2.1), uq0.av, uq0.bx⟩
theorem wK8 : w85.Ok := fun a b r h => ub4 (fn := Tryz.f102) (code := uL0) E_ok (by kernel_rfl) (by kernel_rfl) (by kernel_rfl) (Nat.le_of_ble_eq_true rfl) (xH0 (.start a.1.1 a.1.2.1 a.1.2.2.1 a.1.2.2.2.1 a.2.1 a.2.2.1) r h)
inductive xw7 where
 | start (t0_0 : Int) (t0_1 : Int) (t0_2 : ByteArray) (t0_3 : (List ua0))
def vO7 : xw7 → List Bool
 | .start .. => []
def xS8 : xw7 → St E.S
 | .start t0_0 t0_1 t0_2 t0_3 => st0 6 [.agg [.v (.int .i64 t0_0), .v (.int .i64 t0_1), .v (.string t0_2), .sl 25 t0_3 false]] []
abbrev x77 : Type := ((Bool × Unit) × Unit)
def vi5 : Res E (Bool × Unit) Unit := { rows := [], flat := [], keep := 0, done := [0], rl := (.cons Rd.bool .nil), rb := .nil }
def uT1 : xw7 → Option x77
 | .start t0_0 t0_1 t0_2 t0_3 =>
  (ui5 (.start t0_0 t0_1 t0_2 t0_3 (1 : Int) (0 : Int))) >>= fun t1 =>
  some ((decide (t1.1.1 ≤ (200 : Int)), ()), ())
def xt0 : List (Plc E xw7) := []
theorem wY4 : All (ub8 6 0 vO7 xS8) xt0 := trivial
def wn1 : Code := Tryz.f61.body.getD .skip
def wy0 : Spec E.S := (Con.add w85 ub1)
theorem we8 : ub0 E wy0 := (Con.add_ok wK8 ua7)
theorem xH1 : ∀ pt r, uT1 pt = some r → Good E Tryz.f61 wn1 0 (vi5.av r) (vi5.bx r) (vO7 pt) (xS8 pt) := by
 intro pt r hr
 cases pt <;> exact ua9 (spec := wy0) (wr := (mkWr [] [])) (l := xt0) (z := 6) (p := vi5) (run' := fun _ => none) E_ok wY4.mem rfl we8 (fun _ _ h => by cases h) (Eq.trans (by kernel_rfl) hr)
def vA6 : Con E := ⟨61, _, _, (.cons (Rw.agg (.cons (Rd.int .i64).w (.cons (Rd.int .i64).w (.cons Rd.str.w (.cons (Rw.sl 25) .nil))))) .nil), .nil, 0, x77, fun a b => uT1 (.start a.1.1 a.1.2.1 a.1.2.2.1 a.1.2.2.2.1), vi5.av, vi5.bx⟩
theorem u01 : vA6.Ok := fun a b r h => ub4 (fn := Tryz.f61) (code := wn1) E_ok (by kernel_rfl) (by kernel_rfl) (by kernel_rfl) (Nat.le_of_ble_eq_true rfl) (xH1 (.start a.1.1 a.1.2.1 a.1.2.2.1 a.1.2.2.2.1) r h)
inductive xw8 where
 | start (l0 : (List ua2))
 | p116 (l0 : (List ua2)) (i3 : Int)
 | p1865 (l0 : (List ua2)) (i3 : Int)
 | p14924 (l0 : (List ua2)) (i3 : Int) (k4 : Int)
 | p3820700 (l0 : (List ua2)) (i3 : Int) (k4 : Int) (fields5 : (List ua6)) (j6 : Int)
def ve1 : xw8 → List Bool
 | .start .. => []
 | .p116 .. => [false, false, true, false, true, true]
 | .p1865 .. => [true, false, false, true, false, false, true, false, true, true]
 | .p14924 .. => [false, false, true, true, false, false, true, false, false, true, false, true, true]
 | .p3820700 .. => [false, false, true, true, true, false, false, true, false, false, true, true, false, false, true, false, false, true, false, true, true]
def xk5 : xw8 → St E.S
 | .start l0 => st0 67 [.sl 103 l0 false] []
 | .p116 l0 i3 => mkSt 67 [0, 3] [.sl 103 l0 false, .v (.int .i64 i3)] []
 | .p1865 l0 i3 => mkSt 67 [0, 3] [.sl 103 l0 false, .v (.int .i64 i3)] []
 | .p14924 l0 i3 k4 => mkSt 67 [0, 3, 4] [.sl 103 l0 false, .v (.int .i64 i3), .v (.int .i64 k4)] []
 | .p3820700 l0 i3 k4 fields5 j6 => mkSt 67 [0, 3, 4, 5, 6] [.sl 103 l0 false, .v (.int .i64 i3), .v (.int .i64 k4), .sl 58 fields5 false, .v (.int .i64 j6)] []
abbrev x78 : Type := ((Bool × Unit) × Unit)
def uR6 : Res E (Bool × Unit) Unit := { rows := [], flat := [], keep := 0, done := [0], rl := (.cons Rd.bool .nil), rb := .nil }
def ue2 : xw8 → Option x78
 | .start l0 =>
  if (decide ((List.length l0 : Int) > (24 : Int))) = true then
   some ((false, ()), ())
  else
   ue2 (.p116 l0 (0 : Int))
 | .p116 l0 i3 =>
  if (decide (i3 < (List.length l0 : Int))) = true then
   (idx l0 i3) >>= fun t1 =>
   if (decide ((List.length t1.Constructors : Int) > (20 : Int))) = true then
    some ((false, ()), ())
   else
    (idx l0 i3) >>= fun t2 =>
    if (decide ((List.length t2.Params : Int) > (12 : Int))) = true then
     some ((false, ()), ())
    else
     ue2 (.p1865 l0 i3)
  else
   some ((true, ()), ())
 | .p1865 l0 i3 =>
  ue2 (.p14924 l0 i3 (0 : Int))
 | .p14924 l0 i3 k4 =>
  (idx l0 i3) >>= fun t1 =>
  if (decide (k4 < (List.length t1.Constructors : Int))) = true then
   (idx l0 i3) >>= fun t2 =>
   (idx t2.Constructors k4) >>= fun t3 =>
   if (decide ((List.length t3.Fields : Int) > (12 : Int))) = true then
    some ((false, ()), ())
   else
    ue2 (.p3820700 l0 i3 k4 t3.Fields (0 : Int))
  else
   ue2 (.p116 l0 (IntKind.wrap .i64 (i3 + (1 : Int))))
 | .p3820700 l0 i3 k4 fields5 j6 =>
  if (decide (j6 < (List.length fields5 : Int))) = true then
   (idx fields5 j6) >>= fun t1 =>
   (uT1 (.start t1.Type_.Kind t1.Type_.Value t1.Type_.Name t1.Type_.Parts)) >>= fun t2 =>
   if (!t2.1.1) = true then
    some ((false, ()), ())
   else
    ue2 (.p3820700 l0 i3 k4 fields5 (IntKind.wrap .i64 (j6 + (1 : Int))))
  else
   ue2 (.p14924 l0 i3 (IntKind.wrap .i64 (k4 + (1 : Int))))
 partial_fixpoint
def xt1 : List (Plc E xw8) := [⟨116, [false, false, true, false, true, true], { slots := [0, 3], rows := [], flat := [], keep := 0 }, _, _, (.cons (Rd.sl 103 false) (.cons (Rd.int .i64) .nil)), .nil, fun a b => .p116 a.1 a.2.1⟩,
 ⟨1865, [true, false, false, true, false, false, true, false, true, true], { slots := [0, 3], rows := [], flat := [], keep := 0 }, _, _, (.cons (Rd.sl 103 false) (.cons (Rd.int .i64) .nil)), .nil, fun a b => .p1865 a.1 a.2.1⟩,
 ⟨14924, [false, false, true, true, false, false, true, false, false, true, false, true, true], { slots := [0, 3, 4], rows := [], flat := [], keep := 0 }, _, _, (.cons (Rd.sl 103 false) (.cons (Rd.int .i64) (.cons (Rd.int .i64) .nil))), .nil, fun a b => .p14924 a.1 a.2.1 a.2.2.1⟩,
 ⟨3820700, [false, false, true, true, true, false, false, true, false, false, true, true, false, false, true, false, false, true, false, true, true], { slots := [0, 3, 4, 5, 6], rows := [], flat := [], keep := 0 }, _, _, (.cons (Rd.sl 103 false) (.cons (Rd.int .i64) (.cons (Rd.int .i64) (.cons (Rd.sl 58 false) (.cons (Rd.int .i64) .nil))))), .nil, fun a b => .p3820700 a.1 a.2.1 a.2.2.1 a.2.2.2.1 a.2.2.2.2.1⟩]
theorem wY5 : All (ub8 67 0 ve1 xk5) xt1 := ⟨⟨rfl, rfl, fun _ _ => rfl, fun _ _ => rfl⟩, ⟨⟨rfl, rfl, fun _ _ => rfl, fun _ _ => rfl⟩, ⟨⟨rfl, rfl, fun _ _ => rfl, fun _ _ => rfl⟩, ⟨⟨rfl, rfl, fun _ _ => rfl, fun _ _ => rfl⟩, trivial⟩⟩⟩⟩
def vy9 : Code := Tryz.f11.body.getD .skip
def wy1 : Spec E.S := (Con.add vA6 ub1)
theorem we9 : ub0 E wy1 := (Con.add_ok u01 ua7)
theorem xH2 : ∀ pt r, ue2 pt = some r → Good E Tryz.f11 vy9 0 (uR6.av r) (uR6.bx r) (ve1 pt) (xk5 pt) := by
 refine ue2.partial_correctness (fun pt r => Good E Tryz.f11 vy9 0 (uR6.av r) (uR6.bx r) (ve1 pt) (xk5 pt)) ?_
 intro run' ih pt r hr
 cases pt <;> exact ua9 (spec := wy1) (wr := (mkWr [] [])) (l := xt1) (z := 67) (p := uR6) E_ok wY5.mem rfl we9 ih (Eq.trans (by kernel_rfl) hr)
def w86 : Con E := ⟨11, _, _, (.cons (Rw.sl 103) .nil), .nil, 0, x78, fun a b => ue2 (.start a.1), uR6.av, uR6.bx⟩
theorem wK9 : w86.Ok := fun a b r h => ub4 (fn := Tryz.f11) (code := vy9) E_ok (by kernel_rfl) (by kernel_rfl) (by kernel_rfl) (Nat.le_of_ble_eq_true rfl) (xH2 (.start a.1) r h)
inductive xw9 where
 | start (l0 : (List ByteArray))
def vO8 : xw9 → List Bool
 | .start .. => []
def xS9 : xw9 → St E.S
 | .start l0 => st0 6 [.sl 9 l0 false] []
abbrev x79 : Type := ((Unit × Unit) × ((List ByteArray) × Unit))
def vi6 : Res E (Unit × Unit) ((List ByteArray) × Unit) := { rows := [], flat := [], keep := 0, done := [0], rl := (.cons (Rd.rw 0) .nil), rb := (.cons (.row 9 true) .nil) }
def vE8 : xw9 → Option x79
 | .start l0 =>
  if (fits (List.length ([] : List ByteArray)) (List.length l0) 16) = true then
   some (((), ()), (([] : List ByteArray) ++ l0, ()))
  else none
def xt2 : List (Plc E xw9) := []
theorem wY6 : All (ub8 6 0 vO8 xS9) xt2 := trivial
def wn2 : Code := Tryz.f66.body.getD .skip
def wy2 : Spec E.S := ub1
theorem wf0 : ub0 E wy2 := ua7
theorem xH3 : ∀ pt r, vE8 pt = some r → Good E Tryz.f66 wn2 0 (vi6.av r) (vi6.bx r) (vO8 pt) (xS9 pt) := by
 intro pt r hr
 cases pt <;> exact ua9 (spec := wy2) (wr := (mkWr [] [])) (l := xt2) (z := 6) (p := vi6) (run' := fun _ => none) E_ok wY6.mem rfl wf0 (fun _ _ h => by cases h) (Eq.trans (by kernel_rfl) hr)
def w87 : Con E := ⟨66, _, _, (.cons (Rw.sl 9) .nil), .nil, 0, x79, fun a b => vE8 (.start a.1), vi6.av, vi6.bx⟩
theorem wL0 : w87.Ok := fun a b r h => ub4 (fn := Tryz.f66) (code := wn2) E_ok (by kernel_rfl) (by kernel_rfl) (by kernel_rfl) (Nat.le_of_ble_eq_true rfl) (xH3 (.start a.1) r h)
inductive vG0 where
 | start (t0_0 : Int) (t0_1 : Int) (t0_2 : ByteArray) (t0_3 : (List ua0))
 | p244 (i4 : Int) (C0 : Int) (C1 : Int) (C2 : ByteArray) (C3 : (List ua0)) (D0 : Int) (D1 : Int) (D2 : ByteArray) (G0 : Int) (G1 : Int) (G2 : ByteArray) (B3 : (List ua0))
def uI2 : vG0 → List Bool
 | .start .. => []
 | .p244 .. => [false, false, true, false, true, true, true]
def vU8 : vG0 → St E.S
 | .start t0_0 t0_1 t0_2 t0_3 => st0 26 [.agg [.v (.int .i64 t0_0), .v (.int .i64 t0_1), .v (.string t0_2), .sl 25 t0_3 false]] []
 | .p244 i4 C0 C1 C2 C3 D0 D1 D2 G0 G1 G2 B3 => mkSt 26 [1, 2, 3, 4] [.bp 0 0, .bp 1 0, .bp 2 0, .v (.int .i64 i4)] [.var 25 [.v (.int .i64 C0), .v (.int .i64 C1), .v (.string C2), .sl 25 C3 false], .var 25 [.v (.int .i64 D0), .v (.int .i64 D1), .v (.string D2), .nl], .var 25 [.v (.int .i64 G0), .v (.int .i64 G1), .v (.string G2), .rw 3], .row 25 B3 false]
abbrev vV7 : Type := (((Int × (Int × (ByteArray × ((List ua0) × Unit)))) × Unit) × Unit)
def uq1 : Res E ((Int × (Int × (ByteArray × ((List ua0) × Unit)))) × Unit) Unit := { rows := [], flat := [], keep := 0, deep := [(false, 0, 3, 25)], done := [0], rl := (.cons (Rd.agg (.cons (Rd.int .i64) (.cons (Rd.int .i64) (.cons Rd.str (.cons (Rd.sl 25 false) .nil))))) .nil), rb := .nil }
def uo0 : vG0 → Option vV7
 | .start t0_0 t0_1 t0_2 t0_3 =>
  uo0 (.p244 (0 : Int) t0_0 t0_1 t0_2 t0_3 (0 : Int) (0 : Int) (⟨#[]⟩ : ByteArray) t0_0 t0_1 t0_2 ([] : List ua0))
 | .p244 i4 C0 C1 C2 C3 D0 D1 D2 G0 G1 G2 B3 =>
  if (decide (i4 < (List.length C3 : Int))) = true then
   (idx C3 i4) >>= fun t1 =>
   (uo0 (.start t1.Kind t1.Value t1.Name t1.Parts)) >>= fun t2 =>
   if (fits (List.length B3) (List.length ([(⟨t2.1.1.1, t2.1.1.2.1, t2.1.1.2.2.1, t2.1.1.2.2.2.1⟩ : ua0)] : List ua0)) 56) = true then
    uo0 (.p244 (IntKind.wrap .i64 (i4 + (1 : Int))) C0 C1 C2 C3 D0 D1 D2 G0 G1 G2 (B3 ++ ([(⟨t2.1.1.1, t2.1.1.2.1, t2.1.1.2.2.1, t2.1.1.2.2.2.1⟩ : ua0)] : List ua0)))
   else none
  else
   some (((G0, (G1, (G2, (B3, ())))), ()), ())
 partial_fixpoint
def xt3 : List (Plc E vG0) := [⟨244, [false, false, true, false, true, true, true], { slots := [1, 2, 3, 4], rows := [], flat := [], keep := 0, up := [(true, 3, 3, 25)] }, _, _, (.cons (Rd.bp 0 0) (.cons (Rd.bp 1 0) (.cons (Rd.bp 2 0) (.cons (Rd.int .i64) .nil)))), (.cons (.var 25 (.cons (Rd.int .i64) (.cons (Rd.int .i64) (.cons Rd.str (.cons (Rd.sl 25 false) .nil))))) (.cons (.var 25 (.cons (Rd.int .i64) (.cons (Rd.int .i64) (.cons Rd.str (.cons Rd.nl .nil))))) (.cons (.var 25 (.cons (Rd.int .i64) (.cons (Rd.int .i64) (.cons Rd.str (.cons (Rd.rw 3) .nil))))) (.cons (.row 25 false) .nil)))), fun a b => .p244 a.2.2.2.1 b.1.1 b.1.2.1 b.1.2.2.1 b.1.2.2.2.1 b.2.1.1 b.2.1.2.1 b.2.1.2.2.1 b.2.2.1.1 b.2.2.1.2.1 b.2.2.1.2.2.1 b.2.2.2.1⟩]
theorem wY7 : All (ub8 26 0 uI2 vU8) xt3 := ⟨⟨rfl, rfl, fun _ _ => rfl, fun _ _ => rfl⟩, trivial⟩
def uL1 : Code := Tryz.f107.body.getD .skip
def xf8 (run' : vG0 → Option vV7) : Con E := ⟨107, ((Int × (Int × (ByteArray × ((List ua0) × Unit)))) × Unit), Unit, (RwL.cons (Rw.agg (RwL.cons (Rd.int .i64).w (RwL.cons (Rd.int .i64).w (RwL.cons Rd.str.w (RwL.cons (Rw.sl 25) RwL.nil))))) RwL.nil), RdBL.nil, 0, vV7, fun a b => run' (.start a.1.1 a.1.2.1 a.1.2.2.1 a.1.2.2.2.1), uq1.av, uq1.bx⟩
theorem wP7 {run' : vG0 → Option vV7} (ih : ∀ pt r, run' pt = some r → Good E Tryz.f107 uL1 0 (uq1.av r) (uq1.bx r) (uI2 pt) (vU8 pt)) : (xf8 run').Ok := fun a b r h => ub4 (fn := Tryz.f107) (code := uL1) E_ok (by kernel_rfl) (by kernel_rfl) (by kernel_rfl) (Nat.le_of_ble_eq_true rfl) (ih (.start a.1.1 a.1.2.1 a.1.2.2.1 a.1.2.2.2.1) r h)
def wy3 (run' : vG0 → Option vV7) : Spec E.S := (Con.add (xf8 run') ub1)
theorem wf1 {run' : vG0 → Option vV7} (ih : ∀ pt r, run' pt = some r → Good E Tryz.f107 uL1 0 (uq1.av r) (uq1.bx r) (uI2 pt) (vU8 pt)) : ub0 E (wy3 run') := (Con.add_ok (wP7 ih) ua7)
theorem xH4 : ∀ pt r, uo0 pt = some r → Good E Tryz.f107 uL1 0 (uq1.av r) (uq1.bx r) (uI2 pt) (vU8 pt) := by
 refine uo0.partial_correctness (fun pt r => Good E Tryz.f107 uL1 0 (uq1.av r) (uq1.bx r) (uI2 pt) (vU8 pt)) ?_
 intro run' ih pt r hr
 cases pt <;> exact ua9 (spec := (wy3 run')) (wr := (mkWr [] [])) (l := xt3) (z := 26) (p := uq1) E_ok wY7.mem rfl (wf1 ih) ih (Eq.trans (by kernel_rfl) hr)
def vY7 : Con E := ⟨107, _, _, (.cons (Rw.agg (.cons (Rd.int .i64).w (.cons (Rd.int .i64).w (.cons Rd.str.w (.cons (Rw.sl 25) .nil))))) .nil), .nil, 0, vV7, fun a b => uo0 (.start a.1.1 a.1.2.1 a.1.2.2.1 a.1.2.2.2.1), uq1.av, uq1.bx⟩
theorem vr7 : vY7.Ok := fun a b r h => ub4 (fn := Tryz.f107) (code := uL1) E_ok (by kernel_rfl) (by kernel_rfl) (by kernel_rfl) (Nat.le_of_ble_eq_true rfl) (xH4 (.start a.1.1 a.1.2.1 a.1.2.2.1 a.1.2.2.2.1) r h)
inductive xx0 where
 | start (l0 : (List ua6))
 | p116 (l0 : (List ua6)) (i4 : Int) (B0 : (List ua6))
def ve2 : xx0 → List Bool
 | .start .. => []
 | .p116 .. => [false, false, true, false, true, true]
def xk6 : xx0 → St E.S
 | .start l0 => st0 27 [.sl 58 l0 false] []
 | .p116 l0 i4 B0 => mkSt 27 [0, 3, 4] [.sl 58 l0 false, .rw 0, .v (.int .i64 i4)] [.row 58 B0 false]
abbrev x80 : Type := ((Unit × Unit) × ((List ua6) × Unit))
def uR7 : Res E (Unit × Unit) ((List ua6) × Unit) := { rows := [], flat := [], keep := 0, done := [0], rl := (.cons (Rd.rw 0) .nil), rb := (.cons (.row 58 true) .nil) }
def us7 : xx0 → Option x80
 | .start l0 =>
  us7 (.p116 l0 (0 : Int) ([] : List ua6))
 | .p116 l0 i4 B0 =>
  if (decide (i4 < (List.length l0 : Int))) = true then
   (idx l0 i4) >>= fun t1 =>
   (idx l0 i4) >>= fun t2 =>
   (uo0 (.start t2.Type_.Kind t2.Type_.Value t2.Type_.Name t2.Type_.Parts)) >>= fun t3 =>
   if (fits (List.length B0) (List.length ([(⟨t1.Name, (⟨t3.1.1.1, t3.1.1.2.1, t3.1.1.2.2.1, t3.1.1.2.2.2.1⟩ : ua0)⟩ : ua6)] : List ua6)) 72) = true then
    us7 (.p116 l0 (IntKind.wrap .i64 (i4 + (1 : Int))) (B0 ++ ([(⟨t1.Name, (⟨t3.1.1.1, t3.1.1.2.1, t3.1.1.2.2.1, t3.1.1.2.2.2.1⟩ : ua0)⟩ : ua6)] : List ua6)))
   else none
  else
   some (((), ()), (B0, ()))
 partial_fixpoint
def xt4 : List (Plc E xx0) := [⟨116, [false, false, true, false, true, true], { slots := [0, 3, 4], rows := [(3, 58)], flat := [], keep := 0 }, _, _, (.cons (Rd.sl 58 false) (.cons (Rd.rw 0) (.cons (Rd.int .i64) .nil))), (.cons (.row 58 false) .nil), fun a b => .p116 a.1 a.2.2.1 b.1⟩]
theorem wY8 : All (ub8 27 0 ve2 xk6) xt4 := ⟨⟨rfl, rfl, fun _ _ => rfl, fun _ _ => rfl⟩, trivial⟩
def vz0 : Code := Tryz.f67.body.getD .skip
def wy4 : Spec E.S := (Con.add vY7 ub1)
theorem wf2 : ub0 E wy4 := (Con.add_ok vr7 ua7)
theorem xH5 : ∀ pt r, us7 pt = some r → Good E Tryz.f67 vz0 0 (uR7.av r) (uR7.bx r) (ve2 pt) (xk6 pt) := by
 refine us7.partial_correctness (fun pt r => Good E Tryz.f67 vz0 0 (uR7.av r) (uR7.bx r) (ve2 pt) (xk6 pt)) ?_
 intro run' ih pt r hr
 cases pt <;> exact ua9 (spec := wy4) (wr := (mkWr [] [])) (l := xt4) (z := 27) (p := uR7) E_ok wY8.mem rfl wf2 ih (Eq.trans (by kernel_rfl) hr)
def w88 : Con E := ⟨67, _, _, (.cons (Rw.sl 58) .nil), .nil, 0, x80, fun a b => us7 (.start a.1), uR7.av, uR7.bx⟩
theorem wL1 : w88.Ok := fun a b r h => ub4 (fn := Tryz.f67) (code := vz0) E_ok (by kernel_rfl) (by kernel_rfl) (by kernel_rfl) (Nat.le_of_ble_eq_true rfl) (xH5 (.start a.1) r h)
inductive xx1 where
 | start (l0 : (List ua2))
 | p116 (l0 : (List ua2)) (i4 : Int) (B0 : (List ua2))
 | p29844 (l0 : (List ua2)) (i4 : Int) (k6 : Int) (B0 : (List ua2)) (B1 : ByteArray) (B2 : (List ByteArray)) (B3 : (List ua1))
def ve3 : xx1 → List Bool
 | .start .. => []
 | .p116 .. => [false, false, true, false, true, true]
 | .p29844 .. => [false, false, true, false, true, false, false, true, false, false, true, false, true, true]
def xk7 : xx1 → St E.S
 | .start l0 => st0 60 [.sl 103 l0 false] []
 | .p116 l0 i4 B0 => mkSt 60 [0, 3, 4] [.sl 103 l0 false, .rw 0, .v (.int .i64 i4)] [.row 103 B0 false]
 | .p29844 l0 i4 k6 B0 B1 B2 B3 => mkSt 60 [0, 3, 4, 5, 6] [.sl 103 l0 false, .rw 0, .v (.int .i64 i4), .bp 1 0, .v (.int .i64 k6)] [.row 103 B0 false, .var 103 [.v (.string B1), .rw 2, .rw 3], .row 9 B2 true, .row 56 B3 false]
abbrev x81 : Type := ((Unit × Unit) × ((List ua2) × Unit))
def uR8 : Res E (Unit × Unit) ((List ua2) × Unit) := { rows := [(0, 103)], flat := [], keep := 0, done := [0], rl := (.cons (Rd.rw 0) .nil), rb := (.cons (.row 103 true) .nil) }
def ug7 : xx1 → Option x81
 | .start l0 =>
  ug7 (.p116 l0 (0 : Int) ([] : List ua2))
 | .p116 l0 i4 B0 =>
  if (decide (i4 < (List.length l0 : Int))) = true then
   (idx l0 i4) >>= fun t1 =>
   (idx l0 i4) >>= fun t2 =>
   (vE8 (.start t2.Params)) >>= fun t3 =>
   ug7 (.p29844 l0 i4 (0 : Int) B0 t1.Name t3.2.1 ([] : List ua1))
  else
   some (((), ()), (B0, ()))
 | .p29844 l0 i4 k6 B0 B1 B2 B3 =>
  (idx l0 i4) >>= fun t1 =>
  if (decide (k6 < (List.length t1.Constructors : Int))) = true then
   (idx l0 i4) >>= fun t2 =>
   (idx t2.Constructors k6) >>= fun t3 =>
   (us7 (.start t3.Fields)) >>= fun t4 =>
   if (fits (List.length B3) (List.length ([(⟨t3.Name, t4.2.1⟩ : ua1)] : List ua1)) 40) = true then
    ug7 (.p29844 l0 i4 (IntKind.wrap .i64 (k6 + (1 : Int))) B0 B1 B2 (B3 ++ ([(⟨t3.Name, t4.2.1⟩ : ua1)] : List ua1)))
   else none
  else
   if (fits (List.length B0) (List.length ([(⟨B1, B2, B3⟩ : ua2)] : List ua2)) 64) = true then
    ug7 (.p116 l0 (IntKind.wrap .i64 (i4 + (1 : Int))) (B0 ++ ([(⟨B1, B2, B3⟩ : ua2)] : List ua2)))
   else none
 partial_fixpoint
def xt5 : List (Plc E xx1) := [⟨116, [false, false, true, false, true, true], { slots := [0, 3, 4], rows := [(3, 103)], flat := [], keep := 0 }, _, _, (.cons (Rd.sl 103 false) (.cons (Rd.rw 0) (.cons (Rd.int .i64) .nil))), (.cons (.row 103 false) .nil), fun a b => .p116 a.1 a.2.2.1 b.1⟩,
 ⟨29844, [false, false, true, false, true, false, false, true, false, false, true, false, true, true], { slots := [0, 3, 4, 5, 6], rows := [], flat := [], keep := 0, up := [(true, 5, 2, 56)] }, _, _, (.cons (Rd.sl 103 false) (.cons (Rd.rw 0) (.cons (Rd.int .i64) (.cons (Rd.bp 1 0) (.cons (Rd.int .i64) .nil))))), (.cons (.row 103 false) (.cons (.var 103 (.cons Rd.str (.cons (Rd.rw 2) (.cons (Rd.rw 3) .nil)))) (.cons (.row 9 true) (.cons (.row 56 false) .nil)))), fun a b => .p29844 a.1 a.2.2.1 a.2.2.2.2.1 b.1 b.2.1.1 b.2.2.1 b.2.2.2.1⟩]
theorem wY9 : All (ub8 60 0 ve3 xk7) xt5 := ⟨⟨rfl, rfl, fun _ _ => rfl, fun _ _ => rfl⟩, ⟨⟨rfl, rfl, fun _ _ => rfl, fun _ _ => rfl⟩, trivial⟩⟩
def vz1 : Code := Tryz.f15.body.getD .skip
def wy5 : Spec E.S := (Con.add w88 (Con.add w87 ub1))
theorem wf3 : ub0 E wy5 := (Con.add_ok wL1 (Con.add_ok wL0 ua7))
theorem xH6 : ∀ pt r, ug7 pt = some r → Good E Tryz.f15 vz1 0 (uR8.av r) (uR8.bx r) (ve3 pt) (xk7 pt) := by
 refine ug7.partial_correctness (fun pt r => Good E Tryz.f15 vz1 0 (uR8.av r) (uR8.bx r) (ve3 pt) (xk7 pt)) ?_
 intro run' ih pt r hr
 cases pt <;> exact ua9 (spec := wy5) (wr := (mkWr [] [(3731, [5])])) (l := xt5) (z := 60) (p := uR8) E_ok wY9.mem rfl wf3 ih (Eq.trans (by kernel_rfl) hr)
def w89 : Con E := ⟨15, _, _, (.cons (Rw.sl 103) .nil), .nil, 0, x81, fun a b => ug7 (.start a.1), uR8.av, uR8.bx⟩
theorem wL2 : w89.Ok := fun a b r h => ub4 (fn := Tryz.f15) (code := vz1) E_ok (by kernel_rfl) (by kernel_rfl) (by kernel_rfl) (Nat.le_of_ble_eq_true rfl) (xH6 (.start a.1) r h)
inductive xx2 where
 | start (l0 : (List ua2)) (t1_0 : Int) (t1_1 : Int) (t1_2 : ByteArray) (t1_3 : (List ua0))
def vO9 : xx2 → List Bool
 | .start .. => []
def xT0 : xx2 → St E.S
 | .start l0 t1_0 t1_1 t1_2 t1_3 => st0 21 [.sl 103 l0 false, .agg [.v (.int .i64 t1_0), .v (.int .i64 t1_1), .v (.string t1_2), .sl 25 t1_3 false]] []
abbrev x82 : Type := ((Int × (Int × Unit)) × Unit)
def vi7 : Res E (Int × (Int × Unit)) Unit := { rows := [], flat := [], keep := 0, done := [0, 1], rl := (.cons (Rd.int .i64) (.cons (Rd.int .i64) .nil)), rb := .nil }
def vl1 : xx2 → Option x82
 | .start l0 t1_0 t1_1 t1_2 t1_3 =>
  (uq9 (.start l0 t1_0 t1_1 t1_2 t1_3)) >>= fun t1 =>
  if (t1.1.2.2.1 != (0 : Int)) = true then
   some (((0 : Int), (t1.1.2.2.1, ())), ())
  else
   (run_z61 (.start t1.1.1)) >>= fun t2 =>
   some ((t2.1.1, ((0 : Int), ())), ())
def xt6 : List (Plc E xx2) := []
theorem wZ0 : All (ub8 21 0 vO9 xT0) xt6 := trivial
def wn3 : Code := Tryz.f16.body.getD .skip
def wy6 : Spec E.S := (Con.add vA5 (Con.add uG2 ub1))
theorem wf4 : ub0 E wy6 := (Con.add_ok u00 (Con.add_ok uo5 ua7))
theorem xH7 : ∀ pt r, vl1 pt = some r → Good E Tryz.f16 wn3 0 (vi7.av r) (vi7.bx r) (vO9 pt) (xT0 pt) := by
 intro pt r hr
 cases pt <;> exact ua9 (spec := wy6) (wr := (mkWr [] [])) (l := xt6) (z := 21) (p := vi7) (run' := fun _ => none) E_ok wZ0.mem rfl wf4 (fun _ _ h => by cases h) (Eq.trans (by kernel_rfl) hr)
def w90 : Con E := ⟨16, _, _, (.cons (Rw.sl 103) (.cons (Rw.agg (.cons (Rd.int .i64).w (.cons (Rd.int .i64).w (.cons Rd.str.w (.cons (Rw.sl 25) .nil))))) .nil)), .nil, 0, x82, fun a b => vl1 (.start a.1 a.2.1.1 a.2.1.2.1 a.2.1.2.2.1 a.2.1.2.2.2.1), vi7.av, vi7.bx⟩
theorem wL3 : w90.Ok := fun a b r h => ub4 (fn := Tryz.f16) (code := wn3) E_ok (by kernel_rfl) (by kernel_rfl) (by kernel_rfl) (Nat.le_of_ble_eq_true rfl) (xH7 (.start a.1 a.2.1.1 a.2.1.2.1 a.2.1.2.2.1 a.2.1.2.2.2.1) r h)
inductive xx3 where
 | start (l0 : (List ua2)) (t1_0 : Int) (t1_1 : Int) (t1_2 : ByteArray) (t1_3 : (List ua0))
 | p1012 (s31 : (Option (List data_variant))) (s32 : Int) (s33 : Int) (B0 : (List ua8))
 | p2074228 (low13 : Int) (s31 : (Option (List data_variant))) (s32 : Int) (s33 : Int) (s45 : (Option (List (Option ua4)))) (s46 : Int) (s47 : Int) (B0 : (List ua8)) (D0 : ByteArray) (D1 : (List ua6)) (D2 : (Option (List (Option ua4)))) (G0 : ByteArray) (G1 : Int) (B3 : (List uc0))
def ve4 : xx3 → List Bool
 | .start .. => []
 | .p1012 .. => [false, false, true, false, true, true, true, true, true]
 | .p2074228 .. => [false, false, true, false, true, true, true, false, false, true, true, false, false, true, false, true, true, true, true, true]
def xk8 : xx3 → St E.S
 | .start l0 t1_0 t1_1 t1_2 t1_3 => st0 78 [.sl 103 l0 false, .agg [.v (.int .i64 t1_0), .v (.int .i64 t1_1), .v (.string t1_2), .sl 25 t1_3 false]] []
 | .p1012 s31 s32 s33 B0 => mkSt 78 [9, 31, 32, 33] [.rw 0, .so 125 s31, .v (.int .i64 s32), .v (.int .i64 s33)] [.row 81 B0 false]
 | .p2074228 low13 s31 s32 s33 s45 s46 s47 B0 D0 D1 D2 G0 G1 B3 => mkSt 78 [9, 11, 12, 13, 31, 32, 33, 45, 46, 47] [.rw 0, .bp 1 0, .bp 2 0, .v (.int .i64 low13), .so 125 s31, .v (.int .i64 s32), .v (.int .i64 s33), .so 105 s45, .v (.int .i64 s46), .v (.int .i64 s47)] [.row 81 B0 false, .var 125 [.v (.string D0), .sl 58 D1 false, .so 105 D2], .var 81 [.v (.string G0), .v (.int .i64 G1), .rw 3], .row 75 B3 false]
abbrev x83 : Type := ((Unit × (Int × Unit)) × ((List ua8) × Unit))
def uR9 : Res E (Unit × (Int × Unit)) ((List ua8) × Unit) := { rows := [(0, 81)], flat := [], keep := 0, done := [0, 1], rl := (.cons (Rd.rw 0) (.cons (Rd.int .i64) .nil)), rb := (.cons (.row 81 true) .nil) }
def ug0 : xx3 → Option x83
 | .start l0 t1_0 t1_1 t1_2 t1_3 =>
  (uq9 (.start l0 t1_0 t1_1 t1_2 t1_3)) >>= fun t1 =>
  if (t1.1.2.2.1 != (0 : Int)) = true then
   some (((), (t1.1.2.2.1, ())), (([] : List ua8), ()))
  else
   (un8 (.start t1.1.1)) >>= fun t2 =>
   if t2.1.1 = true then
    some (((), ((15 : Int), ())), (([] : List ua8), ()))
   else
    t1.1.1 >>= fun t3 =>
    ug0 (.p1012 t3.constructors (List.length (Option.getD t3.constructors []) : Int) (0 : Int) ([] : List ua8))
 | .p1012 s31 s32 s33 B0 =>
  if (decide (s33 < s32)) = true then
   (idx (Option.getD s31 []) s33) >>= fun t1 =>
   (ui4 (.start t1.name t1.fields t1.parts)) >>= fun t2 =>
   ug0 (.p2074228 t2.1.1 s31 s32 s33 t1.parts (List.length (Option.getD t1.parts []) : Int) (0 : Int) B0 t1.name t1.fields t1.parts t1.name s33 ([] : List uc0))
  else
   some (((), ((0 : Int), ())), (B0, ()))
 | .p2074228 low13 s31 s32 s33 s45 s46 s47 B0 D0 D1 D2 G0 G1 B3 =>
  if (decide (s47 < s46)) = true then
   (idx (Option.getD s45 []) s47) >>= fun t1 =>
   (run_z41 (.start t1)) >>= fun t2 =>
   (idx D1 s47) >>= fun t3 =>
   (run_z41 (.start t1)) >>= fun t4 =>
   if (fits (List.length B3) (List.length ([(⟨t3.Name, IntKind.wrap .i64 (low13 - t2.1.1), t4.1.1⟩ : uc0)] : List uc0)) 32) = true then
    ug0 (.p2074228 (IntKind.wrap .i64 (low13 - t2.1.1)) s31 s32 s33 s45 s46 (IntKind.wrap .i64 (s47 + (1 : Int))) B0 D0 D1 D2 G0 G1 (B3 ++ ([(⟨t3.Name, IntKind.wrap .i64 (low13 - t2.1.1), t4.1.1⟩ : uc0)] : List uc0)))
   else none
  else
   if (fits (List.length B0) (List.length ([(⟨G0, G1, B3⟩ : ua8)] : List ua8)) 48) = true then
    ug0 (.p1012 s31 s32 (IntKind.wrap .i64 (s33 + (1 : Int))) (B0 ++ ([(⟨G0, G1, B3⟩ : ua8)] : List ua8)))
   else none
 partial_fixpoint
def xt7 : List (Plc E xx3) := [⟨1012, [false, false, true, false, true, true, true, true, true], { slots := [9, 31, 32, 33], rows := [(9, 81)], flat := [], keep := 0 }, _, _, (.cons (Rd.rw 0) (.cons (Rd.so 125) (.cons (Rd.int .i64) (.cons (Rd.int .i64) .nil)))), (.cons (.row 81 false) .nil), fun a b => .p1012 a.2.1 a.2.2.1 a.2.2.2.1 b.1⟩,
 ⟨2074228, [false, false, true, false, true, true, true, false, false, true, true, false, false, true, false, true, true, true, true, true], { slots := [9, 11, 12, 13, 31, 32, 33, 45, 46, 47], rows := [], flat := [], keep := 0, up := [(true, 12, 2, 75)] }, _, _, (.cons (Rd.rw 0) (.cons (Rd.bp 1 0) (.cons (Rd.bp 2 0) (.cons (Rd.int .i64) (.cons (Rd.so 125) (.cons (Rd.int .i64) (.cons (Rd.int .i64) (.cons (Rd.so 105) (.cons (Rd.int .i64) (.cons (Rd.int .i64) .nil)))))))))), (.cons (.row 81 false) (.cons (.var 125 (.cons Rd.str (.cons (Rd.sl 58 false) (.cons (Rd.so 105) .nil)))) (.cons (.var 81 (.cons Rd.str (.cons (Rd.int .i64) (.cons (Rd.rw 3) .nil)))) (.cons (.row 75 false) .nil)))), fun a b => .p2074228 a.2.2.2.1 a.2.2.2.2.1 a.2.2.2.2.2.1 a.2.2.2.2.2.2.1 a.2.2.2.2.2.2.2.1 a.2.2.2.2.2.2.2.2.1 a.2.2.2.2.2.2.2.2.2.1 b.1 b.2.1.1 b.2.1.2.1 b.2.1.2.2.1 b.2.2.1.1 b.2.2.1.2.1 b.2.2.2.1⟩]
theorem wZ1 : All (ub8 78 0 ve4 xk8) xt7 := ⟨⟨rfl, rfl, fun _ _ => rfl, fun _ _ => rfl⟩, ⟨⟨rfl, rfl, fun _ _ => rfl, fun _ _ => rfl⟩, trivial⟩⟩
def vz2 : Code := Tryz.f42.body.getD .skip
def wy7 : Spec E.S := (Con.add uP2 (Con.add vY3 (Con.add uB9 (Con.add uG2 ub1))))
theorem wf5 : ub0 E wy7 := (Con.add_ok uu1 (Con.add_ok vr3 (Con.add_ok um5 (Con.add_ok uo5 ua7))))
theorem xH8 : ∀ pt r, ug0 pt = some r → Good E Tryz.f42 vz2 0 (uR9.av r) (uR9.bx r) (ve4 pt) (xk8 pt) := by
 refine ug0.partial_correctness (fun pt r => Good E Tryz.f42 vz2 0 (uR9.av r) (uR9.bx r) (ve4 pt) (xk8 pt)) ?_
 intro run' ih pt r hr
 cases pt <;> exact ua9 (spec := wy7) (wr := (mkWr [] [(259279, [12])])) (l := xt7) (z := 78) (p := uR9) E_ok wZ1.mem rfl wf5 ih (Eq.trans (by kernel_rfl) hr)
def w91 : Con E := ⟨42, _, _, (.cons (Rw.sl 103) (.cons (Rw.agg (.cons (Rd.int .i64).w (.cons (Rd.int .i64).w (.cons Rd.str.w (.cons (Rw.sl 25) .nil))))) .nil)), .nil, 0, x83, fun a b => ug0 (.start a.1 a.2.1.1 a.2.1.2.1 a.2.1.2.2.1 a.2.1.2.2.2.1), uR9.av, uR9.bx⟩
theorem wL4 : w91.Ok := fun a b r h => ub4 (fn := Tryz.f42) (code := vz2) E_ok (by kernel_rfl) (by kernel_rfl) (by kernel_rfl) (Nat.le_of_ble_eq_true rfl) (xH8 (.start a.1 a.2.1.1 a.2.1.2.1 a.2.1.2.2.1 a.2.1.2.2.2.1) r h)
inductive xx4 where
 | start (l0 : (List ua2)) (t1_0 : Int) (t1_1 : Int) (t1_2 : ByteArray) (t1_3 : (List ua0))
def vP0 : xx4 → List Bool
 | .start .. => []
def xT1 : xx4 → St E.S
 | .start l0 t1_0 t1_1 t1_2 t1_3 => st0 28 [.sl 103 l0 false, .agg [.v (.int .i64 t1_0), .v (.int .i64 t1_1), .v (.string t1_2), .sl 25 t1_3 false]] []
abbrev x84 : Type := (((ByteArray × (Int × (Int × Unit))) × (Int × Unit)) × Unit)
def vi9 : Res E ((ByteArray × (Int × (Int × Unit))) × (Int × Unit)) Unit := { rows := [], flat := [], keep := 0, done := [0, 1], rl := (.cons (Rd.agg (.cons Rd.str (.cons (Rd.int .i64) (.cons (Rd.int .i64) .nil)))) (.cons (Rd.int .i64) .nil)), rb := .nil }
def uE7 : xx4 → Option x84
 | .start l0 t1_0 t1_1 t1_2 t1_3 =>
  (uq9 (.start l0 t1_0 t1_1 t1_2 t1_3)) >>= fun t1 =>
  if (t1.1.2.2.1 != (0 : Int)) = true then
   some ((((⟨#[]⟩ : ByteArray), ((0 : Int), ((0 : Int), ()))), (t1.1.2.2.1, ())), ())
  else
   (un8 (.start t1.1.1)) >>= fun t2 =>
   if t2.1.1 = true then
    some ((((⟨#[]⟩ : ByteArray), ((0 : Int), ((0 : Int), ()))), ((15 : Int), ())), ())
   else
    (run_z42 (.start t1.1.1)) >>= fun t3 =>
    (uJ3 (.start t1.1.1)) >>= fun t4 =>
    some ((((⟨#[]⟩ : ByteArray), (t3.1.1, (t4.1.1, ()))), ((0 : Int), ())), ())
def xt9 : List (Plc E xx4) := []
theorem wZ2 : All (ub8 28 0 vP0 xT1) xt9 := trivial
def wn4 : Code := Tryz.f43.body.getD .skip
def wy8 : Spec E.S := (Con.add vY2 (Con.add vA4 (Con.add uB9 (Con.add uG2 ub1))))
theorem wf6 : ub0 E wy8 := (Con.add_ok vr2 (Con.add_ok uZ9 (Con.add_ok um5 (Con.add_ok uo5 ua7))))
theorem xH9 : ∀ pt r, uE7 pt = some r → Good E Tryz.f43 wn4 0 (vi9.av r) (vi9.bx r) (vP0 pt) (xT1 pt) := by
 intro pt r hr
 cases pt <;> exact ua9 (spec := wy8) (wr := (mkWr [] [])) (l := xt9) (z := 28) (p := vi9) (run' := fun _ => none) E_ok wZ2.mem rfl wf6 (fun _ _ h => by cases h) (Eq.trans (by kernel_rfl) hr)
def w93 : Con E := ⟨43, _, _, (.cons (Rw.sl 103) (.cons (Rw.agg (.cons (Rd.int .i64).w (.cons (Rd.int .i64).w (.cons Rd.str.w (.cons (Rw.sl 25) .nil))))) .nil)), .nil, 0, x84, fun a b => uE7 (.start a.1 a.2.1.1 a.2.1.2.1 a.2.1.2.2.1 a.2.1.2.2.2.1), vi9.av, vi9.bx⟩
theorem wL5 : w93.Ok := fun a b r h => ub4 (fn := Tryz.f43) (code := wn4) E_ok (by kernel_rfl) (by kernel_rfl) (by kernel_rfl) (Nat.le_of_ble_eq_true rfl) (xH9 (.start a.1 a.2.1.1 a.2.1.2.1 a.2.1.2.2.1 a.2.1.2.2.2.1) r h)
inductive xx5 where
 | start (s0 : ByteArray)
 | p7 (s0 : ByteArray)
 | p116 (s0 : ByteArray) (i3 : Int)
 | p3731 (s0 : ByteArray) (i3 : Int) (c4 : Int) (letter5 : Bool)
def ve5 : xx5 → List Bool
 | .start .. => []
 | .p7 .. => [true, true]
 | .p116 .. => [false, false, true, false, true, true]
 | .p3731 .. => [true, true, false, false, true, false, false, true, false, true, true]
def xk9 : xx5 → St E.S
 | .start s0 => st0 55 [.v (.string s0)] []
 | .p7 s0 => mkSt 55 [0] [.v (.string s0)] []
 | .p116 s0 i3 => mkSt 55 [0, 3] [.v (.string s0), .v (.int .i64 i3)] []
 | .p3731 s0 i3 c4 letter5 => mkSt 55 [0, 3, 4, 5] [.v (.string s0), .v (.int .i64 i3), .v (.int .u8 c4), .v (.bool letter5)] []
abbrev x85 : Type := ((Bool × Unit) × Unit)
def uS0 : Res E (Bool × Unit) Unit := { rows := [], flat := [], keep := 0, done := [0], rl := (.cons Rd.bool .nil), rb := .nil }
def ud7 : xx5 → Option x85
 | .start s0 =>
  if (decide ((s0.size : Int) < (1 : Int))) = true then
   some ((false, ()), ())
  else
   if (decide ((s0.size : Int) > (16 : Int))) = true then
    some ((false, ()), ())
   else
    ud7 (.p7 s0)
 | .p7 s0 =>
  ud7 (.p116 s0 (0 : Int))
 | .p116 s0 i3 =>
  if (decide (i3 < (s0.size : Int))) = true then
   (sidx s0 i3) >>= fun t1 =>
   if (decide (t1 ≥ (97 : Int))) = true then
    if (decide (t1 ≤ (122 : Int))) = true then
     ud7 (.p3731 s0 i3 t1 true)
    else
     if (decide (t1 ≥ (65 : Int))) = true then
      ud7 (.p3731 s0 i3 t1 (decide (t1 ≤ (90 : Int))))
     else
      ud7 (.p3731 s0 i3 t1 false)
   else
    if (decide (t1 ≥ (65 : Int))) = true then
     ud7 (.p3731 s0 i3 t1 (decide (t1 ≤ (90 : Int))))
    else
     ud7 (.p3731 s0 i3 t1 false)
  else
   some ((true, ()), ())
 | .p3731 s0 i3 c4 letter5 =>
  if (!letter5) = true then
   if (i3 == (0 : Int)) = true then
    some ((false, ()), ())
   else
    if (c4 != (95 : Int)) = true then
     if (decide (c4 < (48 : Int))) = true then
      some ((false, ()), ())
     else
      if (decide (c4 > (57 : Int))) = true then
       some ((false, ()), ())
      else
       ud7 (.p116 s0 (IntKind.wrap .i64 (i3 + (1 : Int))))
    else
     ud7 (.p116 s0 (IntKind.wrap .i64 (i3 + (1 : Int))))
  else
   ud7 (.p116 s0 (IntKind.wrap .i64 (i3 + (1 : Int))))
 partial_fixpoint
def xu0 : List (Plc E xx5) := [⟨7, [true, true], { slots := [0], rows := [], flat := [], keep := 0 }, _, _, (.cons Rd.str .nil), .nil, fun a b => .p7 a.1⟩,
 ⟨116, [false, false, true, false, true, true], { slots := [0, 3], rows := [], flat := [], keep := 0 }, _, _, (.cons Rd.str (.cons (Rd.int .i64) .nil)), .nil, fun a b => .p116 a.1 a.2.1⟩,
 ⟨3731, [true, true, false, false, true, false, false, true, false, true, true], { slots := [0, 3, 4, 5], rows := [], flat := [], keep := 0 }, _, _, (.cons Rd.str (.cons (Rd.int .i64) (.cons (Rd.int .u8) (.cons Rd.bool .nil)))), .nil, fun a b => .p3731 a.1 a.2.1 a.2.2.1 a.2.2.2.1⟩]
theorem wZ3 : All (ub8 55 0 ve5 xk9) xu0 := ⟨⟨rfl, rfl, fun _ _ => rfl, fun _ _ => rfl⟩, ⟨⟨rfl, rfl, fun _ _ => rfl, fun _ _ => rfl⟩, ⟨⟨rfl, rfl, fun _ _ => rfl, fun _ _ => rfl⟩, trivial⟩⟩⟩
def vz3 : Code := Tryz.f118.body.getD .skip
def wy9 : Spec E.S := ub1
theorem wf7 : ub0 E wy9 := ua7
theorem xI0 : ∀ pt r, ud7 pt = some r → Good E Tryz.f118 vz3 0 (uS0.av r) (uS0.bx r) (ve5 pt) (xk9 pt) := by
 refine ud7.partial_correctness (fun pt r => Good E Tryz.f118 vz3 0 (uS0.av r) (uS0.bx r) (ve5 pt) (xk9 pt)) ?_
 intro run' ih pt r hr
 cases pt <;> exact ua9 (spec := wy9) (wr := (mkWr [] [])) (l := xu0) (z := 55) (p := uS0) E_ok wZ3.mem rfl wf7 ih (Eq.trans (by kernel_rfl) hr)
def vY8 : Con E := ⟨118, _, _, (.cons Rd.str.w .nil), .nil, 0, x85, fun a b => ud7 (.start a.1), uS0.av, uS0.bx⟩
theorem vr8 : vY8.Ok := fun a b r h => ub4 (fn := Tryz.f118) (code := vz3) E_ok (by kernel_rfl) (by kernel_rfl) (by kernel_rfl) (Nat.le_of_ble_eq_true rfl) (xI0 (.start a.1) r h)
inductive xx6 where
 | start (l0 : (List ua2)) (name1 : ByteArray)
 | p52 (l0 : (List ua2)) (name1 : ByteArray) (i5 : Int)
def ve6 : xx6 → List Bool
 | .start .. => []
 | .p52 .. => [false, false, true, false, true]
def xl0 : xx6 → St E.S
 | .start l0 name1 => st0 20 [.sl 103 l0 false, .v (.string name1)] []
 | .p52 l0 name1 i5 => mkSt 20 [0, 1, 5] [.sl 103 l0 false, .v (.string name1), .v (.int .i64 i5)] []
abbrev x86 : Type := ((Int × Unit) × Unit)
def uS1 : Res E (Int × Unit) Unit := { rows := [], flat := [], keep := 0, done := [0], rl := (.cons (Rd.int .i64) .nil), rb := .nil }
def uo1 : xx6 → Option x86
 | .start l0 name1 =>
  uo1 (.p52 l0 name1 (0 : Int))
 | .p52 l0 name1 i5 =>
  if (decide (i5 < (List.length l0 : Int))) = true then
   (idx l0 i5) >>= fun t1 =>
   if (seq t1.Name name1) = true then
    some ((i5, ()), ())
   else
    uo1 (.p52 l0 name1 (IntKind.wrap .i64 (i5 + (1 : Int))))
  else
   some (((-1 : Int), ()), ())
 partial_fixpoint
def xu1 : List (Plc E xx6) := [⟨52, [false, false, true, false, true], { slots := [0, 1, 5], rows := [], flat := [], keep := 0 }, _, _, (.cons (Rd.sl 103 false) (.cons Rd.str (.cons (Rd.int .i64) .nil))), .nil, fun a b => .p52 a.1 a.2.1 a.2.2.1⟩]
theorem wZ4 : All (ub8 20 0 ve6 xl0) xu1 := ⟨⟨rfl, rfl, fun _ _ => rfl, fun _ _ => rfl⟩, trivial⟩
def vz4 : Code := Tryz.f81.body.getD .skip
def wz0 : Spec E.S := ub1
theorem wf8 : ub0 E wz0 := ua7
theorem xI1 : ∀ pt r, uo1 pt = some r → Good E Tryz.f81 vz4 0 (uS1.av r) (uS1.bx r) (ve6 pt) (xl0 pt) := by
 refine uo1.partial_correctness (fun pt r => Good E Tryz.f81 vz4 0 (uS1.av r) (uS1.bx r) (ve6 pt) (xl0 pt)) ?_
 intro run' ih pt r hr
 cases pt <;> exact ua9 (spec := wz0) (wr := (mkWr [] [])) (l := xu1) (z := 20) (p := uS1) E_ok wZ4.mem rfl wf8 ih (Eq.trans (by kernel_rfl) hr)
def vA7 : Con E := ⟨81, _, _, (.cons (Rw.sl 103) (.cons Rd.str.w .nil)), .nil, 0, x86, fun a b => uo1 (.start a.1 a.2.1), uS1.av, uS1.bx⟩
theorem u02 : vA7.Ok := fun a b r h => ub4 (fn := Tryz.f81) (code := vz4) E_ok (by kernel_rfl) (by kernel_rfl) (by kernel_rfl) (Nat.le_of_ble_eq_true rfl) (xI1 (.start a.1 a.2.1) r h)
inductive xx7 where
 | start (l0 : (List ByteArray)) (s1 : ByteArray)
 | p52 (l0 : (List ByteArray)) (s1 : ByteArray) (i5 : Int)
def ve7 : xx7 → List Bool
 | .start .. => []
 | .p52 .. => [false, false, true, false, true]
def xl1 : xx7 → St E.S
 | .start l0 s1 => st0 18 [.sl 9 l0 false, .v (.string s1)] []
 | .p52 l0 s1 i5 => mkSt 18 [0, 1, 5] [.sl 9 l0 false, .v (.string s1), .v (.int .i64 i5)] []
abbrev x87 : Type := ((Bool × Unit) × Unit)
def uS2 : Res E (Bool × Unit) Unit := { rows := [], flat := [], keep := 0, done := [0], rl := (.cons Rd.bool .nil), rb := .nil }
def ur0 : xx7 → Option x87
 | .start l0 s1 =>
  ur0 (.p52 l0 s1 (0 : Int))
 | .p52 l0 s1 i5 =>
  if (decide (i5 < (List.length l0 : Int))) = true then
   (idx l0 i5) >>= fun t1 =>
   if (seq t1 s1) = true then
    some ((true, ()), ())
   else
    ur0 (.p52 l0 s1 (IntKind.wrap .i64 (i5 + (1 : Int))))
  else
   some ((false, ()), ())
 partial_fixpoint
def xu2 : List (Plc E xx7) := [⟨52, [false, false, true, false, true], { slots := [0, 1, 5], rows := [], flat := [], keep := 0 }, _, _, (.cons (Rd.sl 9 false) (.cons Rd.str (.cons (Rd.int .i64) .nil))), .nil, fun a b => .p52 a.1 a.2.1 a.2.2.1⟩]
theorem wZ5 : All (ub8 18 0 ve7 xl1) xu2 := ⟨⟨rfl, rfl, fun _ _ => rfl, fun _ _ => rfl⟩, trivial⟩
def vz5 : Code := Tryz.f119.body.getD .skip
def wz1 : Spec E.S := ub1
theorem wf9 : ub0 E wz1 := ua7
theorem xI2 : ∀ pt r, ur0 pt = some r → Good E Tryz.f119 vz5 0 (uS2.av r) (uS2.bx r) (ve7 pt) (xl1 pt) := by
 refine ur0.partial_correctness (fun pt r => Good E Tryz.f119 vz5 0 (uS2.av r) (uS2.bx r) (ve7 pt) (xl1 pt)) ?_
 intro run' ih pt r hr
 cases pt <;> exact ua9 (spec := wz1) (wr := (mkWr [] [])) (l := xu2) (z := 18) (p := uS2) E_ok wZ5.mem rfl wf9 ih (Eq.trans (by kernel_rfl) hr)
def vY9 : Con E := ⟨119, _, _, (.cons (Rw.sl 9) (.cons Rd.str.w .nil)), .nil, 0, x87, fun a b => ur0 (.start a.1 a.2.1), uS2.av, uS2.bx⟩
theorem vr9 : vY9.Ok := fun a b r h => ub4 (fn := Tryz.f119) (code := vz5) E_ok (by kernel_rfl) (by kernel_rfl) (by kernel_rfl) (Nat.le_of_ble_eq_true rfl) (xI2 (.start a.1 a.2.1) r h)
inductive xx8 where
 | start (l0 : (List ua2)) (name1 : ByteArray)
 | p52 (l0 : (List ua2)) (name1 : ByteArray) (i5 : Int)
 | p3364 (l0 : (List ua2)) (name1 : ByteArray) (i5 : Int) (k6 : Int)
def ve8 : xx8 → List Bool
 | .start .. => []
 | .p52 .. => [false, false, true, false, true]
 | .p3364 .. => [false, false, true, false, false, true, false, false, true, false, true]
def xl2 : xx8 → St E.S
 | .start l0 name1 => st0 34 [.sl 103 l0 false, .v (.string name1)] []
 | .p52 l0 name1 i5 => mkSt 34 [0, 1, 5] [.sl 103 l0 false, .v (.string name1), .v (.int .i64 i5)] []
 | .p3364 l0 name1 i5 k6 => mkSt 34 [0, 1, 5, 6] [.sl 103 l0 false, .v (.string name1), .v (.int .i64 i5), .v (.int .i64 k6)] []
abbrev x88 : Type := ((Bool × Unit) × Unit)
def uS3 : Res E (Bool × Unit) Unit := { rows := [], flat := [], keep := 0, done := [0], rl := (.cons Rd.bool .nil), rb := .nil }
def uh8 : xx8 → Option x88
 | .start l0 name1 =>
  uh8 (.p52 l0 name1 (0 : Int))
 | .p52 l0 name1 i5 =>
  if (decide (i5 < (List.length l0 : Int))) = true then
   uh8 (.p3364 l0 name1 i5 (0 : Int))
  else
   some ((false, ()), ())
 | .p3364 l0 name1 i5 k6 =>
  (idx l0 i5) >>= fun t1 =>
  if (decide (k6 < (List.length t1.Constructors : Int))) = true then
   (idx l0 i5) >>= fun t2 =>
   (idx t2.Constructors k6) >>= fun t3 =>
   if (seq t3.Name name1) = true then
    some ((true, ()), ())
   else
    uh8 (.p3364 l0 name1 i5 (IntKind.wrap .i64 (k6 + (1 : Int))))
  else
   uh8 (.p52 l0 name1 (IntKind.wrap .i64 (i5 + (1 : Int))))
 partial_fixpoint
def xu3 : List (Plc E xx8) := [⟨52, [false, false, true, false, true], { slots := [0, 1, 5], rows := [], flat := [], keep := 0 }, _, _, (.cons (Rd.sl 103 false) (.cons Rd.str (.cons (Rd.int .i64) .nil))), .nil, fun a b => .p52 a.1 a.2.1 a.2.2.1⟩,
 ⟨3364, [false, false, true, false, false, true, false, false, true, false, true], { slots := [0, 1, 5, 6], rows := [], flat := [], keep := 0 }, _, _, (.cons (Rd.sl 103 false) (.cons Rd.str (.cons (Rd.int .i64) (.cons (Rd.int .i64) .nil)))), .nil, fun a b => .p3364 a.1 a.2.1 a.2.2.1 a.2.2.2.1⟩]
theorem wZ6 : All (ub8 34 0 ve8 xl2) xu3 := ⟨⟨rfl, rfl, fun _ _ => rfl, fun _ _ => rfl⟩, ⟨⟨rfl, rfl, fun _ _ => rfl, fun _ _ => rfl⟩, trivial⟩⟩
def vz6 : Code := Tryz.f120.body.getD .skip
def wz2 : Spec E.S := ub1
theorem wg0 : ub0 E wz2 := ua7
theorem xI3 : ∀ pt r, uh8 pt = some r → Good E Tryz.f120 vz6 0 (uS3.av r) (uS3.bx r) (ve8 pt) (xl2 pt) := by
 refine uh8.partial_correctness (fun pt r => Good E Tryz.f120 vz6 0 (uS3.av r) (uS3.bx r) (ve8 pt) (xl2 pt)) ?_
 intro run' ih pt r hr
 cases pt <;> exact ua9 (spec := wz2) (wr := (mkWr [] [])) (l := xu3) (z := 34) (p := uS3) E_ok wZ6.mem rfl wg0 ih (Eq.trans (by kernel_rfl) hr)
def w94 : Con E := ⟨120, _, _, (.cons (Rw.sl 103) (.cons Rd.str.w .nil)), .nil, 0, x88, fun a b => uh8 (.start a.1 a.2.1), uS3.av, uS3.bx⟩
theorem wL6 : w94.Ok := fun a b r h => ub4 (fn := Tryz.f120) (code := vz6) E_ok (by kernel_rfl) (by kernel_rfl) (by kernel_rfl) (Nat.le_of_ble_eq_true rfl) (xI3 (.start a.1 a.2.1) r h)
inductive xx9 where
 | start (n0 : Int) (lo1 : Int) (hi2 : Int)
def vP1 : xx9 → List Bool
 | .start .. => []
def xT2 : xx9 → St E.S
 | .start n0 lo1 hi2 => st0 15 [.v (.int .i64 n0), .v (.int .i64 lo1), .v (.int .i64 hi2)] []
abbrev x89 : Type := ((Bool × Unit) × Unit)
def vj0 : Res E (Bool × Unit) Unit := { rows := [], flat := [], keep := 0, done := [0], rl := (.cons Rd.bool .nil), rb := .nil }
def uT2 : xx9 → Option x89
 | .start n0 lo1 hi2 =>
  if (decide (lo1 ≤ n0)) = true then
   some ((decide (n0 ≤ hi2), ()), ())
  else
   some ((false, ()), ())
def xu4 : List (Plc E xx9) := []
theorem wZ7 : All (ub8 15 0 vP1 xT2) xu4 := trivial
def wn5 : Code := Tryz.f17.body.getD .skip
def wz3 : Spec E.S := ub1
theorem wg1 : ub0 E wz3 := ua7
theorem xI4 : ∀ pt r, uT2 pt = some r → Good E Tryz.f17 wn5 0 (vj0.av r) (vj0.bx r) (vP1 pt) (xT2 pt) := by
 intro pt r hr
 cases pt <;> exact ua9 (spec := wz3) (wr := (mkWr [] [])) (l := xu4) (z := 15) (p := vj0) (run' := fun _ => none) E_ok wZ7.mem rfl wg1 (fun _ _ h => by cases h) (Eq.trans (by kernel_rfl) hr)
def vZ0 : Con E := ⟨17, _, _, (.cons (Rd.int .i64).w (.cons (Rd.int .i64).w (.cons (Rd.int .i64).w .nil))), .nil, 0, x89, fun a b => uT2 (.start a.1 a.2.1 a.2.2.1), vj0.av, vj0.bx⟩
theorem vs0 : vZ0.Ok := fun a b r h => ub4 (fn := Tryz.f17) (code := wn5) E_ok (by kernel_rfl) (by kernel_rfl) (by kernel_rfl) (Nat.le_of_ble_eq_true rfl) (xI4 (.start a.1 a.2.1 a.2.2.1) r h)
inductive vG1 where
 | start (l0 : (List ua2)) (params1 : (List ByteArray)) (t2_0 : Int) (t2_1 : Int) (t2_2 : ByteArray) (t2_3 : (List ua0))
 | p31 (l0 : (List ua2)) (params1 : (List ByteArray)) (parts7 : Int) (C0 : Int) (C1 : Int) (C2 : ByteArray) (C3 : (List ua0))
 | p63 (l0 : (List ua2)) (params1 : (List ByteArray)) (parts7 : Int) (C0 : Int) (C1 : Int) (C2 : ByteArray) (C3 : (List ua0))
 | p255 (l0 : (List ua2)) (params1 : (List ByteArray)) (C0 : Int) (C1 : Int) (C2 : ByteArray) (C3 : (List ua0))
 | p4084 (l0 : (List ua2)) (params1 : (List ByteArray)) (i9 : Int) (C0 : Int) (C1 : Int) (C2 : ByteArray) (C3 : (List ua0))
def uI3 : vG1 → List Bool
 | .start .. => []
 | .p31 .. => [true, true, true, true]
 | .p63 .. => [true, true, true, true, true]
 | .p255 .. => [true, true, true, true, true, true, true]
 | .p4084 .. => [false, false, true, false, true, true, true, true, true, true, true]
def vU9 : vG1 → St E.S
 | .start l0 params1 t2_0 t2_1 t2_2 t2_3 => st0 81 [.sl 103 l0 false, .sl 9 params1 false, .agg [.v (.int .i64 t2_0), .v (.int .i64 t2_1), .v (.string t2_2), .sl 25 t2_3 false]] []
 | .p31 l0 params1 parts7 C0 C1 C2 C3 => mkSt 81 [0, 1, 5, 7] [.sl 103 l0 false, .sl 9 params1 false, .bp 0 0, .v (.int .i64 parts7)] [.var 25 [.v (.int .i64 C0), .v (.int .i64 C1), .v (.string C2), .sl 25 C3 false]]
 | .p63 l0 params1 parts7 C0 C1 C2 C3 => mkSt 81 [0, 1, 5, 7] [.sl 103 l0 false, .sl 9 params1 false, .bp 0 0, .v (.int .i64 parts7)] [.var 25 [.v (.int .i64 C0), .v (.int .i64 C1), .v (.string C2), .sl 25 C3 false]]
 | .p255 l0 params1 C0 C1 C2 C3 => mkSt 81 [0, 1, 5] [.sl 103 l0 false, .sl 9 params1 false, .bp 0 0] [.var 25 [.v (.int .i64 C0), .v (.int .i64 C1), .v (.string C2), .sl 25 C3 false]]
 | .p4084 l0 params1 i9 C0 C1 C2 C3 => mkSt 81 [0, 1, 5, 9] [.sl 103 l0 false, .sl 9 params1 false, .bp 0 0, .v (.int .i64 i9)] [.var 25 [.v (.int .i64 C0), .v (.int .i64 C1), .v (.string C2), .sl 25 C3 false]]
abbrev vV8 : Type := ((Int × Unit) × Unit)
def uq2 : Res E (Int × Unit) Unit := { rows := [], flat := [], keep := 0, done := [0], rl := (.cons (Rd.int .i64) .nil), rb := .nil }
def ud4 : vG1 → Option vV8
 | .start l0 params1 t2_0 t2_1 t2_2 t2_3 =>
  (uT2 (.start t2_0 (0 : Int) (2 : Int))) >>= fun t1 =>
  if (!t1.1.1) = true then
   some (((15 : Int), ()), ())
  else
   if (t2_0 == (0 : Int)) = true then
    (ur0 (.start params1 t2_2)) >>= fun t2 =>
    if (!t2.1.1) = true then
     some (((6 : Int), ()), ())
    else
     ud4 (.p31 l0 params1 (0 : Int) t2_0 t2_1 t2_2 t2_3)
   else
    ud4 (.p31 l0 params1 (0 : Int) t2_0 t2_1 t2_2 t2_3)
 | .p31 l0 params1 parts7 C0 C1 C2 C3 =>
  if (C0 == (1 : Int)) = true then
   (uo1 (.start l0 C2)) >>= fun t1 =>
   if (seq C2 (⟨#[66, 105, 116]⟩ : ByteArray)) = true then
    ud4 (.p63 l0 params1 (1 : Int) C0 C1 C2 C3)
   else
    if (seq C2 (⟨#[66, 111, 111, 108]⟩ : ByteArray)) = true then
     ud4 (.p63 l0 params1 parts7 C0 C1 C2 C3)
    else
     if (decide (t1.1.1 ≥ (0 : Int))) = true then
      (idx l0 t1.1.1) >>= fun t2 =>
      ud4 (.p63 l0 params1 (List.length t2.Params : Int) C0 C1 C2 C3)
     else
      some (((6 : Int), ()), ())
  else
   ud4 (.p63 l0 params1 parts7 C0 C1 C2 C3)
 | .p63 l0 params1 parts7 C0 C1 C2 C3 =>
  if ((List.length C3 : Int) != parts7) = true then
   some (((10 : Int), ()), ())
  else
   if (C0 == (2 : Int)) = true then
    (uT2 (.start C1 (0 : Int) (1000000000 : Int))) >>= fun t1 =>
    if (!t1.1.1) = true then
     some (((2 : Int), ()), ())
    else
     ud4 (.p255 l0 params1 C0 C1 C2 C3)
   else
    ud4 (.p255 l0 params1 C0 C1 C2 C3)
 | .p255 l0 params1 C0 C1 C2 C3 =>
  ud4 (.p4084 l0 params1 (0 : Int) C0 C1 C2 C3)
 | .p4084 l0 params1 i9 C0 C1 C2 C3 =>
  if (decide (i9 < (List.length C3 : Int))) = true then
   (idx C3 i9) >>= fun t1 =>
   (ud4 (.start l0 params1 t1.Kind t1.Value t1.Name t1.Parts)) >>= fun t2 =>
   if (t2.1.1 != (0 : Int)) = true then
    some ((t2.1.1, ()), ())
   else
    ud4 (.p4084 l0 params1 (IntKind.wrap .i64 (i9 + (1 : Int))) C0 C1 C2 C3)
  else
   some (((0 : Int), ()), ())
 partial_fixpoint
def xu5 : List (Plc E vG1) := [⟨31, [true, true, true, true], { slots := [0, 1, 5, 7], rows := [], flat := [], keep := 0 }, _, _, (.cons (Rd.sl 103 false) (.cons (Rd.sl 9 false) (.cons (Rd.bp 0 0) (.cons (Rd.int .i64) .nil)))), (.cons (.var 25 (.cons (Rd.int .i64) (.cons (Rd.int .i64) (.cons Rd.str (.cons (Rd.sl 25 false) .nil))))) .nil), fun a b => .p31 a.1 a.2.1 a.2.2.2.1 b.1.1 b.1.2.1 b.1.2.2.1 b.1.2.2.2.1⟩,
 ⟨63, [true, true, true, true, true], { slots := [0, 1, 5, 7], rows := [], flat := [], keep := 0 }, _, _, (.cons (Rd.sl 103 false) (.cons (Rd.sl 9 false) (.cons (Rd.bp 0 0) (.cons (Rd.int .i64) .nil)))), (.cons (.var 25 (.cons (Rd.int .i64) (.cons (Rd.int .i64) (.cons Rd.str (.cons (Rd.sl 25 false) .nil))))) .nil), fun a b => .p63 a.1 a.2.1 a.2.2.2.1 b.1.1 b.1.2.1 b.1.2.2.1 b.1.2.2.2.1⟩,
 ⟨255, [true, true, true, true, true, true, true], { slots := [0, 1, 5], rows := [], flat := [], keep := 0 }, _, _, (.cons (Rd.sl 103 false) (.cons (Rd.sl 9 false) (.cons (Rd.bp 0 0) .nil))), (.cons (.var 25 (.cons (Rd.int .i64) (.cons (Rd.int .i64) (.cons Rd.str (.cons (Rd.sl 25 false) .nil))))) .nil), fun a b => .p255 a.1 a.2.1 b.1.1 b.1.2.1 b.1.2.2.1 b.1.2.2.2.1⟩,
 ⟨4084, [false, false, true, false, true, true, true, true, true, true, true], { slots := [0, 1, 5, 9], rows := [], flat := [], keep := 0 }, _, _, (.cons (Rd.sl 103 false) (.cons (Rd.sl 9 false) (.cons (Rd.bp 0 0) (.cons (Rd.int .i64) .nil)))), (.cons (.var 25 (.cons (Rd.int .i64) (.cons (Rd.int .i64) (.cons Rd.str (.cons (Rd.sl 25 false) .nil))))) .nil), fun a b => .p4084 a.1 a.2.1 a.2.2.2.1 b.1.1 b.1.2.1 b.1.2.2.1 b.1.2.2.2.1⟩]
theorem wZ8 : All (ub8 81 0 uI3 vU9) xu5 := ⟨⟨rfl, rfl, fun _ _ => rfl, fun _ _ => rfl⟩, ⟨⟨rfl, rfl, fun _ _ => rfl, fun _ _ => rfl⟩, ⟨⟨rfl, rfl, fun _ _ => rfl, fun _ _ => rfl⟩, ⟨⟨rfl, rfl, fun _ _ => rfl, fun _ _ => rfl⟩, trivial⟩⟩⟩⟩
def uL2 : Code := Tryz.f138.body.getD .skip
def xf9 (run' : vG1 → Option vV8) : Con E := ⟨138, ((List ua2) × ((List ByteArray) × ((Int × (Int × (ByteArray × ((List ua0) × Unit)))) × Unit))), Unit, (RwL.cons (Rw.sl 103) (RwL.cons (Rw.sl 9) (RwL.cons (Rw.agg (RwL.cons (Rd.int .i64).w (RwL.cons (Rd.int .i64).w (RwL.cons Rd.str.w (RwL.cons (Rw.sl 25) RwL.nil))))) RwL.nil))), RdBL.nil, 0, vV8, fun a b => run' (.start a.1 a.2.1 a.2.2.1.1 a.2.2.1.2.1 a.2.2.1.2.2.1 a.2.2.1.2.2.2.1), uq2.av, uq2.bx⟩
theorem wP8 {run' : vG1 → Option vV8} (ih : ∀ pt r, run' pt = some r → Good E Tryz.f138 uL2 0 (uq2.av r) (uq2.bx r) (uI3 pt) (vU9 pt)) : (xf9 run').Ok := fun a b r h => ub4 (fn := Tryz.f138) (code := uL2) E_ok (by kernel_rfl) (by kernel_rfl) (by kernel_rfl) (Nat.le_of_ble_eq_true rfl) (ih (.start a.1 a.2.1 a.2.2.1.1 a.2.2.1.2.1 a.2.2.1.2.2.1 a.2.2.1.2.2.2.1) r h)
def wz4 (run' : vG1 → Option vV8) : Spec E.S := (Con.add (xf9 run') (Con.add vA7 (Con.add vY9 (Con.add vZ0 ub1))))
theorem wg2 {run' : vG1 → Option vV8} (ih : ∀ pt r, run' pt = some r → Good E Tryz.f138 uL2 0 (uq2.av r) (uq2.bx r) (uI3 pt) (vU9 pt)) : ub0 E (wz4 run') := (Con.add_ok (wP8 ih) (Con.add_ok u02 (Con.add_ok vr9 (Con.add_ok vs0 ua7))))
theorem xI5 : ∀ pt r, ud4 pt = some r → Good E Tryz.f138 uL2 0 (uq2.av r) (uq2.bx r) (uI3 pt) (vU9 pt) := by
 refine ud4.partial_correctness (fun pt r => Good E Tryz.f138 uL2 0 (uq2.av r) (uq2.bx r) (uI3 pt) (vU9 pt)) ?_
 intro run' ih pt r hr
 cases pt <;> exact ua9 (spec := (wz4 run')) (wr := (mkWr [] [])) (l := xu5) (z := 81) (p := uq2) E_ok wZ8.mem rfl (wg2 ih) ih (Eq.trans (by kernel_rfl) hr)
def w95 : Con E := ⟨138, _, _, (.cons (Rw.sl 103) (.cons (Rw.sl 9) (.cons (Rw.agg (.cons (Rd.int .i64).w (.cons (Rd.int .i64).w (.cons Rd.str.w (.cons (Rw.sl 25) .nil))))) .nil))), .nil, 0, vV8, fun a b => ud4 (.start a.1 a.2.1 a.2.2.1.1 a.2.2.1.2.1 a.2.2.1.2.2.1 a.2.2.1.2.2.2.1), uq2.av, uq2.bx⟩
theorem wL7 : w95.Ok := fun a b r h => ub4 (fn := Tryz.f138) (code := uL2) E_ok (by kernel_rfl) (by kernel_rfl) (by kernel_rfl) (Nat.le_of_ble_eq_true rfl) (xI5 (.start a.1 a.2.1 a.2.2.1.1 a.2.2.1.2.1 a.2.2.1.2.2.1 a.2.2.1.2.2.2.1) r h)
inductive xy0 where
 | start (l0 : (List ua2)) (params1 : (List ByteArray)) (t2_0 : Int) (t2_1 : Int) (t2_2 : ByteArray) (t2_3 : (List ua0))
def vP2 : xy0 → List Bool
 | .start .. => []
def xT3 : xy0 → St E.S
 | .start l0 params1 t2_0 t2_1 t2_2 t2_3 => st0 14 [.sl 103 l0 false, .sl 9 params1 false, .agg [.v (.int .i64 t2_0), .v (.int .i64 t2_1), .v (.string t2_2), .sl 25 t2_3 false]] []
abbrev x90 : Type := ((Int × Unit) × Unit)
def vj1 : Res E (Int × Unit) Unit := { rows := [], flat := [], keep := 0, done := [0], rl := (.cons (Rd.int .i64) .nil), rb := .nil }
def u32 : xy0 → Option x90
 | .start l0 params1 t2_0 t2_1 t2_2 t2_3 =>
  (uT1 (.start t2_0 t2_1 t2_2 t2_3)) >>= fun t1 =>
  if (!t1.1.1) = true then
   some (((8 : Int), ()), ())
  else
   (ud4 (.start l0 params1 t2_0 t2_1 t2_2 t2_3)) >>= fun t2 =>
   some ((t2.1.1, ()), ())
def xu6 : List (Plc E xy0) := []
theorem wZ9 : All (ub8 14 0 vP2 xT3) xu6 := trivial
def wn6 : Code := Tryz.f103.body.getD .skip
def wz5 : Spec E.S := (Con.add w95 (Con.add vA6 ub1))
theorem wg3 : ub0 E wz5 := (Con.add_ok wL7 (Con.add_ok u01 ua7))
theorem xI6 : ∀ pt r, u32 pt = some r → Good E Tryz.f103 wn6 0 (vj1.av r) (vj1.bx r) (vP2 pt) (xT3 pt) := by
 intro pt r hr
 cases pt <;> exact ua9 (spec := wz5) (wr := (mkWr [] [])) (l := xu6) (z := 14) (p := vj1) (run' := fun _ => none) E_ok wZ9.mem rfl wg3 (fun _ _ h => by cases h) (Eq.trans (by kernel_rfl) hr)
def vZ1 : Con E := ⟨103, _, _, (.cons (Rw.sl 103) (.cons (Rw.sl 9) (.cons (Rw.agg (.cons (Rd.int .i64).w (.cons (Rd.int .i64).w (.cons Rd.str.w (.cons (Rw.sl 25) .nil))))) .nil))), .nil, 0, x90, fun a b => u32 (.start a.1 a.2.1 a.2.2.1.1 a.2.2.1.2.1 a.2.2.1.2.2.1 a.2.2.1.2.2.2.1), vj1.av, vj1.bx⟩
theorem vs1 : vZ1.Ok := fun a b r h => ub4 (fn := Tryz.f103) (code := wn6) E_ok (by kernel_rfl) (by kernel_rfl) (by kernel_rfl) (Nat.le_of_ble_eq_true rfl) (xI6 (.start a.1 a.2.1 a.2.2.1.1 a.2.2.1.2.1 a.2.2.1.2.2.1 a.2.2.1.2.2.2.1) r h)
inductive xy1 where
 | start (d0_0 : ByteArray) (d0_1 : (List ByteArray)) (d0_2 : (List ua1)) (c1_0 : ByteArray) (c1_1 : (List ua6)) (before2 : (List ua2))
 | p116 (before2 : (List ua2)) (i7 : Int) (C0 : ByteArray) (C1 : (List ByteArray)) (C2 : (List ua1)) (D0 : ByteArray) (D1 : (List ua6))
 | p59700 (before2 : (List ua2)) (i7 : Int) (k9 : Int) (C0 : ByteArray) (C1 : (List ByteArray)) (C2 : (List ua1)) (D0 : ByteArray) (D1 : (List ua6)) (G0 : ByteArray) (G1 : Int) (G2 : Int) (G3 : ByteArray) (G4 : (List ua0))
def ve9 : xy1 → List Bool
 | .start .. => []
 | .p116 .. => [false, false, true, false, true, true]
 | .p59700 .. => [false, false, true, false, true, true, false, false, true, false, false, true, false, true, true]
def xl3 : xy1 → St E.S
 | .start d0_0 d0_1 d0_2 c1_0 c1_1 before2 => st0 54 [.agg [.v (.string d0_0), .sl 9 d0_1 false, .sl 56 d0_2 false], .agg [.v (.string c1_0), .sl 58 c1_1 false], .sl 103 before2 false] []
 | .p116 before2 i7 C0 C1 C2 D0 D1 => mkSt 54 [2, 3, 4, 7] [.sl 103 before2 false, .bp 0 0, .bp 1 0, .v (.int .i64 i7)] [.var 103 [.v (.string C0), .sl 9 C1 false, .sl 56 C2 false], .var 56 [.v (.string D0), .sl 58 D1 false]]
 | .p59700 before2 i7 k9 C0 C1 C2 D0 D1 G0 G1 G2 G3 G4 => mkSt 54 [2, 3, 4, 7, 8, 9] [.sl 103 before2 false, .bp 0 0, .bp 1 0, .v (.int .i64 i7), .bp 2 0, .v (.int .i64 k9)] [.var 103 [.v (.string C0), .sl 9 C1 false, .sl 56 C2 false], .var 56 [.v (.string D0), .sl 58 D1 false], .var 58 [.v (.string G0), .v (.int .i64 G1), .v (.int .i64 G2), .v (.string G3), .sl 25 G4 false]]
abbrev x91 : Type := ((Int × Unit) × Unit)
def uS4 : Res E (Int × Unit) Unit := { rows := [], flat := [], keep := 0, done := [0], rl := (.cons (Rd.int .i64) .nil), rb := .nil }
def ui6 : xy1 → Option x91
 | .start d0_0 d0_1 d0_2 c1_0 c1_1 before2 =>
  if (decide ((List.length c1_1 : Int) > (8 : Int))) = true then
   some (((8 : Int), ()), ())
  else
   ui6 (.p116 before2 (0 : Int) d0_0 d0_1 d0_2 c1_0 c1_1)
 | .p116 before2 i7 C0 C1 C2 D0 D1 =>
  if (decide (i7 < (List.length D1 : Int))) = true then
   (idx D1 i7) >>= fun t1 =>
   (ud7 (.start t1.Name)) >>= fun t2 =>
   if (!t2.1.1) = true then
    some (((4 : Int), ()), ())
   else
    ui6 (.p59700 before2 i7 (0 : Int) C0 C1 C2 D0 D1 t1.Name t1.Type_.Kind t1.Type_.Value t1.Type_.Name t1.Type_.Parts)
  else
   some (((0 : Int), ()), ())
 | .p59700 before2 i7 k9 C0 C1 C2 D0 D1 G0 G1 G2 G3 G4 =>
  if (decide (k9 < i7)) = true then
   (idx D1 k9) >>= fun t1 =>
   if (seq t1.Name G0) = true then
    some (((5 : Int), ()), ())
   else
    ui6 (.p59700 before2 i7 (IntKind.wrap .i64 (k9 + (1 : Int))) C0 C1 C2 D0 D1 G0 G1 G2 G3 G4)
  else
   (u32 (.start before2 C1 G1 G2 G3 G4)) >>= fun t2 =>
   if (t2.1.1 != (0 : Int)) = true then
    some ((t2.1.1, ()), ())
   else
    ui6 (.p116 before2 (IntKind.wrap .i64 (i7 + (1 : Int))) C0 C1 C2 D0 D1)
 partial_fixpoint
def xu7 : List (Plc E xy1) := [⟨116, [false, false, true, false, true, true], { slots := [2, 3, 4, 7], rows := [], flat := [], keep := 0 }, _, _, (.cons (Rd.sl 103 false) (.cons (Rd.bp 0 0) (.cons (Rd.bp 1 0) (.cons (Rd.int .i64) .nil)))), (.cons (.var 103 (.cons Rd.str (.cons (Rd.sl 9 false) (.cons (Rd.sl 56 false) .nil)))) (.cons (.var 56 (.cons Rd.str (.cons (Rd.sl 58 false) .nil))) .nil)), fun a b => .p116 a.1 a.2.2.2.1 b.1.1 b.1.2.1 b.1.2.2.1 b.2.1.1 b.2.1.2.1⟩,
 ⟨59700, [false, false, true, false, true, true, false, false, true, false, false, true, false, true, true], { slots := [2, 3, 4, 7, 8, 9], rows := [], flat := [], keep := 0 }, _, _, (.cons (Rd.sl 103 false) (.cons (Rd.bp 0 0) (.cons (Rd.bp 1 0) (.cons (Rd.int .i64) (.cons (Rd.bp 2 0) (.cons (Rd.int .i64) .nil)))))), (.cons (.var 103 (.cons Rd.str (.cons (Rd.sl 9 false) (.cons (Rd.sl 56 false) .nil)))) (.cons (.var 56 (.cons Rd.str (.cons (Rd.sl 58 false) .nil))) (.cons (.var 58 (.cons Rd.str (.cons (Rd.int .i64) (.cons (Rd.int .i64) (.cons Rd.str (.cons (Rd.sl 25 false) .nil)))))) .nil))), fun a b => .p59700 a.1 a.2.2.2.1 a.2.2.2.2.2.1 b.1.1 b.1.2.1 b.1.2.2.1 b.2.1.1 b.2.1.2.1 b.2.2.1.1 b.2.2.1.2.1 b.2.2.1.2.2.1 b.2.2.1.2.2.2.1 b.2.2.1.2.2.2.2.1⟩]
theorem w00 : All (ub8 54 0 ve9 xl3) xu7 := ⟨⟨rfl, rfl, fun _ _ => rfl, fun _ _ => rfl⟩, ⟨⟨rfl, rfl, fun _ _ => rfl, fun _ _ => rfl⟩, trivial⟩⟩
def vz7 : Code := Tryz.f121.body.getD .skip
def wz6 : Spec E.S := (Con.add vZ1 (Con.add vY8 ub1))
theorem wg4 : ub0 E wz6 := (Con.add_ok vs1 (Con.add_ok vr8 ua7))
theorem xI7 : ∀ pt r, ui6 pt = some r → Good E Tryz.f121 vz7 0 (uS4.av r) (uS4.bx r) (ve9 pt) (xl3 pt) := by
 refine ui6.partial_correctness (fun pt r => Good E Tryz.f121 vz7 0 (uS4.av r) (uS4.bx r) (ve9 pt) (xl3 pt)) ?_
 intro run' ih pt r hr
 cases pt <;> exact ua9 (spec := wz6) (wr := (mkWr [] [])) (l := xu7) (z := 54) (p := uS4) E_ok w00.mem rfl wg4 ih (Eq.trans (by kernel_rfl) hr)
def w96 : Con E := ⟨121, _, _, (.cons (Rw.agg (.cons Rd.str.w (.cons (Rw.sl 9) (.cons (Rw.sl 56) .nil)))) (.cons (Rw.agg (.cons Rd.str.w (.cons (Rw.sl 58) .nil))) (.cons (Rw.sl 103) .nil))), .nil, 0, x91, fun a b => ui6 (.start a.1.1 a.1.2.1 a.1.2.2.1 a.2.1.1 a.2.1.2.1 a.2.2.1), uS4.av, uS4.bx⟩
theorem wL8 : w96.Ok := fun a b r h => ub4 (fn := Tryz.f121) (code := vz7) E_ok (by kernel_rfl) (by kernel_rfl) (by kernel_rfl) (Nat.le_of_ble_eq_true rfl) (xI7 (.start a.1.1 a.1.2.1 a.1.2.2.1 a.2.1.1 a.2.1.2.1 a.2.2.1) r h)
inductive xy2 where
 | start (d0_0 : ByteArray) (d0_1 : (List ByteArray)) (d0_2 : (List ua1)) (before1 : (List ua2))
 | p15 (before1 : (List ua2)) (C0 : ByteArray) (C1 : (List ByteArray)) (C2 : (List ua1))
 | p31 (before1 : (List ua2)) (C0 : ByteArray) (C1 : (List ByteArray)) (C2 : (List ua1))
 | p1012 (before1 : (List ua2)) (i5 : Int) (C0 : ByteArray) (C1 : (List ByteArray)) (C2 : (List ua1))
 | p2036 (before1 : (List ua2)) (i6 : Int) (C0 : ByteArray) (C1 : (List ByteArray)) (C2 : (List ua1))
 | p130343 (before1 : (List ua2)) (i6 : Int) (C0 : ByteArray) (C1 : (List ByteArray)) (C2 : (List ua1)) (D0 : ByteArray) (D1 : (List ua6))
def vf0 : xy2 → List Bool
 | .start .. => []
 | .p15 .. => [true, true, true]
 | .p31 .. => [true, true, true, true]
 | .p1012 .. => [false, false, true, false, true, true, true, true, true]
 | .p2036 .. => [false, false, true, false, true, true, true, true, true, true]
 | .p130343 .. => [true, true, true, false, false, true, false, false, true, false, true, true, true, true, true, true]
def xl4 : xy2 → St E.S
 | .start d0_0 d0_1 d0_2 before1 => st0 119 [.agg [.v (.string d0_0), .sl 9 d0_1 false, .sl 56 d0_2 false], .sl 103 before1 false] []
 | .p15 before1 C0 C1 C2 => mkSt 119 [1, 2] [.sl 103 before1 false, .bp 0 0] [.var 103 [.v (.string C0), .sl 9 C1 false, .sl 56 C2 false]]
 | .p31 before1 C0 C1 C2 => mkSt 119 [1, 2] [.sl 103 before1 false, .bp 0 0] [.var 103 [.v (.string C0), .sl 9 C1 false, .sl 56 C2 false]]
 | .p1012 before1 i5 C0 C1 C2 => mkSt 119 [1, 2, 5] [.sl 103 before1 false, .bp 0 0, .v (.int .i64 i5)] [.var 103 [.v (.string C0), .sl 9 C1 false, .sl 56 C2 false]]
 | .p2036 before1 i6 C0 C1 C2 => mkSt 119 [1, 2, 6] [.sl 103 before1 false, .bp 0 0, .v (.int .i64 i6)] [.var 103 [.v (.string C0), .sl 9 C1 false, .sl 56 C2 false]]
 | .p130343 before1 i6 C0 C1 C2 D0 D1 => mkSt 119 [1, 2, 6, 7] [.sl 103 before1 false, .bp 0 0, .v (.int .i64 i6), .bp 1 0] [.var 103 [.v (.string C0), .sl 9 C1 false, .sl 56 C2 false], .var 56 [.v (.string D0), .sl 58 D1 false]]
abbrev x92 : Type := ((Int × Unit) × Unit)
def uS5 : Res E (Int × Unit) Unit := { rows := [], flat := [], keep := 0, done := [0], rl := (.cons (Rd.int .i64) .nil), rb := .nil }
def ud8 : xy2 → Option x92
 | .start d0_0 d0_1 d0_2 before1 =>
  (ud7 (.start d0_0)) >>= fun t1 =>
  if (!t1.1.1) = true then
   some (((4 : Int), ()), ())
  else
   (uo1 (.start before1 d0_0)) >>= fun t2 =>
   if (decide (t2.1.1 ≥ (0 : Int))) = true then
    some (((5 : Int), ()), ())
   else
    if (seq d0_0 (⟨#[66, 105, 116]⟩ : ByteArray)) = true then
     some (((5 : Int), ()), ())
    else
     if (seq d0_0 (⟨#[66, 111, 111, 108]⟩ : ByteArray)) = true then
      some (((5 : Int), ()), ())
     else
      if (seq d0_0 (⟨#[73, 110, 116, 101, 103, 101, 114]⟩ : ByteArray)) = true then
       some (((5 : Int), ()), ())
      else
       ud8 (.p15 before1 d0_0 d0_1 d0_2)
 | .p15 before1 C0 C1 C2 =>
  if (decide ((List.length C1 : Int) > (4 : Int))) = true then
   some (((8 : Int), ()), ())
  else
   if (decide ((List.length C2 : Int) > (16 : Int))) = true then
    some (((8 : Int), ()), ())
   else
    ud8 (.p31 before1 C0 C1 C2)
 | .p31 before1 C0 C1 C2 =>
  if ((List.length C2 : Int) == (0 : Int)) = true then
   some (((10 : Int), ()), ())
  else
   ud8 (.p1012 before1 (0 : Int) C0 C1 C2)
 | .p1012 before1 i5 C0 C1 C2 =>
  if (decide (i5 < (List.length C1 : Int))) = true then
   (idx C1 i5) >>= fun t1 =>
   (ud7 (.start t1)) >>= fun t2 =>
   if (!t2.1.1) = true then
    some (((4 : Int), ()), ())
   else
    (span (List.length C1) (0 : Int) i5) >>= fun t3 =>
    (idx C1 i5) >>= fun t4 =>
    (ur0 (.start (cut C1 t3) t4)) >>= fun t5 =>
    if t5.1.1 = true then
     some (((5 : Int), ()), ())
    else
     ud8 (.p1012 before1 (IntKind.wrap .i64 (i5 + (1 : Int))) C0 C1 C2)
  else
   ud8 (.p2036 before1 (0 : Int) C0 C1 C2)
 | .p2036 before1 i6 C0 C1 C2 =>
  if (decide (i6 < (List.length C2 : Int))) = true then
   (idx C2 i6) >>= fun t1 =>
   (ud7 (.start t1.Name)) >>= fun t2 =>
   if (!t2.1.1) = true then
    some (((4 : Int), ()), ())
   else
    (uh8 (.start before1 t1.Name)) >>= fun t3 =>
    if t3.1.1 = true then
     some (((5 : Int), ()), ())
    else
     (span (List.length C2) (0 : Int) i6) >>= fun t4 =>
     (uh8 (.start ([(⟨(⟨#[]⟩ : ByteArray), [], cut C2 t4⟩ : ua2)] : List ua2) t1.Name)) >>= fun t5 =>
     if t5.1.1 = true then
      some (((5 : Int), ()), ())
     else
      if (seq t1.Name (⟨#[70, 97, 108, 115, 101]⟩ : ByteArray)) = true then
       some (((5 : Int), ()), ())
      else
       if (seq t1.Name (⟨#[84, 114, 117, 101]⟩ : ByteArray)) = true then
        some (((5 : Int), ()), ())
       else
        ud8 (.p130343 before1 i6 C0 C1 C2 t1.Name t1.Fields)
  else
   some (((0 : Int), ()), ())
 | .p130343 before1 i6 C0 C1 C2 D0 D1 =>
  (ui6 (.start C0 C1 C2 D0 D1 before1)) >>= fun t1 =>
  if (t1.1.1 != (0 : Int)) = true then
   some ((t1.1.1, ()), ())
  else
   ud8 (.p2036 before1 (IntKind.wrap .i64 (i6 + (1 : Int))) C0 C1 C2)
 partial_fixpoint
def xu8 : List (Plc E xy2) := [⟨15, [true, true, true], { slots := [1, 2], rows := [], flat := [], keep := 0 }, _, _, (.cons (Rd.sl 103 false) (.cons (Rd.bp 0 0) .nil)), (.cons (.var 103 (.cons Rd.str (.cons (Rd.sl 9 false) (.cons (Rd.sl 56 false) .nil)))) .nil), fun a b => .p15 a.1 b.1.1 b.1.2.1 b.1.2.2.1⟩,
 ⟨31, [true, true, true, true], { slots := [1, 2], rows := [], flat := [], keep := 0 }, _, _, (.cons (Rd.sl 103 false) (.cons (Rd.bp 0 0) .nil)), (.cons (.var 103 (.cons Rd.str (.cons (Rd.sl 9 false) (.cons (Rd.sl 56 false) .nil)))) .nil), fun a b => .p31 a.1 b.1.1 b.1.2.1 b.1.2.2.1⟩,
 ⟨1012, [false, false, true, false, true, true, true, true, true], { slots := [1, 2, 5], rows := [], flat := [], keep := 0 }, _, _, (.cons (Rd.sl 103 false) (.cons (Rd.bp 0 0) (.cons (Rd.int .i64) .nil))), (.cons (.var 103 (.cons Rd.str (.cons (Rd.sl 9 false) (.cons (Rd.sl 56 false) .nil)))) .nil), fun a b => .p1012 a.1 a.2.2.1 b.1.1 b.1.2.1 b.1.2.2.1⟩,
 ⟨2036, [false, false, true, false, true, true, true, true, true, true], { slots := [1, 2, 6], rows := [], flat := [], keep := 0 }, _, _, (.cons (Rd.sl 103 false) (.cons (Rd.bp 0 0) (.cons (Rd.int .i64) .nil))), (.cons (.var 103 (.cons Rd.str (.cons (Rd.sl 9 false) (.cons (Rd.sl 56 false) .nil)))) .nil), fun a b => .p2036 a.1 a.2.2.1 b.1.1 b.1.2.1 b.1.2.2.1⟩,
 ⟨130343, [true, true, true, false, false, true, false, false, true, false, true, true, true, true, true, true], { slots := [1, 2, 6, 7], rows := [], flat := [], keep := 0 }, _, _, (.cons (Rd.sl 103 false) (.cons (Rd.bp 0 0) (.cons (Rd.int .i64) (.cons (Rd.bp 1 0) .nil)))), (.cons (.var 103 (.cons Rd.str (.cons (Rd.sl 9 false) (.cons (Rd.sl 56 false) .nil)))) (.cons (.var 56 (.cons Rd.str (.cons (Rd.sl 58 false) .nil))) .nil)), fun a b => .p130343 a.1 a.2.2.1 b.1.1 b.1.2.1 b.1.2.2.1 b.2.1.1 b.2.1.2.1⟩]
theorem w01 : All (ub8 119 0 vf0 xl4) xu8 := ⟨⟨rfl, rfl, fun _ _ => rfl, fun _ _ => rfl⟩, ⟨⟨rfl, rfl, fun _ _ => rfl, fun _ _ => rfl⟩, ⟨⟨rfl, rfl, fun _ _ => rfl, fun _ _ => rfl⟩, ⟨⟨rfl, rfl, fun _ _ => rfl, fun _ _ => rfl⟩, ⟨⟨rfl, rfl, fun _ _ => rfl, fun _ _ => rfl⟩, trivial⟩⟩⟩⟩⟩
def vz8 : Code := Tryz.f79.body.getD .skip
def wz7 : Spec E.S := (Con.add w96 (Con.add w94 (Con.add vY9 (Con.add vA7 (Con.add vY8 ub1)))))
theorem wg5 : ub0 E wz7 := (Con.add_ok wL8 (Con.add_ok wL6 (Con.add_ok vr9 (Con.add_ok u02 (Con.add_ok vr8 ua7)))))
theorem xI8 : ∀ pt r, ud8 pt = some r → Good E Tryz.f79 vz8 0 (uS5.av r) (uS5.bx r) (vf0 pt) (xl4 pt) := by
 refine ud8.partial_correctness (fun pt r => Good E Tryz.f79 vz8 0 (uS5.av r) (uS5.bx r) (vf0 pt) (xl4 pt)) ?_
 intro run' ih pt r hr
 cases pt <;> exact ua9 (spec := wz7) (wr := (mkWr [] [])) (l := xu8) (z := 119) (p := uS5) E_ok w01.mem rfl wg5 ih (Eq.trans (by kernel_rfl) hr)
def w97 : Con E := ⟨79, _, _, (.cons (Rw.agg (.cons Rd.str.w (.cons (Rw.sl 9) (.cons (Rw.sl 56) .nil)))) (.cons (Rw.sl 103) .nil)), .nil, 0, x92, fun a b => ud8 (.start a.1.1 a.1.2.1 a.1.2.2.1 a.2.1), uS5.av, uS5.bx⟩
theorem wL9 : w97.Ok := fun a b r h => ub4 (fn := Tryz.f79) (code := vz8) E_ok (by kernel_rfl) (by kernel_rfl) (by kernel_rfl) (Nat.le_of_ble_eq_true rfl) (xI8 (.start a.1.1 a.1.2.1 a.1.2.2.1 a.2.1) r h)
inductive xy3 where
 | start (l0 : (List ua2))
 | p116 (l0 : (List ua2)) (i4 : Int)
def vf1 : xy3 → List Bool
 | .start .. => []
 | .p116 .. => [false, false, true, false, true, true]
def xl5 : xy3 → St E.S
 | .start l0 => st0 27 [.sl 103 l0 false] []
 | .p116 l0 i4 => mkSt 27 [0, 4] [.sl 103 l0 false, .v (.int .i64 i4)] []
abbrev x93 : Type := ((Int × (Int × Unit)) × Unit)
def uS6 : Res E (Int × (Int × Unit)) Unit := { rows := [], flat := [], keep := 0, done := [0, 1], rl := (.cons (Rd.int .i64) (.cons (Rd.int .i64) .nil)), rb := .nil }
def us8 : xy3 → Option x93
 | .start l0 =>
  if (decide ((List.length l0 : Int) > (20 : Int))) = true then
   some (((0 : Int), ((8 : Int), ())), ())
  else
   us8 (.p116 l0 (0 : Int))
 | .p116 l0 i4 =>
  if (decide (i4 < (List.length l0 : Int))) = true then
   (idx l0 i4) >>= fun t1 =>
   (span (List.length l0) (0 : Int) i4) >>= fun t2 =>
   (ud8 (.start t1.Name t1.Params t1.Constructors (cut l0 t2))) >>= fun t3 =>
   if (t3.1.1 != (0 : Int)) = true then
    some ((i4, (t3.1.1, ())), ())
   else
    us8 (.p116 l0 (IntKind.wrap .i64 (i4 + (1 : Int))))
  else
   some (((0 : Int), ((0 : Int), ())), ())
 partial_fixpoint
def xv0 : List (Plc E xy3) := [⟨116, [false, false, true, false, true, true], { slots := [0, 4], rows := [], flat := [], keep := 0 }, _, _, (.cons (Rd.sl 103 false) (.cons (Rd.int .i64) .nil)), .nil, fun a b => .p116 a.1 a.2.1⟩]
theorem w02 : All (ub8 27 0 vf1 xl5) xv0 := ⟨⟨rfl, rfl, fun _ _ => rfl, fun _ _ => rfl⟩, trivial⟩
def vz9 : Code := Tryz.f24.body.getD .skip
def wz8 : Spec E.S := (Con.add w97 ub1)
theorem wg6 : ub0 E wz8 := (Con.add_ok wL9 ua7)
theorem xI9 : ∀ pt r, us8 pt = some r → Good E Tryz.f24 vz9 0 (uS6.av r) (uS6.bx r) (vf1 pt) (xl5 pt) := by
 refine us8.partial_correctness (fun pt r => Good E Tryz.f24 vz9 0 (uS6.av r) (uS6.bx r) (vf1 pt) (xl5 pt)) ?_
 intro run' ih pt r hr
 cases pt <;> exact ua9 (spec := wz8) (wr := (mkWr [] [])) (l := xv0) (z := 27) (p := uS6) E_ok w02.mem rfl wg6 ih (Eq.trans (by kernel_rfl) hr)
def w99 : Con E := ⟨24, _, _, (.cons (Rw.sl 103) .nil), .nil, 0, x93, fun a b => us8 (.start a.1), uS6.av, uS6.bx⟩
theorem wM0 : w99.Ok := fun a b r h => ub4 (fn := Tryz.f24) (code := vz9) E_ok (by kernel_rfl) (by kernel_rfl) (by kernel_rfl) (Nat.le_of_ble_eq_true rfl) (xI9 (.start a.1) r h)
inductive xy4 where
 | start (l0 : (List ua2))
def vP3 : xy4 → List Bool
 | .start .. => []
def xT4 : xy4 → St E.S
 | .start l0 => st0 11 [.sl 103 l0 false] []
abbrev x94 : Type := ((Int × Unit) × Unit)
def vj2 : Res E (Int × Unit) Unit := { rows := [], flat := [], keep := 0, done := [0], rl := (.cons (Rd.int .i64) .nil), rb := .nil }
def vE9 : xy4 → Option x94
 | .start l0 =>
  (us8 (.start l0)) >>= fun t1 =>
  some ((t1.1.2.1, ()), ())
def xv1 : List (Plc E xy4) := []
theorem w03 : All (ub8 11 0 vP3 xT4) xv1 := trivial
def wn7 : Code := Tryz.f62.body.getD .skip
def wz9 : Spec E.S := (Con.add w99 ub1)
theorem wg7 : ub0 E wz9 := (Con.add_ok wM0 ua7)
theorem xJ0 : ∀ pt r, vE9 pt = some r → Good E Tryz.f62 wn7 0 (vj2.av r) (vj2.bx r) (vP3 pt) (xT4 pt) := by
 intro pt r hr
 cases pt <;> exact ua9 (spec := wz9) (wr := (mkWr [] [])) (l := xv1) (z := 11) (p := vj2) (run' := fun _ => none) E_ok w03.mem rfl wg7 (fun _ _ h => by cases h) (Eq.trans (by kernel_rfl) hr)
def xa0 : Con E := ⟨62, _, _, (.cons (Rw.sl 103) .nil), .nil, 0, x94, fun a b => vE9 (.start a.1), vj2.av, vj2.bx⟩
theorem wM1 : xa0.Ok := fun a b r h => ub4 (fn := Tryz.f62) (code := wn7) E_ok (by kernel_rfl) (by kernel_rfl) (by kernel_rfl) (Nat.le_of_ble_eq_true rfl) (xJ0 (.start a.1) r h)
inductive xy5 where
 | start (t0_0 : Int) (t0_1 : Int) (t0_2 : ByteArray) (t0_3 : (List ua0))
def vP4 : xy5 → List Bool
 | .start .. => []
def xT5 : xy5 → St E.S
 | .start t0_0 t0_1 t0_2 t0_3 => st0 11 [.agg [.v (.int .i64 t0_0), .v (.int .i64 t0_1), .v (.string t0_2), .sl 25 t0_3 false]] []
abbrev x95 : Type := ((Bool × Unit) × Unit)
def vj3 : Res E (Bool × Unit) Unit := { rows := [], flat := [], keep := 0, done := [0], rl := (.cons Rd.bool .nil), rb := .nil }
def uz5 : xy5 → Option x95
 | .start t0_0 t0_1 t0_2 t0_3 =>
  if (t0_0 == (1 : Int)) = true then
   some ((seq t0_2 (⟨#[66, 105, 116]⟩ : ByteArray), ()), ())
  else
   some ((false, ()), ())
def xv2 : List (Plc E xy5) := []
theorem w04 : All (ub8 11 0 vP4 xT5) xv2 := trivial
def wn8 : Code := Tryz.f27.body.getD .skip
def wA0 : Spec E.S := ub1
theorem wg8 : ub0 E wA0 := ua7
theorem xJ1 : ∀ pt r, uz5 pt = some r → Good E Tryz.f27 wn8 0 (vj3.av r) (vj3.bx r) (vP4 pt) (xT5 pt) := by
 intro pt r hr
 cases pt <;> exact ua9 (spec := wA0) (wr := (mkWr [] [])) (l := xv2) (z := 11) (p := vj3) (run' := fun _ => none) E_ok w04.mem rfl wg8 (fun _ _ h => by cases h) (Eq.trans (by kernel_rfl) hr)
def va3 : Con E := ⟨27, _, _, (.cons (Rw.agg (.cons (Rd.int .i64).w (.cons (Rd.int .i64).w (.cons Rd.str.w (.cons (Rw.sl 25) .nil))))) .nil), .nil, 0, x95, fun a b => uz5 (.start a.1.1 a.1.2.1 a.1.2.2.1 a.1.2.2.2.1), vj3.av, vj3.bx⟩
theorem uL6 : va3.Ok := fun a b r h => ub4 (fn := Tryz.f27) (code := wn8) E_ok (by kernel_rfl) (by kernel_rfl) (by kernel_rfl) (Nat.le_of_ble_eq_true rfl) (xJ1 (.start a.1.1 a.1.2.1 a.1.2.2.1 a.1.2.2.2.1) r h)
inductive xy6 where
 | start (n0 : Int)
def vP5 : xy6 → List Bool
 | .start .. => []
def xT6 : xy6 → St E.S
 | .start n0 => st0 5 [.v (.int .i64 n0)] []
abbrev x96 : Type := ((Bool × Unit) × Unit)
def vj4 : Res E (Bool × Unit) Unit := { rows := [], flat := [], keep := 0, done := [0], rl := (.cons Rd.bool .nil), rb := .nil }
def u33 : xy6 → Option x96
 | .start n0 =>
  (uT2 (.start n0 (1 : Int) (16 : Int))) >>= fun t1 =>
  some ((t1.1.1, ()), ())
def xv3 : List (Plc E xy6) := []
theorem w05 : All (ub8 5 0 vP5 xT6) xv3 := trivial
def wn9 : Code := Tryz.f44.body.getD .skip
def wA1 : Spec E.S := (Con.add vZ0 ub1)
theorem wg9 : ub0 E wA1 := (Con.add_ok vs0 ua7)
theorem xJ2 : ∀ pt r, u33 pt = some r → Good E Tryz.f44 wn9 0 (vj4.av r) (vj4.bx r) (vP5 pt) (xT6 pt) := by
 intro pt r hr
 cases pt <;> exact ua9 (spec := wA1) (wr := (mkWr [] [])) (l := xv3) (z := 5) (p := vj4) (run' := fun _ => none) E_ok w05.mem rfl wg9 (fun _ _ h => by cases h) (Eq.trans (by kernel_rfl) hr)
def vZ2 : Con E := ⟨44, _, _, (.cons (Rd.int .i64).w .nil), .nil, 0, x96, fun a b => u33 (.start a.1), vj4.av, vj4.bx⟩
theorem vs2 : vZ2.Ok := fun a b r h => ub4 (fn := Tryz.f44) (code := wn9) E_ok (by kernel_rfl) (by kernel_rfl) (by kernel_rfl) (Nat.le_of_ble_eq_true rfl) (xJ2 (.start a.1) r h)
inductive vG2 where
 | start (t0_0 : Int) (t0_1 : Int) (t0_2 : ByteArray) (t0_3 : (List ua0)) (params1 : (List ByteArray)) (args2 : (List ua0))
 | p7 (params1 : (List ByteArray)) (args2 : (List ua0)) (C0 : Int) (C1 : Int) (C2 : ByteArray) (C3 : (List ua0)) (D0 : Int) (D1 : Int) (D2 : ByteArray)
 | p212 (params1 : (List ByteArray)) (args2 : (List ua0)) (i7 : Int) (C0 : Int) (C1 : Int) (C2 : ByteArray) (C3 : (List ua0)) (D0 : Int) (D1 : Int) (D2 : ByteArray)
 | p500 (params1 : (List ByteArray)) (args2 : (List ua0)) (i9 : Int) (C0 : Int) (C1 : Int) (C2 : ByteArray) (C3 : (List ua0)) (D0 : Int) (D1 : Int) (D2 : ByteArray) (G0 : Int) (G1 : Int) (G2 : ByteArray) (B3 : (List ua0))
def uI4 : vG2 → List Bool
 | .start .. => []
 | .p7 .. => [true, true]
 | .p212 .. => [false, false, true, false, true, false, true]
 | .p500 .. => [false, false, true, false, true, true, true, true]
def vV0 : vG2 → St E.S
 | .start t0_0 t0_1 t0_2 t0_3 params1 args2 => st0 54 [.agg [.v (.int .i64 t0_0), .v (.int .i64 t0_1), .v (.string t0_2), .sl 25 t0_3 false], .sl 9 params1 false, .sl 25 args2 false] []
 | .p7 params1 args2 C0 C1 C2 C3 D0 D1 D2 => mkSt 54 [1, 2, 3, 6] [.sl 9 params1 false, .sl 25 args2 false, .bp 0 0, .bp 1 0] [.var 25 [.v (.int .i64 C0), .v (.int .i64 C1), .v (.string C2), .sl 25 C3 false], .var 25 [.v (.int .i64 D0), .v (.int .i64 D1), .v (.string D2), .nl]]
 | .p212 params1 args2 i7 C0 C1 C2 C3 D0 D1 D2 => mkSt 54 [1, 2, 3, 6, 7] [.sl 9 params1 false, .sl 25 args2 false, .bp 0 0, .bp 1 0, .v (.int .i64 i7)] [.var 25 [.v (.int .i64 C0), .v (.int .i64 C1), .v (.string C2), .sl 25 C3 false], .var 25 [.v (.int .i64 D0), .v (.int .i64 D1), .v (.string D2), .nl]]
 | .p500 params1 args2 i9 C0 C1 C2 C3 D0 D1 D2 G0 G1 G2 B3 => mkSt 54 [1, 2, 3, 6, 8, 9] [.sl 9 params1 false, .sl 25 args2 false, .bp 0 0, .bp 1 0, .bp 2 0, .v (.int .i64 i9)] [.var 25 [.v (.int .i64 C0), .v (.int .i64 C1), .v (.string C2), .sl 25 C3 false], .var 25 [.v (.int .i64 D0), .v (.int .i64 D1), .v (.string D2), .nl], .var 25 [.v (.int .i64 G0), .v (.int .i64 G1), .v (.string G2), .rw 3], .row 25 B3 false]
abbrev vV9 : Type := (((Int × (Int × (ByteArray × ((List ua0) × Unit)))) × Unit) × Unit)
def uq3 : Res E ((Int × (Int × (ByteArray × ((List ua0) × Unit)))) × Unit) Unit := { rows := [], flat := [], keep := 0, deep := [(false, 0, 3, 25)], done := [0], rl := (.cons (Rd.agg (.cons (Rd.int .i64) (.cons (Rd.int .i64) (.cons Rd.str (.cons (Rd.sl 25 false) .nil))))) .nil), rb := .nil }
def uf4 : vG2 → Option vV9
 | .start t0_0 t0_1 t0_2 t0_3 params1 args2 =>
  if (t0_0 == (0 : Int)) = true then
   uf4 (.p212 params1 args2 (0 : Int) t0_0 t0_1 t0_2 t0_3 (0 : Int) (0 : Int) (⟨#[]⟩ : ByteArray))
  else
   uf4 (.p7 params1 args2 t0_0 t0_1 t0_2 t0_3 (0 : Int) (0 : Int) (⟨#[]⟩ : ByteArray))
 | .p7 params1 args2 C0 C1 C2 C3 D0 D1 D2 =>
  uf4 (.p500 params1 args2 (0 : Int) C0 C1 C2 C3 D0 D1 D2 C0 C1 C2 ([] : List ua0))
 | .p212 params1 args2 i7 C0 C1 C2 C3 D0 D1 D2 =>
  if (decide (i7 < (List.length params1 : Int))) = true then
   (idx params1 i7) >>= fun t1 =>
   if (seq t1 C2) = true then
    (idx args2 i7) >>= fun t2 =>
    (uo0 (.start t2.Kind t2.Value t2.Name t2.Parts)) >>= fun t3 =>
    some (((t3.1.1.1, (t3.1.1.2.1, (t3.1.1.2.2.1, (t3.1.1.2.2.2.1, ())))), ()), ())
   else
    uf4 (.p212 params1 args2 (IntKind.wrap .i64 (i7 + (1 : Int))) C0 C1 C2 C3 D0 D1 D2)
  else
   uf4 (.p7 params1 args2 C0 C1 C2 C3 D0 D1 D2)
 | .p500 params1 args2 i9 C0 C1 C2 C3 D0 D1 D2 G0 G1 G2 B3 =>
  if (decide (i9 < (List.length C3 : Int))) = true then
   (idx C3 i9) >>= fun t1 =>
   (uf4 (.start t1.Kind t1.Value t1.Name t1.Parts params1 args2)) >>= fun t2 =>
   if (fits (List.length B3) (List.length ([(⟨t2.1.1.1, t2.1.1.2.1, t2.1.1.2.2.1, t2.1.1.2.2.2.1⟩ : ua0)] : List ua0)) 56) = true then
    uf4 (.p500 params1 args2 (IntKind.wrap .i64 (i9 + (1 : Int))) C0 C1 C2 C3 D0 D1 D2 G0 G1 G2 (B3 ++ ([(⟨t2.1.1.1, t2.1.1.2.1, t2.1.1.2.2.1, t2.1.1.2.2.2.1⟩ : ua0)] : List ua0)))
   else none
  else
   some (((G0, (G1, (G2, (B3, ())))), ()), ())
 partial_fixpoint
def xv4 : List (Plc E vG2) := [⟨7, [true, true], { slots := [1, 2, 3, 6], rows := [], flat := [], keep := 0 }, _, _, (.cons (Rd.sl 9 false) (.cons (Rd.sl 25 false) (.cons (Rd.bp 0 0) (.cons (Rd.bp 1 0) .nil)))), (.cons (.var 25 (.cons (Rd.int .i64) (.cons (Rd.int .i64) (.cons Rd.str (.cons (Rd.sl 25 false) .nil))))) (.cons (.var 25 (.cons (Rd.int .i64) (.cons (Rd.int .i64) (.cons Rd.str (.cons Rd.nl .nil))))) .nil)), fun a b => .p7 a.1 a.2.1 b.1.1 b.1.2.1 b.1.2.2.1 b.1.2.2.2.1 b.2.1.1 b.2.1.2.1 b.2.1.2.2.1⟩,
 ⟨212, [false, false, true, false, true, false, true], { slots := [1, 2, 3, 6, 7], rows := [], flat := [], keep := 0 }, _, _, (.cons (Rd.sl 9 false) (.cons (Rd.sl 25 false) (.cons (Rd.bp 0 0) (.cons (Rd.bp 1 0) (.cons (Rd.int .i64) .nil))))), (.cons (.var 25 (.cons (Rd.int .i64) (.cons (Rd.int .i64) (.cons Rd.str (.cons (Rd.sl 25 false) .nil))))) (.cons (.var 25 (.cons (Rd.int .i64) (.cons (Rd.int .i64) (.cons Rd.str (.cons Rd.nl .nil))))) .nil)), fun a b => .p212 a.1 a.2.1 a.2.2.2.2.1 b.1.1 b.1.2.1 b.1.2.2.1 b.1.2.2.2.1 b.2.1.1 b.2.1.2.1 b.2.1.2.2.1⟩,
 ⟨500, [false, false, true, false, true, true, true, true], { slots := [1, 2, 3, 6, 8, 9], rows := [], flat := [], keep := 0, up := [(true, 8, 3, 25)] }, _, _, (.cons (Rd.sl 9 false) (.cons (Rd.sl 25 false) (.cons (Rd.bp 0 0) (.cons (Rd.bp 1 0) (.cons (Rd.bp 2 0) (.cons (Rd.int .i64) .nil)))))), (.cons (.var 25 (.cons (Rd.int .i64) (.cons (Rd.int .i64) (.cons Rd.str (.cons (Rd.sl 25 false) .nil))))) (.cons (.var 25 (.cons (Rd.int .i64) (.cons (Rd.int .i64) (.cons Rd.str (.cons Rd.nl .nil))))) (.cons (.var 25 (.cons (Rd.int .i64) (.cons (Rd.int .i64) (.cons Rd.str (.cons (Rd.rw 3) .nil))))) (.cons (.row 25 false) .nil)))), fun a b => .p500 a.1 a.2.1 a.2.2.2.2.2.1 b.1.1 b.1.2.1 b.1.2.2.1 b.1.2.2.2.1 b.2.1.1 b.2.1.2.1 b.2.1.2.2.1 b.2.2.1.1 b.2.2.1.2.1 b.2.2.1.2.2.1 b.2.2.2.1⟩]
theorem w06 : All (ub8 54 0 uI4 vV0) xv4 := ⟨⟨rfl, rfl, fun _ _ => rfl, fun _ _ => rfl⟩, ⟨⟨rfl, rfl, fun _ _ => rfl, fun _ _ => rfl⟩, ⟨⟨rfl, rfl, fun _ _ => rfl, fun _ _ => rfl⟩, trivial⟩⟩⟩
def uL3 : Code := Tryz.f82.body.getD .skip
def xg0 (run' : vG2 → Option vV9) : Con E := ⟨82, ((Int × (Int × (ByteArray × ((List ua0) × Unit)))) × ((List ByteArray) × ((List ua0) × Unit))), Unit, (RwL.cons (Rw.agg (RwL.cons (Rd.int .i64).w (RwL.cons (Rd.int .i64).w (RwL.cons Rd.str.w (RwL.cons (Rw.sl 25) RwL.nil))))) (RwL.cons (Rw.sl 9) (RwL.cons (Rw.sl 25) RwL.nil))), RdBL.nil, 0, vV9, fun a b => run' (.start a.1.1 a.1.2.1 a.1.2.2.1 a.1.2.2.2.1 a.2.1 a.2.2.1), uq3.av, uq3.bx⟩
theorem wP9 {run' : vG2 → Option vV9} (ih : ∀ pt r, run' pt = some r → Good E Tryz.f82 uL3 0 (uq3.av r) (uq3.bx r) (uI4 pt) (vV0 pt)) : (xg0 run').Ok := fun a b r h => ub4 (fn := Tryz.f82) (code := uL3) E_ok (by kernel_rfl) (by kernel_rfl) (by kernel_rfl) (Nat.le_of_ble_eq_true rfl) (ih (.start a.1.1 a.1.2.1 a.1.2.2.1 a.1.2.2.2.1 a.2.1 a.2.2.1) r h)
def wA2 (run' : vG2 → Option vV9) : Spec E.S := (Con.add (xg0 run') (Con.add vY7 ub1))
theorem wh0 {run' : vG2 → Option vV9} (ih : ∀ pt r, run' pt = some r → Good E Tryz.f82 uL3 0 (uq3.av r) (uq3.bx r) (uI4 pt) (vV0 pt)) : ub0 E (wA2 run') := (Con.add_ok (wP9 ih) (Con.add_ok vr7 ua7))
theorem xJ3 : ∀ pt r, uf4 pt = some r → Good E Tryz.f82 uL3 0 (uq3.av r) (uq3.bx r) (uI4 pt) (vV0 pt) := by
 refine uf4.partial_correctness (fun pt r => Good E Tryz.f82 uL3 0 (uq3.av r) (uq3.bx r) (uI4 pt) (vV0 pt)) ?_
 intro run' ih pt r hr
 cases pt <;> exact ua9 (spec := (wA2 run')) (wr := (mkWr [] [])) (l := xv4) (z := 54) (p := uq3) E_ok w06.mem rfl (wh0 ih) ih (Eq.trans (by kernel_rfl) hr)
def xa1 : Con E := ⟨82, _, _, (.cons (Rw.agg (.cons (Rd.int .i64).w (.cons (Rd.int .i64).w (.cons Rd.str.w (.cons (Rw.sl 25) .nil))))) (.cons (Rw.sl 9) (.cons (Rw.sl 25) .nil))), .nil, 0, vV9, fun a b => uf4 (.start a.1.1 a.1.2.1 a.1.2.2.1 a.1.2.2.2.1 a.2.1 a.2.2.1), uq3.av, uq3.bx⟩
theorem wM2 : xa1.Ok := fun a b r h => ub4 (fn := Tryz.f82) (code := uL3) E_ok (by kernel_rfl) (by kernel_rfl) (by kernel_rfl) (Nat.le_of_ble_eq_true rfl) (xJ3 (.start a.1.1 a.1.2.1 a.1.2.2.1 a.1.2.2.2.1 a.2.1 a.2.2.1) r h)
inductive xy7 where
 | start (l0 : (List ua2)) (t1_0 : Int) (t1_1 : Int) (t1_2 : ByteArray) (t1_3 : (List ua0))
 | p500 (i7 : Int) (C0 : Int) (C1 : Int) (C2 : ByteArray) (C3 : (List ua0)) (D0 : ByteArray) (D1 : (List ByteArray)) (D2 : (List ua1)) (B2 : (List ua1))
 | p128148 (i7 : Int) (k9 : Int) (C0 : Int) (C1 : Int) (C2 : ByteArray) (C3 : (List ua0)) (D0 : ByteArray) (D1 : (List ByteArray)) (D2 : (List ua1)) (B2 : (List ua1)) (B3 : ByteArray) (B4 : (List ua6))
def vf2 : xy7 → List Bool
 | .start .. => []
 | .p500 .. => [false, false, true, false, true, true, true, true]
 | .p128148 .. => [false, false, true, false, true, false, false, true, false, false, true, false, true, true, true, true]
def xl6 : xy7 → St E.S
 | .start l0 t1_0 t1_1 t1_2 t1_3 => st0 78 [.sl 103 l0 false, .agg [.v (.int .i64 t1_0), .v (.int .i64 t1_1), .v (.string t1_2), .sl 25 t1_3 false]] []
 | .p500 i7 C0 C1 C2 C3 D0 D1 D2 B2 => mkSt 78 [3, 5, 6, 7] [.bp 0 0, .bp 1 0, .rw 2, .v (.int .i64 i7)] [.var 25 [.v (.int .i64 C0), .v (.int .i64 C1), .v (.string C2), .sl 25 C3 false], .var 103 [.v (.string D0), .sl 9 D1 false, .sl 56 D2 false], .row 56 B2 false]
 | .p128148 i7 k9 C0 C1 C2 C3 D0 D1 D2 B2 B3 B4 => mkSt 78 [3, 5, 6, 7, 8, 9] [.bp 0 0, .bp 1 0, .rw 2, .v (.int .i64 i7), .bp 3 0, .v (.int .i64 k9)] [.var 25 [.v (.int .i64 C0), .v (.int .i64 C1), .v (.string C2), .sl 25 C3 false], .var 103 [.v (.string D0), .sl 9 D1 false, .sl 56 D2 false], .row 56 B2 false, .var 56 [.v (.string B3), .rw 4], .row 58 B4 false]
abbrev x97 : Type := (((List ua1) × Unit) × Unit)
def uS7 : Res E ((List ua1) × Unit) Unit := { rows := [], flat := [(0, 56)], keep := 0, done := [0], rl := (.cons (Rd.sl 56 false) .nil), rb := .nil }
def ue7 : xy7 → Option x97
 | .start l0 t1_0 t1_1 t1_2 t1_3 =>
  if (seq t1_2 (⟨#[66, 111, 111, 108]⟩ : ByteArray)) = true then
   some ((([(⟨(⟨#[70, 97, 108, 115, 101]⟩ : ByteArray), []⟩ : ua1), (⟨(⟨#[84, 114, 117, 101]⟩ : ByteArray), []⟩ : ua1)] : List ua1), ()), ())
  else
   (uo1 (.start l0 t1_2)) >>= fun t1 =>
   (idx l0 t1.1.1) >>= fun t2 =>
   ue7 (.p500 (0 : Int) t1_0 t1_1 t1_2 t1_3 t2.Name t2.Params t2.Constructors ([] : List ua1))
 | .p500 i7 C0 C1 C2 C3 D0 D1 D2 B2 =>
  if (decide (i7 < (List.length D2 : Int))) = true then
   (idx D2 i7) >>= fun t1 =>
   ue7 (.p128148 i7 (0 : Int) C0 C1 C2 C3 D0 D1 D2 B2 t1.Name ([] : List ua6))
  else
   some ((B2, ()), ())
 | .p128148 i7 k9 C0 C1 C2 C3 D0 D1 D2 B2 B3 B4 =>
  (idx D2 i7) >>= fun t1 =>
  if (decide (k9 < (List.length t1.Fields : Int))) = true then
   (idx D2 i7) >>= fun t2 =>
   (idx t2.Fields k9) >>= fun t3 =>
   (uf4 (.start t3.Type_.Kind t3.Type_.Value t3.Type_.Name t3.Type_.Parts D1 C3)) >>= fun t4 =>
   if (fits (List.length B4) (List.length ([(⟨t3.Name, (⟨t4.1.1.1, t4.1.1.2.1, t4.1.1.2.2.1, t4.1.1.2.2.2.1⟩ : ua0)⟩ : ua6)] : List ua6)) 72) = true then
    ue7 (.p128148 i7 (IntKind.wrap .i64 (k9 + (1 : Int))) C0 C1 C2 C3 D0 D1 D2 B2 B3 (B4 ++ ([(⟨t3.Name, (⟨t4.1.1.1, t4.1.1.2.1, t4.1.1.2.2.1, t4.1.1.2.2.2.1⟩ : ua0)⟩ : ua6)] : List ua6)))
   else none
  else
   if (fits (List.length B2) (List.length ([(⟨B3, B4⟩ : ua1)] : List ua1)) 40) = true then
    ue7 (.p500 (IntKind.wrap .i64 (i7 + (1 : Int))) C0 C1 C2 C3 D0 D1 D2 (B2 ++ ([(⟨B3, B4⟩ : ua1)] : List ua1)))
   else none
 partial_fixpoint
def xv5 : List (Plc E xy7) := [⟨500, [false, false, true, false, true, true, true, true], { slots := [3, 5, 6, 7], rows := [(6, 56)], flat := [], keep := 0 }, _, _, (.cons (Rd.bp 0 0) (.cons (Rd.bp 1 0) (.cons (Rd.rw 2) (.cons (Rd.int .i64) .nil)))), (.cons (.var 25 (.cons (Rd.int .i64) (.cons (Rd.int .i64) (.cons Rd.str (.cons (Rd.sl 25 false) .nil))))) (.cons (.var 103 (.cons Rd.str (.cons (Rd.sl 9 false) (.cons (Rd.sl 56 false) .nil)))) (.cons (.row 56 false) .nil))), fun a b => .p500 a.2.2.2.1 b.1.1 b.1.2.1 b.1.2.2.1 b.1.2.2.2.1 b.2.1.1 b.2.1.2.1 b.2.1.2.2.1 b.2.2.1⟩,
 ⟨128148, [false, false, true, false, true, false, false, true, false, false, true, false, true, true, true, true], { slots := [3, 5, 6, 7, 8, 9], rows := [], flat := [], keep := 0, up := [(true, 8, 1, 58)] }, _, _, (.cons (Rd.bp 0 0) (.cons (Rd.bp 1 0) (.cons (Rd.rw 2) (.cons (Rd.int .i64) (.cons (Rd.bp 3 0) (.cons (Rd.int .i64) .nil)))))), (.cons (.var 25 (.cons (Rd.int .i64) (.cons (Rd.int .i64) (.cons Rd.str (.cons (Rd.sl 25 false) .nil))))) (.cons (.var 103 (.cons Rd.str (.cons (Rd.sl 9 false) (.cons (Rd.sl 56 false) .nil)))) (.cons (.row 56 false) (.cons (.var 56 (.cons Rd.str (.cons (Rd.rw 4) .nil))) (.cons (.row 58 false) .nil))))), fun a b => .p128148 a.2.2.2.1 a.2.2.2.2.2.1 b.1.1 b.1.2.1 b.1.2.2.1 b.1.2.2.2.1 b.2.1.1 b.2.1.2.1 b.2.1.2.2.1 b.2.2.1 b.2.2.2.1.1 b.2.2.2.2.1⟩]
theorem w07 : All (ub8 78 0 vf2 xl6) xv5 := ⟨⟨rfl, rfl, fun _ _ => rfl, fun _ _ => rfl⟩, ⟨⟨rfl, rfl, fun _ _ => rfl, fun _ _ => rfl⟩, trivial⟩⟩
def vA0 : Code := Tryz.f28.body.getD .skip
def wA3 : Spec E.S := (Con.add xa1 (Con.add vA7 ub1))
theorem wh1 : ub0 E wA3 := (Con.add_ok wM2 (Con.add_ok u02 ua7))
theorem xJ4 : ∀ pt r, ue7 pt = some r → Good E Tryz.f28 vA0 0 (uS7.av r) (uS7.bx r) (vf2 pt) (xl6 pt) := by
 refine ue7.partial_correctness (fun pt r => Good E Tryz.f28 vA0 0 (uS7.av r) (uS7.bx r) (vf2 pt) (xl6 pt)) ?_
 intro run' ih pt r hr
 cases pt <;> exact ua9 (spec := wA3) (wr := (mkWr [] [(16019, [8])])) (l := xv5) (z := 78) (p := uS7) E_ok w07.mem rfl wh1 ih (Eq.trans (by kernel_rfl) hr)
def uP3 : Con E := ⟨28, _, _, (.cons (Rw.sl 103) (.cons (Rw.agg (.cons (Rd.int .i64).w (.cons (Rd.int .i64).w (.cons Rd.str.w (.cons (Rw.sl 25) .nil))))) .nil)), .nil, 0, x97, fun a b => ue7 (.start a.1 a.2.1.1 a.2.1.2.1 a.2.1.2.2.1 a.2.1.2.2.2.1), uS7.av, uS7.bx⟩
theorem uu2 : uP3.Ok := fun a b r h => ub4 (fn := Tryz.f28) (code := vA0) E_ok (by kernel_rfl) (by kernel_rfl) (by kernel_rfl) (Nat.le_of_ble_eq_true rfl) (xJ4 (.start a.1 a.2.1.1 a.2.1.2.1 a.2.1.2.2.1 a.2.1.2.2.2.1) r h)
end
end Go.Proofs.YtaennkkcnhfglaaGreatDoor.Ev.F
