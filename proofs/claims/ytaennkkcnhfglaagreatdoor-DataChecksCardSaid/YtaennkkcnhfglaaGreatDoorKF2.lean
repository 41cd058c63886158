/- A part of the proof. -/
import Derived.Test.YtaennkkcnhfglaaGreatDoorKF1
set_option linter.unusedVariables false
set_option maxRecDepth 100000
namespace Go.Proofs.YtaennkkcnhfglaaGreatDoor.Ev.F
open Go.Proofs Go.Proofs.YtaennkkcnhfglaaGreatDoor.Ev
noncomputable section
inductive wy1 where
 | start (l0 : (List ua2)) (t1_0 : Int) (t1_1 : Int) (t1_2 : ByteArray) (t1_3 : (List ua1)) (v2_0 : ByteArray) (v2_1 : Int) (v2_2 : (List ua4))
 | p15 (x8 : (Option ua5)) (e10 : Int) (C0 : ByteArray) (C1 : Int) (C2 : (List ua4))
def va0 : wy1 → List Bool
 | .start .. => []
 | .p15 .. => [true, true, true]
def xd1 : wy1 → St E.S
 | .start l0 t1_0 t1_1 t1_2 t1_3 v2_0 v2_1 v2_2 => st0 29 [.sl 103 l0 false, .agg [.v (.int .i64 t1_0), .v (.int .i64 t1_1), .v (.string t1_2), .sl 25 t1_3 false], .agg [.v (.string v2_0), .v (.int .i64 v2_1), .sl 37 v2_2 false]] []
 | .p15 x8 e10 C0 C1 C2 => mkSt 29 [5, 8, 10] [.bp 0 0, .op 128 x8, .v (.int .i64 e10)] [.var 37 [.v (.string C0), .v (.int .i64 C1), .sl 37 C2 false]]
abbrev xQ4 : Type := (((Option ua5) × (Int × Unit)) × Unit)
def uO8 : Res E ((Option ua5) × (Int × Unit)) Unit := { rows := [], flat := [], keep := 0, done := [0, 1], rl := (.cons (Rd.op 128) (.cons (Rd.int .i64) .nil)), rb := .nil }
def uH4 : wy1 → Option xQ4
 | .start l0 t1_0 t1_1 t1_2 t1_3 v2_0 v2_1 v2_2 =>
  (ur4 (.start l0 t1_0 t1_1 t1_2 t1_3)) >>= fun t1 =>
  if (t1.1.2.2.1 == (0 : Int)) = true then
   (u00 (.start v2_0 v2_1 v2_2)) >>= fun t2 =>
   uH4 (.p15 t1.1.1 t2.1.1 v2_0 v2_1 v2_2)
  else
   uH4 (.p15 t1.1.1 t1.1.2.2.1 v2_0 v2_1 v2_2)
 | .p15 x8 e10 C0 C1 C2 =>
  if (e10 == (0 : Int)) = true then
   (run_z53 (.start x8 C0 C1 C2)) >>= fun t1 =>
   some ((x8, (t1.1.1, ())), ())
  else
   some ((x8, (e10, ())), ())
 partial_fixpoint
def xj6 : List (Plc E wy1) := [⟨15, [true, true, true], { slots := [5, 8, 10], rows := [], flat := [], keep := 0 }, _, _, (.cons (Rd.bp 0 0) (.cons (Rd.op 128) (.cons (Rd.int .i64) .nil))), (.cons (.var 37 (.cons Rd.str (.cons (Rd.int .i64) (.cons (Rd.sl 37 false) .nil)))) .nil), fun a b => .p15 a.2.1 a.2.2.1 b.1.1 b.1.2.1 b.1.2.2.1⟩]
theorem wP7 : All (ub7 29 0 va0 xd1) xj6 := ⟨⟨rfl, rfl, fun _ _ => rfl, fun _ _ => rfl⟩, trivial⟩
def vu3 : Code := Tryz.f73.body.getD .skip
def wp2 : Spec E.S := (Con.add w00 (Con.add vS5 (Con.add uM6 ub0)))
theorem v65 : ua9 E wp2 := (Con.add_ok wC3 (Con.add_ok vn3 (Con.add_ok us8 ua7)))
theorem xy0 : ∀ pt r, uH4 pt = some r → Good E Tryz.f73 vu3 0 (uO8.av r) (uO8.bx r) (va0 pt) (xd1 pt) := by
 refine uH4.partial_correctness (fun pt r => Good E Tryz.f73 vu3 0 (uO8.av r) (uO8.bx r) (va0 pt) (xd1 pt)) ?_
 intro run' ih pt r hr
 cases pt <;> exact ua8 (spec := wp2) (wr := (mkWr [] [])) (l := xj6) (z := 29) (p := uO8) E_ok wP7.mem rfl v65 ih (Eq.trans (by kernel_rfl) hr)
def w01 : Con E := ⟨73, _, _, (.cons (Rw.sl 103) (.cons (Rw.agg (.cons (Rd.int .i64).w (.cons (Rd.int .i64).w (.cons Rd.str.w (.cons (Rw.sl 25) .nil))))) (.cons (Rw.agg (.cons Rd.str.w (.cons (Rd.int .i64).w (.cons (Rw.sl 37) .nil)))) .nil))), .nil, 0, xQ4, fun a b => uH4 (.start a.1 a.2.1.1 a.2.1.2.1 a.2.1.2.2.1 a.2.1.2.2.2.1 a.2.2.1.1 a.2.2.1.2.1 a.2.2.1.2.2.1), uO8.av, uO8.bx⟩
theorem wC4 : w01.Ok := fun a b r h => ub2 (fn := Tryz.f73) (code := vu3) E_ok (by kernel_rfl) (by kernel_rfl) (by kernel_rfl) (Nat.le_of_ble_eq_true rfl) (xy0 (.start a.1 a.2.1.1 a.2.1.2.1 a.2.1.2.2.1 a.2.1.2.2.2.1 a.2.2.1.1 a.2.2.1.2.1 a.2.2.1.2.2.1) r h)
inductive vj9 where
 | start (x0 : (Option ua5)) (v1_0 : ByteArray) (v1_1 : Int) (v1_2 : (List ua4))
 | p500 (x0 : (Option ua5)) (tag5 : Int) (fields6 : Int) (s24 : (Option (List (Option ua5)))) (s25 : Int) (s26 : Int) (C0 : ByteArray) (C1 : Int) (C2 : (List ua4))
def uF5 : vj9 → List Bool
 | .start .. => []
 | .p500 .. => [false, false, true, false, true, true, true, true]
def vO5 : vj9 → St E.S
 | .start x0 v1_0 v1_1 v1_2 => st0 50 [.op 128 x0, .agg [.v (.string v1_0), .v (.int .i64 v1_1), .sl 37 v1_2 false]] []
 | .p500 x0 tag5 fields6 s24 s25 s26 C0 C1 C2 => mkSt 50 [0, 3, 5, 6, 24, 25, 26] [.op 128 x0, .bp 0 0, .v (.int .i64 tag5), .v (.int .i64 fields6), .so 105 s24, .v (.int .i64 s25), .v (.int .i64 s26)] [.var 37 [.v (.string C0), .v (.int .i64 C1), .sl 37 C2 false]]
abbrev vC4 : Type := ((Int × Unit) × Unit)
def uo2 : Res E (Int × Unit) Unit := { rows := [], flat := [], keep := 0, done := [0], rl := (.cons (Rd.int .i64) .nil), rb := .nil }
def uC9 : vj9 → Option vC4
 | .start x0 v1_0 v1_1 v1_2 =>
  (ur3 (.start x0)) >>= fun t1 =>
  if t1.1.1 = true then
   some ((v1_1, ()), ())
  else
   (uC8 (.start x0 v1_0)) >>= fun t2 =>
   x0 >>= fun t3 =>
   (idx (Option.getD t3.constructors []) t2.1.1) >>= fun t4 =>
   uC9 (.p500 x0 t2.1.1 (0 : Int) t4.parts (List.length (Option.getD t4.parts []) : Int) (0 : Int) v1_0 v1_1 v1_2)
 | .p500 x0 tag5 fields6 s24 s25 s26 C0 C1 C2 =>
  if (decide (s26 < s25)) = true then
   (idx (Option.getD s24 []) s26) >>= fun t1 =>
   (run_z41 (.start t1)) >>= fun t2 =>
   if (decide ((0 : Int) ≤ t2.1.1)) = true then
    (idx C2 s26) >>= fun t3 =>
    (uC9 (.start t1 t3.Name t3.Number t3.Parts)) >>= fun t4 =>
    uC9 (.p500 x0 tag5 (bits .or .i64 (shl .i64 fields6 t2.1.1) t4.1.1) s24 s25 (IntKind.wrap .i64 (s26 + (1 : Int))) C0 C1 C2)
   else none
  else
   (run_z42 (.start x0)) >>= fun t5 =>
   if (decide ((0 : Int) ≤ t5.1.1)) = true then
    some ((bits .or .i64 (shl .i64 tag5 t5.1.1) fields6, ()), ())
   else none
 partial_fixpoint
def xj7 : List (Plc E vj9) := [⟨500, [false, false, true, false, true, true, true, true], { slots := [0, 3, 5, 6, 24, 25, 26], rows := [], flat := [], keep := 0 }, _, _, (.cons (Rd.op 128) (.cons (Rd.bp 0 0) (.cons (Rd.int .i64) (.cons (Rd.int .i64) (.cons (Rd.so 105) (.cons (Rd.int .i64) (.cons (Rd.int .i64) .nil))))))), (.cons (.var 37 (.cons Rd.str (.cons (Rd.int .i64) (.cons (Rd.sl 37 false) .nil)))) .nil), fun a b => .p500 a.1 a.2.2.1 a.2.2.2.1 a.2.2.2.2.1 a.2.2.2.2.2.1 a.2.2.2.2.2.2.1 b.1.1 b.1.2.1 b.1.2.2.1⟩]
theorem wP8 : All (ub7 50 0 uF5 vO5) xj7 := ⟨⟨rfl, rfl, fun _ _ => rfl, fun _ _ => rfl⟩, trivial⟩
def uI2 : Code := Tryz.f74.body.getD .skip
def w80 (run' : vj9 → Option vC4) : Con E := ⟨74, ((Option ua5) × ((ByteArray × (Int × ((List ua4) × Unit))) × Unit)), Unit, (RwL.cons (Rd.op 128).w (RwL.cons (Rw.agg (RwL.cons Rd.str.w (RwL.cons (Rd.int .i64).w (RwL.cons (Rw.sl 37) RwL.nil)))) RwL.nil)), RdBL.nil, 0, vC4, fun a b => run' (.start a.1 a.2.1.1 a.2.1.2.1 a.2.1.2.2.1), uo2.av, uo2.bx⟩
theorem wH9 {run' : vj9 → Option vC4} (ih : ∀ pt r, run' pt = some r → Good E Tryz.f74 uI2 0 (uo2.av r) (uo2.bx r) (uF5 pt) (vO5 pt)) : (w80 run').Ok := fun a b r h => ub2 (fn := Tryz.f74) (code := uI2) E_ok (by kernel_rfl) (by kernel_rfl) (by kernel_rfl) (Nat.le_of_ble_eq_true rfl) (ih (.start a.1 a.2.1.1 a.2.1.2.1 a.2.1.2.2.1) r h)
def wp3 (run' : vj9 → Option vC4) : Spec E.S := (Con.add (w80 run') (Con.add vS4 (Con.add uW6 (Con.add vv8 (Con.add uM5 ub0)))))
theorem v66 {run' : vj9 → Option vC4} (ih : ∀ pt r, run' pt = some r → Good E Tryz.f74 uI2 0 (uo2.av r) (uo2.bx r) (uF5 pt) (vO5 pt)) : ua9 E (wp3 run') := (Con.add_ok (wH9 ih) (Con.add_ok vn2 (Con.add_ok uy1 (Con.add_ok uW7 (Con.add_ok us7 ua7)))))
theorem xy1 : ∀ pt r, uC9 pt = some r → Good E Tryz.f74 uI2 0 (uo2.av r) (uo2.bx r) (uF5 pt) (vO5 pt) := by
 refine uC9.partial_correctness (fun pt r => Good E Tryz.f74 uI2 0 (uo2.av r) (uo2.bx r) (uF5 pt) (vO5 pt)) ?_
 intro run' ih pt r hr
 cases pt <;> exact ua8 (spec := (wp3 run')) (wr := (mkWr [] [])) (l := xj7) (z := 50) (p := uo2) E_ok wP8.mem rfl (v66 ih) ih (Eq.trans (by kernel_rfl) hr)
def w02 : Con E := ⟨74, _, _, (.cons (Rd.op 128).w (.cons (Rw.agg (.cons Rd.str.w (.cons (Rd.int .i64).w (.cons (Rw.sl 37) .nil)))) .nil)), .nil, 0, vC4, fun a b => uC9 (.start a.1 a.2.1.1 a.2.1.2.1 a.2.1.2.2.1), uo2.av, uo2.bx⟩
theorem wC5 : w02.Ok := fun a b r h => ub2 (fn := Tryz.f74) (code := uI2) E_ok (by kernel_rfl) (by kernel_rfl) (by kernel_rfl) (Nat.le_of_ble_eq_true rfl) (xy1 (.start a.1 a.2.1.1 a.2.1.2.1 a.2.1.2.2.1) r h)
inductive wy2 where
 | start (l0 : (List ua2)) (t1_0 : Int) (t1_1 : Int) (t1_2 : ByteArray) (t1_3 : (List ua1)) (v2_0 : ByteArray) (v2_1 : Int) (v2_2 : (List ua4))
def vJ3 : wy2 → List Bool
 | .start .. => []
def xK4 : wy2 → St E.S
 | .start l0 t1_0 t1_1 t1_2 t1_3 v2_0 v2_1 v2_2 => st0 23 [.sl 103 l0 false, .agg [.v (.int .i64 t1_0), .v (.int .i64 t1_1), .v (.string t1_2), .sl 25 t1_3 false], .agg [.v (.string v2_0), .v (.int .i64 v2_1), .sl 37 v2_2 false]] []
abbrev xQ5 : Type := ((Int × (Int × Unit)) × Unit)
def vd6 : Res E (Int × (Int × Unit)) Unit := { rows := [], flat := [], keep := 0, done := [0, 1], rl := (.cons (Rd.int .i64) (.cons (Rd.int .i64) .nil)), rb := .nil }
def vg7 : wy2 → Option xQ5
 | .start l0 t1_0 t1_1 t1_2 t1_3 v2_0 v2_1 v2_2 =>
  (uH4 (.start l0 t1_0 t1_1 t1_2 t1_3 v2_0 v2_1 v2_2)) >>= fun t1 =>
  if (t1.1.2.1 != (0 : Int)) = true then
   some (((0 : Int), (t1.1.2.1, ())), ())
  else
   (uC9 (.start t1.1.1 v2_0 v2_1 v2_2)) >>= fun t2 =>
   some ((t2.1.1, ((0 : Int), ())), ())
def xj8 : List (Plc E wy2) := []
theorem wP9 : All (ub7 23 0 vJ3 xK4) xj8 := trivial
def wg1 : Code := Tryz.f21.body.getD .skip
def wp4 : Spec E.S := (Con.add w02 (Con.add w01 ub0))
theorem v67 : ua9 E wp4 := (Con.add_ok wC5 (Con.add_ok wC4 ua7))
theorem xy2 : ∀ pt r, vg7 pt = some r → Good E Tryz.f21 wg1 0 (vd6.av r) (vd6.bx r) (vJ3 pt) (xK4 pt) := by
 intro pt r hr
 cases pt <;> exact ua8 (spec := wp4) (wr := (mkWr [] [])) (l := xj8) (z := 23) (p := vd6) (run' := fun _ => none) E_ok wP9.mem rfl v67 (fun _ _ h => by cases h) (Eq.trans (by kernel_rfl) hr)
def w03 : Con E := ⟨21, _, _, (.cons (Rw.sl 103) (.cons (Rw.agg (.cons (Rd.int .i64).w (.cons (Rd.int .i64).w (.cons Rd.str.w (.cons (Rw.sl 25) .nil))))) (.cons (Rw.agg (.cons Rd.str.w (.cons (Rd.int .i64).w (.cons (Rw.sl 37) .nil)))) .nil))), .nil, 0, xQ5, fun a b => vg7 (.start a.1 a.2.1.1 a.2.1.2.1 a.2.1.2.2.1 a.2.1.2.2.2.1 a.2.2.1.1 a.2.2.1.2.1 a.2.2.1.2.2.1), vd6.av, vd6.bx⟩
theorem wC6 : w03.Ok := fun a b r h => ub2 (fn := Tryz.f21) (code := wg1) E_ok (by kernel_rfl) (by kernel_rfl) (by kernel_rfl) (Nat.le_of_ble_eq_true rfl) (xy2 (.start a.1 a.2.1.1 a.2.1.2.1 a.2.1.2.2.1 a.2.1.2.2.2.1 a.2.2.1.1 a.2.2.1.2.1 a.2.2.1.2.2.1) r h)
inductive vk0 where
 | start (x0 : (Option ua5)) (n1 : Int)
 | p8180 (fields7 : Int) (low9 : Int) (s54 : (Option (List (Option ua5)))) (s55 : Int) (s56 : Int) (C0 : ByteArray) (C1 : Int) (B1 : (List ua4))
def uF6 : vk0 → List Bool
 | .start .. => []
 | .p8180 .. => [false, false, true, false, true, true, true, true, true, true, true, true]
def vO6 : vk0 → St E.S
 | .start x0 n1 => st0 88 [.op 128 x0, .v (.int .i64 n1)] []
 | .p8180 fields7 low9 s54 s55 s56 C0 C1 B1 => mkSt 88 [4, 7, 9, 54, 55, 56] [.bp 0 0, .v (.int .i64 fields7), .v (.int .i64 low9), .so 105 s54, .v (.int .i64 s55), .v (.int .i64 s56)] [.var 37 [.v (.string C0), .v (.int .i64 C1), .rw 1], .row 37 B1 false]
abbrev vC5 : Type := (((ByteArray × (Int × ((List ua4) × Unit))) × (Bool × Unit)) × Unit)
def uo3 : Res E ((ByteArray × (Int × ((List ua4) × Unit))) × (Bool × Unit)) Unit := { rows := [], flat := [], keep := 0, deep := [(false, 0, 2, 37)], done := [0, 1], rl := (.cons (Rd.agg (.cons Rd.str (.cons (Rd.int .i64) (.cons (Rd.sl 37 false) .nil)))) (.cons Rd.bool .nil)), rb := .nil }
def uD0 : vk0 → Option vC5
 | .start x0 n1 =>
  (ur3 (.start x0)) >>= fun t1 =>
  if t1.1.1 = true then
   some ((((⟨#[]⟩ : ByteArray), (n1, ([], ()))), (true, ())), ())
  else
   (run_z42 (.start x0)) >>= fun t2 =>
   if (decide ((0 : Int) ≤ t2.1.1)) = true then
    (run_z42 (.start x0)) >>= fun t3 =>
    if (decide ((0 : Int) ≤ t3.1.1)) = true then
     x0 >>= fun t4 =>
     if (decide ((shr .i64 n1 t2.1.1) ≥ (List.length (Option.getD t4.constructors []) : Int))) = true then
      some ((((⟨#[]⟩ : ByteArray), ((0 : Int), ([], ()))), (false, ())), ())
     else
      x0 >>= fun t5 =>
      (idx (Option.getD t5.constructors []) (shr .i64 n1 t2.1.1)) >>= fun t6 =>
      (uj6 (.start t6.name t6.fields t6.parts)) >>= fun t7 =>
      if (decide ((0 : Int) ≤ t7.1.1)) = true then
       if ((shr .i64 (bits .and .i64 n1 (IntKind.wrap .i64 ((shl .i64 (1 : Int) t3.1.1) - (1 : Int)))) t7.1.1) != (0 : Int)) = true then
        some ((((⟨#[]⟩ : ByteArray), ((0 : Int), ([], ()))), (false, ())), ())
       else
        uD0 (.p8180 (bits .and .i64 n1 (IntKind.wrap .i64 ((shl .i64 (1 : Int) t3.1.1) - (1 : Int)))) t7.1.1 t6.parts (List.length (Option.getD t6.parts []) : Int) (0 : Int) t6.name (0 : Int) ([] : List ua4))
      else none
    else none
   else none
 | .p8180 fields7 low9 s54 s55 s56 C0 C1 B1 =>
  if (decide (s56 < s55)) = true then
   (idx (Option.getD s54 []) s56) >>= fun t1 =>
   (run_z41 (.start t1)) >>= fun t2 =>
   if (decide ((0 : Int) ≤ (IntKind.wrap .i64 (low9 - t2.1.1)))) = true then
    (run_z41 (.start t1)) >>= fun t3 =>
    if (decide ((0 : Int) ≤ t3.1.1)) = true then
     (uD0 (.start t1 (bits .and .i64 (shr .i64 fields7 (IntKind.wrap .i64 (low9 - t2.1.1))) (IntKind.wrap .i64 ((shl .i64 (1 : Int) t3.1.1) - (1 : Int)))))) >>= fun t4 =>
     if (!t4.1.2.1) = true then
      some (((C0, (C1, (B1, ()))), (false, ())), ())
     else
      if (fits (List.length B1) (List.length ([(⟨t4.1.1.1, t4.1.1.2.1, t4.1.1.2.2.1⟩ : ua4)] : List ua4)) 48) = true then
       uD0 (.p8180 fields7 (IntKind.wrap .i64 (low9 - t2.1.1)) s54 s55 (IntKind.wrap .i64 (s56 + (1 : Int))) C0 C1 (B1 ++ ([(⟨t4.1.1.1, t4.1.1.2.1, t4.1.1.2.2.1⟩ : ua4)] : List ua4)))
      else none
    else none
   else none
  else
   some (((C0, (C1, (B1, ()))), (true, ())), ())
 partial_fixpoint
def xj9 : List (Plc E vk0) := [⟨8180, [false, false, true, false, true, true, true, true, true, true, true, true], { slots := [4, 7, 9, 54, 55, 56], rows := [], flat := [], keep := 0, up := [(true, 4, 2, 37)] }, _, _, (.cons (Rd.bp 0 0) (.cons (Rd.int .i64) (.cons (Rd.int .i64) (.cons (Rd.so 105) (.cons (Rd.int .i64) (.cons (Rd.int .i64) .nil)))))), (.cons (.var 37 (.cons Rd.str (.cons (Rd.int .i64) (.cons (Rd.rw 1) .nil)))) (.cons (.row 37 false) .nil)), fun a b => .p8180 a.2.1 a.2.2.1 a.2.2.2.1 a.2.2.2.2.1 a.2.2.2.2.2.1 b.1.1 b.1.2.1 b.2.1⟩]
theorem wQ0 : All (ub7 88 0 uF6 vO6) xj9 := ⟨⟨rfl, rfl, fun _ _ => rfl, fun _ _ => rfl⟩, trivial⟩
def uI3 : Code := Tryz.f71.body.getD .skip
def w81 (run' : vk0 → Option vC5) : Con E := ⟨71, ((Option ua5) × (Int × Unit)), Unit, (RwL.cons (Rd.op 128).w (RwL.cons (Rd.int .i64).w RwL.nil)), RdBL.nil, 0, vC5, fun a b => run' (.start a.1 a.2.1), uo3.av, uo3.bx⟩
theorem wI0 {run' : vk0 → Option vC5} (ih : ∀ pt r, run' pt = some r → Good E Tryz.f71 uI3 0 (uo3.av r) (uo3.bx r) (uF6 pt) (vO6 pt)) : (w81 run').Ok := fun a b r h => ub2 (fn := Tryz.f71) (code := uI3) E_ok (by kernel_rfl) (by kernel_rfl) (by kernel_rfl) (Nat.le_of_ble_eq_true rfl) (ih (.start a.1 a.2.1) r h)
def wp5 (run' : vk0 → Option vC5) : Spec E.S := (Con.add (w81 run') (Con.add uW6 (Con.add wZ3 (Con.add vS4 (Con.add uM5 ub0)))))
theorem v68 {run' : vk0 → Option vC5} (ih : ∀ pt r, run' pt = some r → Good E Tryz.f71 uI3 0 (uo3.av r) (uo3.bx r) (uF6 pt) (vO6 pt)) : ua9 E (wp5 run') := (Con.add_ok (wI0 ih) (Con.add_ok uy1 (Con.add_ok wB6 (Con.add_ok vn2 (Con.add_ok us7 ua7)))))
theorem xy3 : ∀ pt r, uD0 pt = some r → Good E Tryz.f71 uI3 0 (uo3.av r) (uo3.bx r) (uF6 pt) (vO6 pt) := by
 refine uD0.partial_correctness (fun pt r => Good E Tryz.f71 uI3 0 (uo3.av r) (uo3.bx r) (uF6 pt) (vO6 pt)) ?_
 intro run' ih pt r hr
 cases pt <;> exact ua8 (spec := (wp5 run')) (wr := (mkWr [] [])) (l := xj9) (z := 88) (p := uo3) E_ok wQ0.mem rfl (v68 ih) ih (Eq.trans (by kernel_rfl) hr)
def w04 : Con E := ⟨71, _, _, (.cons (Rd.op 128).w (.cons (Rd.int .i64).w .nil)), .nil, 0, vC5, fun a b => uD0 (.start a.1 a.2.1), uo3.av, uo3.bx⟩
theorem wC7 : w04.Ok := fun a b r h => ub2 (fn := Tryz.f71) (code := uI3) E_ok (by kernel_rfl) (by kernel_rfl) (by kernel_rfl) (Nat.le_of_ble_eq_true rfl) (xy3 (.start a.1 a.2.1) r h)
inductive wy3 where
 | start (l0 : (List ua2)) (t1_0 : Int) (t1_1 : Int) (t1_2 : ByteArray) (t1_3 : (List ua1)) (bits2 : Int)
def vJ4 : wy3 → List Bool
 | .start .. => []
def xK5 : wy3 → St E.S
 | .start l0 t1_0 t1_1 t1_2 t1_3 bits2 => st0 45 [.sl 103 l0 false, .agg [.v (.int .i64 t1_0), .v (.int .i64 t1_1), .v (.string t1_2), .sl 25 t1_3 false], .v (.int .i64 bits2)] []
abbrev xQ6 : Type := (((ByteArray × (Int × ((List ua4) × Unit))) × (Int × Unit)) × Unit)
def vd7 : Res E ((ByteArray × (Int × ((List ua4) × Unit))) × (Int × Unit)) Unit := { rows := [], flat := [], keep := 0, deep := [(false, 0, 2, 37)], done := [0, 1], rl := (.cons (Rd.agg (.cons Rd.str (.cons (Rd.int .i64) (.cons (Rd.sl 37 false) .nil)))) (.cons (Rd.int .i64) .nil)), rb := .nil }
def vg8 : wy3 → Option xQ6
 | .start l0 t1_0 t1_1 t1_2 t1_3 bits2 =>
  (ur4 (.start l0 t1_0 t1_1 t1_2 t1_3)) >>= fun t1 =>
  (uc8 (.start ([t1.1.2.2.1] : List Int))) >>= fun t2 =>
  if (t2.1.1 != (0 : Int)) = true then
   some ((((⟨#[]⟩ : ByteArray), ((0 : Int), ([], ()))), (t2.1.1, ())), ())
  else
   (run_z41 (.start t1.1.1)) >>= fun t3 =>
   if (decide ((0 : Int) ≤ t3.1.1)) = true then
    (uk1 (.start bits2 (0 : Int) (IntKind.wrap .i64 ((shl .i64 (1 : Int) t3.1.1) - (1 : Int))))) >>= fun t4 =>
    if (!t4.1.1) = true then
     some ((((⟨#[]⟩ : ByteArray), ((0 : Int), ([], ()))), ((2 : Int), ())), ())
    else
     (uD0 (.start t1.1.1 bits2)) >>= fun t5 =>
     if (!t5.1.2.1) = true then
      some ((((⟨#[]⟩ : ByteArray), ((0 : Int), ([], ()))), ((3 : Int), ())), ())
     else
      some (((t5.1.1.1, (t5.1.1.2.1, (t5.1.1.2.2.1, ()))), ((0 : Int), ())), ())
   else none
def xk0 : List (Plc E wy3) := []
theorem wQ1 : All (ub7 45 0 vJ4 xK5) xk0 := trivial
def wg2 : Code := Tryz.f19.body.getD .skip
def wp6 : Spec E.S := (Con.add w04 (Con.add uR8 (Con.add uW6 (Con.add uE3 (Con.add uM6 ub0)))))
theorem v69 : ua9 E wp6 := (Con.add_ok wC7 (Con.add_ok uq3 (Con.add_ok uy1 (Con.add_ok un4 (Con.add_ok us8 ua7)))))
theorem xy4 : ∀ pt r, vg8 pt = some r → Good E Tryz.f19 wg2 0 (vd7.av r) (vd7.bx r) (vJ4 pt) (xK5 pt) := by
 intro pt r hr
 cases pt <;> exact ua8 (spec := wp6) (wr := (mkWr [] [])) (l := xk0) (z := 45) (p := vd7) (run' := fun _ => none) E_ok wQ1.mem rfl v69 (fun _ _ h => by cases h) (Eq.trans (by kernel_rfl) hr)
def w05 : Con E := ⟨19, _, _, (.cons (Rw.sl 103) (.cons (Rw.agg (.cons (Rd.int .i64).w (.cons (Rd.int .i64).w (.cons Rd.str.w (.cons (Rw.sl 25) .nil))))) (.cons (Rd.int .i64).w .nil))), .nil, 0, xQ6, fun a b => vg8 (.start a.1 a.2.1.1 a.2.1.2.1 a.2.1.2.2.1 a.2.1.2.2.2.1 a.2.2.1), vd7.av, vd7.bx⟩
theorem wC8 : w05.Ok := fun a b r h => ub2 (fn := Tryz.f19) (code := wg2) E_ok (by kernel_rfl) (by kernel_rfl) (by kernel_rfl) (Nat.le_of_ble_eq_true rfl) (xy4 (.start a.1 a.2.1.1 a.2.1.2.1 a.2.1.2.2.1 a.2.1.2.2.2.1 a.2.2.1) r h)
inductive uV9 where
 | start (v0_0 : ByteArray) (v0_1 : (List ua6)) (v0_2 : (Option (List (Option ua5))))
 | p116 (n3 : Int) (s7 : (Option (List (Option ua5)))) (s8 : Int) (s9 : Int)
def uu1 : uV9 → List Bool
 | .start .. => []
 | .p116 .. => [false, false, true, false, true, true]
def vi5 : uV9 → St E.S
 | .start v0_0 v0_1 v0_2 => st0 19 [.agg [.v (.string v0_0), .sl 58 v0_1 false, .so 105 v0_2]] []
 | .p116 n3 s7 s8 s9 => mkSt 19 [3, 7, 8, 9] [.v (.int .i64 n3), .so 105 s7, .v (.int .i64 s8), .v (.int .i64 s9)] []
abbrev vl0 : Type := ((Int × Unit) × Unit)
def ui9 : Res E (Int × Unit) Unit := { rows := [], flat := [], keep := 0, done := [0], rl := (.cons (Rd.int .i64) .nil), rb := .nil }
inductive uW0 where
 | start (x0 : (Option ua5))
 | p244 (sum3 : Int) (s16 : (Option (List data_variant))) (s17 : Int) (s18 : Int)
def uu2 : uW0 → List Bool
 | .start .. => []
 | .p244 .. => [false, false, true, false, true, true, true]
def vi6 : uW0 → St E.S
 | .start x0 => st0 28 [.op 128 x0] []
 | .p244 sum3 s16 s17 s18 => mkSt 28 [3, 16, 17, 18] [.v (.int .i64 sum3), .so 125 s16, .v (.int .i64 s17), .v (.int .i64 s18)] []
abbrev vl1 : Type := ((Int × Unit) × Unit)
def uj0 : Res E (Int × Unit) Unit := { rows := [], flat := [], keep := 0, done := [0], rl := (.cons (Rd.int .i64) .nil), rb := .nil }
mutual
def uu8 : uV9 → Option vl0
 | .start v0_0 v0_1 v0_2 =>
  uu8 (.p116 (1 : Int) v0_2 (List.length (Option.getD v0_2 []) : Int) (0 : Int))
 | .p116 n3 s7 s8 s9 =>
  if (decide (s9 < s8)) = true then
   (idx (Option.getD s7 []) s9) >>= fun t1 =>
   (run_z61 (.start t1)) >>= fun t2 =>
   uu8 (.p116 (IntKind.wrap .i64 (n3 * t2.1.1)) s7 s8 (IntKind.wrap .i64 (s9 + (1 : Int))))
  else
   some ((n3, ()), ())
 partial_fixpoint
def run_z61 : uW0 → Option vl1
 | .start x0 =>
  (ur3 (.start x0)) >>= fun t1 =>
  if t1.1.1 = true then
   x0 >>= fun t2 =>
   if (decide ((0 : Int) ≤ t2.bits)) = true then
    some ((shl .i64 (1 : Int) t2.bits, ()), ())
   else none
  else
   x0 >>= fun t3 =>
   run_z61 (.p244 (0 : Int) t3.constructors (List.length (Option.getD t3.constructors []) : Int) (0 : Int))
 | .p244 sum3 s16 s17 s18 =>
  if (decide (s18 < s17)) = true then
   (idx (Option.getD s16 []) s18) >>= fun t1 =>
   (uu8 (.start t1.name t1.fields t1.parts)) >>= fun t2 =>
   run_z61 (.p244 (IntKind.wrap .i64 (sum3 + t2.1.1)) s16 s17 (IntKind.wrap .i64 (s18 + (1 : Int))))
  else
   some ((sum3, ()), ())
 partial_fixpoint
end
def xk2 : List (Plc E uV9) := [⟨116, [false, false, true, false, true, true], { slots := [3, 7, 8, 9], rows := [], flat := [], keep := 0 }, _, _, (.cons (Rd.int .i64) (.cons (Rd.so 105) (.cons (Rd.int .i64) (.cons (Rd.int .i64) .nil)))), .nil, fun a b => .p116 a.1 a.2.1 a.2.2.1 a.2.2.2.1⟩]
theorem wQ2 : All (ub7 19 0 uu1 vi5) xk2 := ⟨⟨rfl, rfl, fun _ _ => rfl, fun _ _ => rfl⟩, trivial⟩
def uw2 : Code := Tryz.f108.body.getD .skip
def vV7 (run' : uV9 → Option vl0) : Con E := ⟨108, ((ByteArray × ((List ua6) × ((Option (List (Option ua5))) × Unit))) × Unit), Unit, (RwL.cons (Rw.agg (RwL.cons Rd.str.w (RwL.cons (Rw.sl 58) (RwL.cons (Rd.so 105).w RwL.nil)))) RwL.nil), RdBL.nil, 0, vl0, fun a b => run' (.start a.1.1 a.1.2.1 a.1.2.2.1), ui9.av, ui9.bx⟩
theorem vq0 {run' : uV9 → Option vl0} (ih : ∀ pt r, run' pt = some r → Good E Tryz.f108 uw2 0 (ui9.av r) (ui9.bx r) (uu1 pt) (vi5 pt)) : (vV7 run').Ok := fun a b r h => ub2 (fn := Tryz.f108) (code := uw2) E_ok (by kernel_rfl) (by kernel_rfl) (by kernel_rfl) (Nat.le_of_ble_eq_true rfl) (ih (.start a.1.1 a.1.2.1 a.1.2.2.1) r h)
def xk3 : List (Plc E uW0) := [⟨244, [false, false, true, false, true, true, true], { slots := [3, 16, 17, 18], rows := [], flat := [], keep := 0 }, _, _, (.cons (Rd.int .i64) (.cons (Rd.so 125) (.cons (Rd.int .i64) (.cons (Rd.int .i64) .nil)))), .nil, fun a b => .p244 a.1 a.2.1 a.2.2.1 a.2.2.2.1⟩]
theorem wQ3 : All (ub7 28 0 uu2 vi6) xk3 := ⟨⟨rfl, rfl, fun _ _ => rfl, fun _ _ => rfl⟩, trivial⟩
def uw3 : Code := Tryz.f68.body.getD .skip
def vV8 (run' : uW0 → Option vl1) : Con E := ⟨68, ((Option ua5) × Unit), Unit, (RwL.cons (Rd.op 128).w RwL.nil), RdBL.nil, 0, vl1, fun a b => run' (.start a.1), uj0.av, uj0.bx⟩
theorem vq1 {run' : uW0 → Option vl1} (ih : ∀ pt r, run' pt = some r → Good E Tryz.f68 uw3 0 (uj0.av r) (uj0.bx r) (uu2 pt) (vi6 pt)) : (vV8 run').Ok := fun a b r h => ub2 (fn := Tryz.f68) (code := uw3) E_ok (by kernel_rfl) (by kernel_rfl) (by kernel_rfl) (Nat.le_of_ble_eq_true rfl) (ih (.start a.1) r h)
def wp7 (r_z60 : uV9 → Option vl0) (r_z61 : uW0 → Option vl1) : Spec E.S := (Con.add (vV8 r_z61) (Con.add (vV7 r_z60) ub0))
theorem v71 {r_z60 : uV9 → Option vl0} (h_z60 : ∀ pt r, r_z60 pt = some r → Good E Tryz.f108 uw2 0 (ui9.av r) (ui9.bx r) (uu1 pt) (vi5 pt)) {r_z61 : uW0 → Option vl1} (h_z61 : ∀ pt r, r_z61 pt = some r → Good E Tryz.f68 uw3 0 (uj0.av r) (uj0.bx r) (uu2 pt) (vi6 pt)) : ua9 E (wp7 r_z60 r_z61) := (Con.add_ok (vq1 h_z61) (Con.add_ok (vq0 h_z60) ua7))
def wp8 (r_z60 : uV9 → Option vl0) (r_z61 : uW0 → Option vl1) : Spec E.S := (Con.add (vV8 r_z61) (Con.add (vV7 r_z60) (Con.add uM5 ub0)))
theorem v73 {r_z60 : uV9 → Option vl0} (h_z60 : ∀ pt r, r_z60 pt = some r → Good E Tryz.f108 uw2 0 (ui9.av r) (ui9.bx r) (uu1 pt) (vi5 pt)) {r_z61 : uW0 → Option vl1} (h_z61 : ∀ pt r, r_z61 pt = some r → Good E Tryz.f68 uw3 0 (uj0.av r) (uj0.bx r) (uu2 pt) (vi6 pt)) : ua9 E (wp8 r_z60 r_z61) := (Con.add_ok (vq1 h_z61) (Con.add_ok (vq0 h_z60) (Con.add_ok us7 ua7)))
theorem vF2 : (∀ pt r, uu8 pt = some r → Good E Tryz.f108 uw2 0 (ui9.av r) (ui9.bx r) (uu1 pt) (vi5 pt)) ∧ (∀ pt r, run_z61 pt = some r → Good E Tryz.f68 uw3 0 (uj0.av r) (uj0.bx r) (uu2 pt) (vi6 pt)) := by
  refine uu8.mutual_partial_correctness (fun pt r => Good E Tryz.f108 uw2 0 (ui9.av r) (ui9.bx r) (uu1 pt) (vi5 pt)) (fun pt r => Good E Tryz.f68 uw3 0 (uj0.av r) (uj0.bx r) (uu2 pt) (vi6 pt)) ?_ ?_
  · intro r_z60 r_z61 h_z60 h_z61 pt r hr
    cases pt <;> exact ua8 (spec := (wp7 r_z60 r_z61)) (wr := (mkWr [] [])) (l := xk2) (z := 19) (p := ui9) E_ok wQ2.mem rfl (v71 h_z60 h_z61) h_z60 (Eq.trans (by kernel_rfl) hr)
  · intro r_z60 r_z61 h_z60 h_z61 pt r hr
    cases pt <;> exact ua8 (spec := (wp8 r_z60 r_z61)) (wr := (mkWr [] [])) (l := xk3) (z := 28) (p := uj0) E_ok wQ3.mem rfl (v73 h_z60 h_z61) h_z61 (Eq.trans (by kernel_rfl) hr)
theorem xy5 : ∀ pt r, uu8 pt = some r → Good E Tryz.f108 uw2 0 (ui9.av r) (ui9.bx r) (uu1 pt) (vi5 pt) := vF2.1
theorem xy6 : ∀ pt r, run_z61 pt = some r → Good E Tryz.f68 uw3 0 (uj0.av r) (uj0.bx r) (uu2 pt) (vi6 pt) := vF2.2
def w07 : Con E := ⟨108, _, _, (.cons (Rw.agg (.cons Rd.str.w (.cons (Rw.sl 58) (.cons (Rd.so 105).w .nil)))) .nil), .nil, 0, vl0, fun a b => uu8 (.start a.1.1 a.1.2.1 a.1.2.2.1), ui9.av, ui9.bx⟩
theorem wC9 : w07.Ok := fun a b r h => ub2 (fn := Tryz.f108) (code := uw2) E_ok (by kernel_rfl) (by kernel_rfl) (by kernel_rfl) (Nat.le_of_ble_eq_true rfl) (xy5 (.start a.1.1 a.1.2.1 a.1.2.2.1) r h)
def vS6 : Con E := ⟨68, _, _, (.cons (Rd.op 128).w .nil), .nil, 0, vl1, fun a b => run_z61 (.start a.1), uj0.av, uj0.bx⟩
theorem vn4 : vS6.Ok := fun a b r h => ub2 (fn := Tryz.f68) (code := uw3) E_ok (by kernel_rfl) (by kernel_rfl) (by kernel_rfl) (Nat.le_of_ble_eq_true rfl) (xy6 (.start a.1) r h)
inductive vk1 where
 | start (x0 : (Option ua5)) (index1 : Int)
 | p116 (index1 : Int) (s18 : (Option (List data_variant))) (s19 : Int) (s20 : Int) (C0 : ByteArray) (C1 : Int)
 | p478452 (index1 : Int) (n7 : Int) (s36 : (Option (List (Option ua5)))) (s37 : Int) (s38 : Int) (C0 : ByteArray) (C1 : Int) (D0 : ByteArray) (D1 : Int) (B2 : (List ua4))
def uF7 : vk1 → List Bool
 | .start .. => []
 | .p116 .. => [false, false, true, false, true, true]
 | .p478452 .. => [false, false, true, false, true, true, true, true, false, false, true, true, false, false, true, false, true, true]
def vO7 : vk1 → St E.S
 | .start x0 index1 => st0 63 [.op 128 x0, .v (.int .i64 index1)] []
 | .p116 index1 s18 s19 s20 C0 C1 => mkSt 63 [1, 4, 18, 19, 20] [.v (.int .i64 index1), .bp 0 0, .so 125 s18, .v (.int .i64 s19), .v (.int .i64 s20)] [.var 37 [.v (.string C0), .v (.int .i64 C1), .nl]]
 | .p478452 index1 n7 s36 s37 s38 C0 C1 D0 D1 B2 => mkSt 63 [1, 4, 7, 8, 36, 37, 38] [.v (.int .i64 index1), .bp 0 0, .v (.int .i64 n7), .bp 1 0, .so 105 s36, .v (.int .i64 s37), .v (.int .i64 s38)] [.var 37 [.v (.string C0), .v (.int .i64 C1), .nl], .var 37 [.v (.string D0), .v (.int .i64 D1), .rw 2], .row 37 B2 false]
abbrev vC6 : Type := (((ByteArray × (Int × ((List ua4) × Unit))) × Unit) × Unit)
def uo4 : Res E ((ByteArray × (Int × ((List ua4) × Unit))) × Unit) Unit := { rows := [], flat := [], keep := 0, deep := [(false, 0, 2, 37)], done := [0], rl := (.cons (Rd.agg (.cons Rd.str (.cons (Rd.int .i64) (.cons (Rd.sl 37 false) .nil)))) .nil), rb := .nil }
def uu9 : vk1 → Option vC6
 | .start x0 index1 =>
  (ur3 (.start x0)) >>= fun t1 =>
  if t1.1.1 = true then
   some ((((⟨#[]⟩ : ByteArray), (index1, ([], ()))), ()), ())
  else
   x0 >>= fun t2 =>
   uu9 (.p116 index1 t2.constructors (List.length (Option.getD t2.constructors []) : Int) (0 : Int) (⟨#[]⟩ : ByteArray) (0 : Int))
 | .p116 index1 s18 s19 s20 C0 C1 =>
  if (decide (s20 < s19)) = true then
   (idx (Option.getD s18 []) s20) >>= fun t1 =>
   (uu8 (.start t1.name t1.fields t1.parts)) >>= fun t2 =>
   if (decide (index1 ≥ t2.1.1)) = true then
    uu9 (.p116 (IntKind.wrap .i64 (index1 - t2.1.1)) s18 s19 (IntKind.wrap .i64 (s20 + (1 : Int))) C0 C1)
   else
    uu9 (.p478452 index1 t2.1.1 t1.parts (List.length (Option.getD t1.parts []) : Int) (0 : Int) C0 C1 t1.name (0 : Int) ([] : List ua4))
  else
   some ((((⟨#[]⟩ : ByteArray), ((0 : Int), ([], ()))), ()), ())
 | .p478452 index1 n7 s36 s37 s38 C0 C1 D0 D1 B2 =>
  if (decide (s38 < s37)) = true then
   (idx (Option.getD s36 []) s38) >>= fun t1 =>
   (run_z61 (.start t1)) >>= fun t2 =>
   if (!(t2.1.1 == (0 : Int))) = true then
    if (!((IntKind.wrap .i64 (Int.tdiv n7 t2.1.1)) == (0 : Int))) = true then
     (uu9 (.start t1 (IntKind.wrap .i64 (Int.tdiv index1 (IntKind.wrap .i64 (Int.tdiv n7 t2.1.1)))))) >>= fun t3 =>
     if (fits (List.length B2) (List.length ([(⟨t3.1.1.1, t3.1.1.2.1, t3.1.1.2.2.1⟩ : ua4)] : List ua4)) 48) = true then
      if (!((IntKind.wrap .i64 (Int.tdiv n7 t2.1.1)) == (0 : Int))) = true then
       uu9 (.p478452 (Int.tmod index1 (IntKind.wrap .i64 (Int.tdiv n7 t2.1.1))) (IntKind.wrap .i64 (Int.tdiv n7 t2.1.1)) s36 s37 (IntKind.wrap .i64 (s38 + (1 : Int))) C0 C1 D0 D1 (B2 ++ ([(⟨t3.1.1.1, t3.1.1.2.1, t3.1.1.2.2.1⟩ : ua4)] : List ua4)))
      else none
     else none
    else none
   else none
  else
   some (((D0, (D1, (B2, ()))), ()), ())
 partial_fixpoint
def xk4 : List (Plc E vk1) := [⟨116, [false, false, true, false, true, true], { slots := [1, 4, 18, 19, 20], rows := [], flat := [], keep := 0 }, _, _, (.cons (Rd.int .i64) (.cons (Rd.bp 0 0) (.cons (Rd.so 125) (.cons (Rd.int .i64) (.cons (Rd.int .i64) .nil))))), (.cons (.var 37 (.cons Rd.str (.cons (Rd.int .i64) (.cons Rd.nl .nil)))) .nil), fun a b => .p116 a.1 a.2.2.1 a.2.2.2.1 a.2.2.2.2.1 b.1.1 b.1.2.1⟩,
 ⟨478452, [false, false, true, false, true, true, true, true, false, false, true, true, false, false, true, false, true, true], { slots := [1, 4, 7, 8, 36, 37, 38], rows := [], flat := [], keep := 0, up := [(true, 8, 2, 37)] }, _, _, (.cons (Rd.int .i64) (.cons (Rd.bp 0 0) (.cons (Rd.int .i64) (.cons (Rd.bp 1 0) (.cons (Rd.so 105) (.cons (Rd.int .i64) (.cons (Rd.int .i64) .nil))))))), (.cons (.var 37 (.cons Rd.str (.cons (Rd.int .i64) (.cons Rd.nl .nil)))) (.cons (.var 37 (.cons Rd.str (.cons (Rd.int .i64) (.cons (Rd.rw 2) .nil)))) (.cons (.row 37 false) .nil))), fun a b => .p478452 a.1 a.2.2.1 a.2.2.2.2.1 a.2.2.2.2.2.1 a.2.2.2.2.2.2.1 b.1.1 b.1.2.1 b.2.1.1 b.2.1.2.1 b.2.2.1⟩]
theorem wQ4 : All (ub7 63 0 uF7 vO7) xk4 := ⟨⟨rfl, rfl, fun _ _ => rfl, fun _ _ => rfl⟩, ⟨⟨rfl, rfl, fun _ _ => rfl, fun _ _ => rfl⟩, trivial⟩⟩
def uI4 : Code := Tryz.f84.body.getD .skip
def w82 (run' : vk1 → Option vC6) : Con E := ⟨84, ((Option ua5) × (Int × Unit)), Unit, (RwL.cons (Rd.op 128).w (RwL.cons (Rd.int .i64).w RwL.nil)), RdBL.nil, 0, vC6, fun a b => run' (.start a.1 a.2.1), uo4.av, uo4.bx⟩
theorem wI1 {run' : vk1 → Option vC6} (ih : ∀ pt r, run' pt = some r → Good E Tryz.f84 uI4 0 (uo4.av r) (uo4.bx r) (uF7 pt) (vO7 pt)) : (w82 run').Ok := fun a b r h => ub2 (fn := Tryz.f84) (code := uI4) E_ok (by kernel_rfl) (by kernel_rfl) (by kernel_rfl) (Nat.le_of_ble_eq_true rfl) (ih (.start a.1 a.2.1) r h)
def wp9 (run' : vk1 → Option vC6) : Spec E.S := (Con.add (w82 run') (Con.add vS6 (Con.add w07 (Con.add uM5 ub0))))
theorem v74 {run' : vk1 → Option vC6} (ih : ∀ pt r, run' pt = some r → Good E Tryz.f84 uI4 0 (uo4.av r) (uo4.bx r) (uF7 pt) (vO7 pt)) : ua9 E (wp9 run') := (Con.add_ok (wI1 ih) (Con.add_ok vn4 (Con.add_ok wC9 (Con.add_ok us7 ua7))))
theorem xy7 : ∀ pt r, uu9 pt = some r → Good E Tryz.f84 uI4 0 (uo4.av r) (uo4.bx r) (uF7 pt) (vO7 pt) := by
 refine uu9.partial_correctness (fun pt r => Good E Tryz.f84 uI4 0 (uo4.av r) (uo4.bx r) (uF7 pt) (vO7 pt)) ?_
 intro run' ih pt r hr
 cases pt <;> exact ua8 (spec := (wp9 run')) (wr := (mkWr [] [])) (l := xk4) (z := 63) (p := uo4) E_ok wQ4.mem rfl (v74 ih) ih (Eq.trans (by kernel_rfl) hr)
def w08 : Con E := ⟨84, _, _, (.cons (Rd.op 128).w (.cons (Rd.int .i64).w .nil)), .nil, 0, vC6, fun a b => uu9 (.start a.1 a.2.1), uo4.av, uo4.bx⟩
theorem wD0 : w08.Ok := fun a b r h => ub2 (fn := Tryz.f84) (code := uI4) E_ok (by kernel_rfl) (by kernel_rfl) (by kernel_rfl) (Nat.le_of_ble_eq_true rfl) (xy7 (.start a.1 a.2.1) r h)
inductive wy4 where
 | start (l0 : (List ua2)) (t1_0 : Int) (t1_1 : Int) (t1_2 : ByteArray) (t1_3 : (List ua1)) (index2 : Int)
def vJ5 : wy4 → List Bool
 | .start .. => []
def xK6 : wy4 → St E.S
 | .start l0 t1_0 t1_1 t1_2 t1_3 index2 => st0 32 [.sl 103 l0 false, .agg [.v (.int .i64 t1_0), .v (.int .i64 t1_1), .v (.string t1_2), .sl 25 t1_3 false], .v (.int .i64 index2)] []
abbrev xQ7 : Type := (((ByteArray × (Int × ((List ua4) × Unit))) × (Int × Unit)) × Unit)
def vd9 : Res E ((ByteArray × (Int × ((List ua4) × Unit))) × (Int × Unit)) Unit := { rows := [], flat := [], keep := 0, deep := [(false, 0, 2, 37)], done := [0, 1], rl := (.cons (Rd.agg (.cons Rd.str (.cons (Rd.int .i64) (.cons (Rd.sl 37 false) .nil)))) (.cons (Rd.int .i64) .nil)), rb := .nil }
def vg9 : wy4 → Option xQ7
 | .start l0 t1_0 t1_1 t1_2 t1_3 index2 =>
  (ur4 (.start l0 t1_0 t1_1 t1_2 t1_3)) >>= fun t1 =>
  if (t1.1.2.2.1 != (0 : Int)) = true then
   some ((((⟨#[]⟩ : ByteArray), ((0 : Int), ([], ()))), (t1.1.2.2.1, ())), ())
  else
   (run_z61 (.start t1.1.1)) >>= fun t2 =>
   (uk1 (.start index2 (0 : Int) (IntKind.wrap .i64 (t2.1.1 - (1 : Int))))) >>= fun t3 =>
   if (!t3.1.1) = true then
    some ((((⟨#[]⟩ : ByteArray), ((0 : Int), ([], ()))), ((6 : Int), ())), ())
   else
    (uu9 (.start t1.1.1 index2)) >>= fun t4 =>
    some (((t4.1.1.1, (t4.1.1.2.1, (t4.1.1.2.2.1, ()))), ((0 : Int), ())), ())
def xk5 : List (Plc E wy4) := []
theorem wQ5 : All (ub7 32 0 vJ5 xK6) xk5 := trivial
def wg3 : Code := Tryz.f33.body.getD .skip
def wq0 : Spec E.S := (Con.add w08 (Con.add uR8 (Con.add vS6 (Con.add uM6 ub0))))
theorem v77 : ua9 E wq0 := (Con.add_ok wD0 (Con.add_ok uq3 (Con.add_ok vn4 (Con.add_ok us8 ua7))))
theorem xy8 : ∀ pt r, vg9 pt = some r → Good E Tryz.f33 wg3 0 (vd9.av r) (vd9.bx r) (vJ5 pt) (xK6 pt) := by
 intro pt r hr
 cases pt <;> exact ua8 (spec := wq0) (wr := (mkWr [] [])) (l := xk5) (z := 32) (p := vd9) (run' := fun _ => none) E_ok wQ5.mem rfl v77 (fun _ _ h => by cases h) (Eq.trans (by kernel_rfl) hr)
def w09 : Con E := ⟨33, _, _, (.cons (Rw.sl 103) (.cons (Rw.agg (.cons (Rd.int .i64).w (.cons (Rd.int .i64).w (.cons Rd.str.w (.cons (Rw.sl 25) .nil))))) (.cons (Rd.int .i64).w .nil))), .nil, 0, xQ7, fun a b => vg9 (.start a.1 a.2.1.1 a.2.1.2.1 a.2.1.2.2.1 a.2.1.2.2.2.1 a.2.2.1), vd9.av, vd9.bx⟩
theorem wD1 : w09.Ok := fun a b r h => ub2 (fn := Tryz.f33) (code := wg3) E_ok (by kernel_rfl) (by kernel_rfl) (by kernel_rfl) (Nat.le_of_ble_eq_true rfl) (xy8 (.start a.1 a.2.1.1 a.2.1.2.1 a.2.1.2.2.1 a.2.1.2.2.2.1 a.2.2.1) r h)
inductive u49 where
 | start (s0 : Int) (x1_0 : ByteArray) (x1_1 : Int) (x1_2 : (List ua4))
def uz1 : u49 → List Bool
 | .start .. => []
def vr8 : u49 → St E.S
 | .start s0 x1_0 x1_1 x1_2 => st0 7 [.v (.int .i64 s0), .agg [.v (.string x1_0), .v (.int .i64 x1_1), .sl 37 x1_2 false]] []
abbrev vC7 : Type := ((Int × Unit) × Unit)
def ul3 : Res E (Int × Unit) Unit := { rows := [], flat := [], keep := 0, done := [0], rl := (.cons (Rd.int .i64) .nil), rb := .nil }
inductive uW1 where
 | start (v0_0 : ByteArray) (v0_1 : Int) (v0_2 : (List ua4))
 | p15 (e4 : Int) (C0 : ByteArray) (C1 : Int) (C2 : (List ua4))
def uu3 : uW1 → List Bool
 | .start .. => []
 | .p15 .. => [true, true, true]
def vi7 : uW1 → St E.S
 | .start v0_0 v0_1 v0_2 => st0 47 [.agg [.v (.string v0_0), .v (.int .i64 v0_1), .sl 37 v0_2 false]] []
 | .p15 e4 C0 C1 C2 => mkSt 47 [1, 4] [.bp 0 0, .v (.int .i64 e4)] [.var 37 [.v (.string C0), .v (.int .i64 C1), .sl 37 C2 false]]
abbrev vl2 : Type := ((Int × Unit) × Unit)
def uj1 : Res E (Int × Unit) Unit := { rows := [], flat := [], keep := 0, done := [0], rl := (.cons (Rd.int .i64) .nil), rb := .nil }
inductive uW2 where
 | start (l0 : (List ua4))
 | p52 (s9 : (List ua4)) (s10 : Int) (s11 : Int)
def uu4 : uW2 → List Bool
 | .start .. => []
 | .p52 .. => [false, false, true, false, true]
def vi8 : uW2 → St E.S
 | .start l0 => st0 25 [.sl 37 l0 false, .fn 135 []] []
 | .p52 s9 s10 s11 => mkSt 25 [1, 9, 10, 11] [.fn 135 [], .sl 37 s9 false, .v (.int .i64 s10), .v (.int .i64 s11)] []
abbrev vl3 : Type := ((Int × (Int × Unit)) × Unit)
def uj2 : Res E (Int × (Int × Unit)) Unit := { rows := [], flat := [], keep := 0, done := [0, 1], rl := (.cons (Rd.int .i64) (.cons (Rd.int .i64) .nil)), rb := .nil }
mutual
def uH5 : u49 → Option vC7
 | .start s0 x1_0 x1_1 x1_2 =>
  (run_z65 (.start x1_0 x1_1 x1_2)) >>= fun t1 =>
  some ((t1.1.1, ()), ())
 partial_fixpoint
def run_z65 : uW1 → Option vl2
 | .start v0_0 v0_1 v0_2 =>
  if (!(seq v0_0 (⟨#[]⟩ : ByteArray))) = true then
   (uc4 (.start true (3 : Int))) >>= fun t1 =>
   if (seq v0_0 (⟨#[]⟩ : ByteArray)) = true then
    (uc4 (.start true (3 : Int))) >>= fun t2 =>
    if (seq v0_0 (⟨#[]⟩ : ByteArray)) = true then
     (uc4 (.start true (4 : Int))) >>= fun t3 =>
     (uk1 (.start v0_1 (0 : Int) (99999 : Int))) >>= fun t4 =>
     (uc4 (.start t4.1.1 (2 : Int))) >>= fun t5 =>
     (uc8 (.start ([t1.1.1, t2.1.1, t3.1.1, t5.1.1] : List Int))) >>= fun t6 =>
     run_z65 (.p15 t6.1.1 v0_0 v0_1 v0_2)
    else
     (uf9 (.start v0_0)) >>= fun t7 =>
     (uc4 (.start t7.1.1 (4 : Int))) >>= fun t8 =>
     (uk1 (.start v0_1 (0 : Int) (99999 : Int))) >>= fun t9 =>
     (uc4 (.start t9.1.1 (2 : Int))) >>= fun t10 =>
     (uc8 (.start ([t1.1.1, t2.1.1, t8.1.1, t10.1.1] : List Int))) >>= fun t11 =>
     run_z65 (.p15 t11.1.1 v0_0 v0_1 v0_2)
   else
    (uc4 (.start (v0_1 == (0 : Int)) (3 : Int))) >>= fun t12 =>
    if (seq v0_0 (⟨#[]⟩ : ByteArray)) = true then
     (uc4 (.start true (4 : Int))) >>= fun t13 =>
     (uk1 (.start v0_1 (0 : Int) (99999 : Int))) >>= fun t14 =>
     (uc4 (.start t14.1.1 (2 : Int))) >>= fun t15 =>
     (uc8 (.start ([t1.1.1, t12.1.1, t13.1.1, t15.1.1] : List Int))) >>= fun t16 =>
     run_z65 (.p15 t16.1.1 v0_0 v0_1 v0_2)
    else
     (uf9 (.start v0_0)) >>= fun t17 =>
     (uc4 (.start t17.1.1 (4 : Int))) >>= fun t18 =>
     (uk1 (.start v0_1 (0 : Int) (99999 : Int))) >>= fun t19 =>
     (uc4 (.start t19.1.1 (2 : Int))) >>= fun t20 =>
     (uc8 (.start ([t1.1.1, t12.1.1, t18.1.1, t20.1.1] : List Int))) >>= fun t21 =>
     run_z65 (.p15 t21.1.1 v0_0 v0_1 v0_2)
  else
   (uc4 (.start ((List.length v0_2 : Int) == (0 : Int)) (3 : Int))) >>= fun t22 =>
   if (seq v0_0 (⟨#[]⟩ : ByteArray)) = true then
    (uc4 (.start true (3 : Int))) >>= fun t23 =>
    if (seq v0_0 (⟨#[]⟩ : ByteArray)) = true then
     (uc4 (.start true (4 : Int))) >>= fun t24 =>
     (uk1 (.start v0_1 (0 : Int) (99999 : Int))) >>= fun t25 =>
     (uc4 (.start t25.1.1 (2 : Int))) >>= fun t26 =>
     (uc8 (.start ([t22.1.1, t23.1.1, t24.1.1, t26.1.1] : List Int))) >>= fun t27 =>
     run_z65 (.p15 t27.1.1 v0_0 v0_1 v0_2)
    else
     (uf9 (.start v0_0)) >>= fun t28 =>
     (uc4 (.start t28.1.1 (4 : Int))) >>= fun t29 =>
     (uk1 (.start v0_1 (0 : Int) (99999 : Int))) >>= fun t30 =>
     (uc4 (.start t30.1.1 (2 : Int))) >>= fun t31 =>
     (uc8 (.start ([t22.1.1, t23.1.1, t29.1.1, t31.1.1] : List Int))) >>= fun t32 =>
     run_z65 (.p15 t32.1.1 v0_0 v0_1 v0_2)
   else
    (uc4 (.start (v0_1 == (0 : Int)) (3 : Int))) >>= fun t33 =>
    if (seq v0_0 (⟨#[]⟩ : ByteArray)) = true then
     (uc4 (.start true (4 : Int))) >>= fun t34 =>
     (uk1 (.start v0_1 (0 : Int) (99999 : Int))) >>= fun t35 =>
     (uc4 (.start t35.1.1 (2 : Int))) >>= fun t36 =>
     (uc8 (.start ([t22.1.1, t33.1.1, t34.1.1, t36.1.1] : List Int))) >>= fun t37 =>
     run_z65 (.p15 t37.1.1 v0_0 v0_1 v0_2)
    else
     (uf9 (.start v0_0)) >>= fun t38 =>
     (uc4 (.start t38.1.1 (4 : Int))) >>= fun t39 =>
     (uk1 (.start v0_1 (0 : Int) (99999 : Int))) >>= fun t40 =>
     (uc4 (.start t40.1.1 (2 : Int))) >>= fun t41 =>
     (uc8 (.start ([t22.1.1, t33.1.1, t39.1.1, t41.1.1] : List Int))) >>= fun t42 =>
     run_z65 (.p15 t42.1.1 v0_0 v0_1 v0_2)
 | .p15 e4 C0 C1 C2 =>
  if (e4 != (0 : Int)) = true then
   some ((e4, ()), ())
  else
   (run_z66 (.start C2)) >>= fun t1 =>
   some ((t1.1.2.1, ()), ())
 partial_fixpoint
def run_z66 : uW2 → Option vl3
 | .start l0 =>
  run_z66 (.p52 l0 (List.length l0 : Int) (0 : Int))
 | .p52 s9 s10 s11 =>
  if (decide (s11 < s10)) = true then
   (idx s9 s11) >>= fun t1 =>
   (uH5 (.start s11 t1.Name t1.Number t1.Parts)) >>= fun t2 =>
   if (t2.1.1 != (0 : Int)) = true then
    some ((s11, (t2.1.1, ())), ())
   else
    run_z66 (.p52 s9 s10 (IntKind.wrap .i64 (s11 + (1 : Int))))
  else
   some (((0 : Int), ((0 : Int), ())), ())
 partial_fixpoint
end
def xk6 : List (Plc E u49) := []
theorem wQ6 : All (ub7 7 0 uz1 vr8) xk6 := trivial
def uA3 : Code := Tryz.f135.body.getD .skip
def w83 (run' : u49 → Option vC7) : Con E := ⟨135, (Int × ((ByteArray × (Int × ((List ua4) × Unit))) × Unit)), Unit, (RwL.cons (Rd.int .i64).w (RwL.cons (Rw.agg (RwL.cons Rd.str.w (RwL.cons (Rd.int .i64).w (RwL.cons (Rw.sl 37) RwL.nil)))) RwL.nil)), RdBL.nil, 0, vC7, fun a b => run' (.start a.1 a.2.1.1 a.2.1.2.1 a.2.1.2.2.1), ul3.av, ul3.bx⟩
theorem wI2 {run' : u49 → Option vC7} (ih : ∀ pt r, run' pt = some r → Good E Tryz.f135 uA3 0 (ul3.av r) (ul3.bx r) (uz1 pt) (vr8 pt)) : (w83 run').Ok := fun a b r h => ub2 (fn := Tryz.f135) (code := uA3) E_ok (by kernel_rfl) (by kernel_rfl) (by kernel_rfl) (Nat.le_of_ble_eq_true rfl) (ih (.start a.1 a.2.1.1 a.2.1.2.1 a.2.1.2.2.1) r h)
def xk7 : List (Plc E uW1) := [⟨15, [true, true, true], { slots := [1, 4], rows := [], flat := [], keep := 0 }, _, _, (.cons (Rd.bp 0 0) (.cons (Rd.int .i64) .nil)), (.cons (.var 37 (.cons Rd.str (.cons (Rd.int .i64) (.cons (Rd.sl 37 false) .nil)))) .nil), fun a b => .p15 a.2.1 b.1.1 b.1.2.1 b.1.2.2.1⟩]
theorem wQ7 : All (ub7 47 0 uu3 vi7) xk7 := ⟨⟨rfl, rfl, fun _ _ => rfl, fun _ _ => rfl⟩, trivial⟩
def uw4 : Code := Tryz.f97.body.getD .skip
def vV9 (run' : uW1 → Option vl2) : Con E := ⟨97, ((ByteArray × (Int × ((List ua4) × Unit))) × Unit), Unit, (RwL.cons (Rw.agg (RwL.cons Rd.str.w (RwL.cons (Rd.int .i64).w (RwL.cons (Rw.sl 37) RwL.nil)))) RwL.nil), RdBL.nil, 0, vl2, fun a b => run' (.start a.1.1 a.1.2.1 a.1.2.2.1), uj1.av, uj1.bx⟩
theorem vq2 {run' : uW1 → Option vl2} (ih : ∀ pt r, run' pt = some r → Good E Tryz.f97 uw4 0 (uj1.av r) (uj1.bx r) (uu3 pt) (vi7 pt)) : (vV9 run').Ok := fun a b r h => ub2 (fn := Tryz.f97) (code := uw4) E_ok (by kernel_rfl) (by kernel_rfl) (by kernel_rfl) (Nat.le_of_ble_eq_true rfl) (ih (.start a.1.1 a.1.2.1 a.1.2.2.1) r h)
def xk8 : List (Plc E uW2) := [⟨52, [false, false, true, false, true], { slots := [1, 9, 10, 11], rows := [], flat := [], keep := 0 }, _, _, (.cons (Rd.fn 135 .nil) (.cons (Rd.sl 37 false) (.cons (Rd.int .i64) (.cons (Rd.int .i64) .nil)))), .nil, fun a b => .p52 a.2.1 a.2.2.1 a.2.2.2.1⟩]
theorem wQ8 : All (ub7 25 0 uu4 vi8) xk8 := ⟨⟨rfl, rfl, fun _ _ => rfl, fun _ _ => rfl⟩, trivial⟩
def uw5 : Code := Tryz.f134.body.getD .skip
def vW0 (run' : uW2 → Option vl3) : Con E := ⟨134, ((List ua4) × (Unit × Unit)), Unit, (RwL.cons (Rw.sl 37) (RwL.cons (Rd.fn 135 RdL.nil).w RwL.nil)), RdBL.nil, 0, vl3, fun a b => run' (.start a.1), uj2.av, uj2.bx⟩
theorem vq3 {run' : uW2 → Option vl3} (ih : ∀ pt r, run' pt = some r → Good E Tryz.f134 uw5 0 (uj2.av r) (uj2.bx r) (uu4 pt) (vi8 pt)) : (vW0 run').Ok := fun a b r h => ub2 (fn := Tryz.f134) (code := uw5) E_ok (by kernel_rfl) (by kernel_rfl) (by kernel_rfl) (Nat.le_of_ble_eq_true rfl) (ih (.start a.1) r h)
def wq1 (r_z65 : uW1 → Option vl2) : Spec E.S := (Con.add (vV9 r_z65) ub0)
theorem v78 {r_z65 : uW1 → Option vl2} (h_z65 : ∀ pt r, r_z65 pt = some r → Good E Tryz.f97 uw4 0 (uj1.av r) (uj1.bx r) (uu3 pt) (vi7 pt)) : ua9 E (wq1 r_z65) := (Con.add_ok (vq2 h_z65) ua7)
def wq2 (r_z65 : uW1 → Option vl2) (r_z66 : uW2 → Option vl3) : Spec E.S := (Con.add (vW0 r_z66) (Con.add (vV9 r_z65) (Con.add w06 (Con.add uE3 (Con.add uR8 (Con.add uR9 ub0))))))
theorem v79 {r_z65 : uW1 → Option vl2} (h_z65 : ∀ pt r, r_z65 pt = some r → Good E Tryz.f97 uw4 0 (uj1.av r) (uj1.bx r) (uu3 pt) (vi7 pt)) {r_z66 : uW2 → Option vl3} (h_z66 : ∀ pt r, r_z66 pt = some r → Good E Tryz.f134 uw5 0 (uj2.av r) (uj2.bx r) (uu4 pt) (vi8 pt)) : ua9 E (wq2 r_z65 r_z66) := (Con.add_ok (vq3 h_z66) (Con.add_ok (vq2 h_z65) (Con.add_ok vE8 (Con.add_ok un4 (Con.add_ok uq3 (Con.add_ok uq4 ua7))))))
def wq3 (r_z64 : u49 → Option vC7) (r_z66 : uW2 → Option vl3) : Spec E.S := (Con.add (vW0 r_z66) (Con.add (w83 r_z64) ub0))
theorem v81 {r_z64 : u49 → Option vC7} (h_z64 : ∀ pt r, r_z64 pt = some r → Good E Tryz.f135 uA3 0 (ul3.av r) (ul3.bx r) (uz1 pt) (vr8 pt)) {r_z66 : uW2 → Option vl3} (h_z66 : ∀ pt r, r_z66 pt = some r → Good E Tryz.f134 uw5 0 (uj2.av r) (uj2.bx r) (uu4 pt) (vi8 pt)) : ua9 E (wq3 r_z64 r_z66) := (Con.add_ok (vq3 h_z66) (Con.add_ok (wI2 h_z64) ua7))
theorem u75 : (∀ pt r, uH5 pt = some r → Good E Tryz.f135 uA3 0 (ul3.av r) (ul3.bx r) (uz1 pt) (vr8 pt)) ∧ (∀ pt r, run_z65 pt = some r → Good E Tryz.f97 uw4 0 (uj1.av r) (uj1.bx r) (uu3 pt) (vi7 pt)) ∧ (∀ pt r, run_z66 pt = some r → Good E Tryz.f134 uw5 0 (uj2.av r) (uj2.bx r) (uu4 pt) (vi8 pt)) := by
  refine uH5.mutual_partial_correctness (fun pt r => Good E Tryz.f135 uA3 0 (ul3.av r) (ul3.bx r) (uz1 pt) (vr8 pt)) (fun pt r => Good E Tryz.f97 uw4 0 (uj1.av r) (uj1.bx r) (uu3 pt) (vi7 pt)) (fun pt r => Good E Tryz.f134 uw5 0 (uj2.av r) (uj2.bx r) (uu4 pt) (vi8 pt)) ?_ ?_ ?_
  · intro r_z65 h_z65 pt r hr
    cases pt <;> exact ua8 (spec := (wq1 r_z65)) (wr := (mkWr [] [])) (l := xk6) (z := 7) (p := ul3) (run' := fun _ => none) E_ok wQ6.mem rfl (v78 h_z65) (fun _ _ h => by cases h) (Eq.trans (by kernel_rfl) hr)
  · intro r_z65 r_z66 h_z65 h_z66 pt r hr
    cases pt <;> exact ua8 (spec := (wq2 r_z65 r_z66)) (wr := (mkWr [] [])) (l := xk7) (z := 47) (p := uj1) E_ok wQ7.mem rfl (v79 h_z65 h_z66) h_z65 (Eq.trans (by kernel_rfl) hr)
  · intro r_z64 r_z66 h_z64 h_z66 pt r hr
    cases pt <;> exact ua8 (spec := (wq3 r_z64 r_z66)) (wr := (mkWr [] [])) (l := xk8) (z := 25) (p := uj2) E_ok wQ8.mem rfl (v81 h_z64 h_z66) h_z66 (Eq.trans (by kernel_rfl) hr)
theorem xy9 : ∀ pt r, uH5 pt = some r → Good E Tryz.f135 uA3 0 (ul3.av r) (ul3.bx r) (uz1 pt) (vr8 pt) := u75.1
theorem xz0 : ∀ pt r, run_z65 pt = some r → Good E Tryz.f97 uw4 0 (uj1.av r) (uj1.bx r) (uu3 pt) (vi7 pt) := u75.2.1
theorem xz1 : ∀ pt r, run_z66 pt = some r → Good E Tryz.f134 uw5 0 (uj2.av r) (uj2.bx r) (uu4 pt) (vi8 pt) := u75.2.2
def xS1 : Con E := ⟨135, _, _, (.cons (Rd.int .i64).w (.cons (Rw.agg (.cons Rd.str.w (.cons (Rd.int .i64).w (.cons (Rw.sl 37) .nil)))) .nil)), .nil, 0, vC7, fun a b => uH5 (.start a.1 a.2.1.1 a.2.1.2.1 a.2.1.2.2.1), ul3.av, ul3.bx⟩
theorem xZ1 : xS1.Ok := fun a b r h => ub2 (fn := Tryz.f135) (code := uA3) E_ok (by kernel_rfl) (by kernel_rfl) (by kernel_rfl) (Nat.le_of_ble_eq_true rfl) (xy9 (.start a.1 a.2.1.1 a.2.1.2.1 a.2.1.2.2.1) r h)
def w10 : Con E := ⟨97, _, _, (.cons (Rw.agg (.cons Rd.str.w (.cons (Rd.int .i64).w (.cons (Rw.sl 37) .nil)))) .nil), .nil, 0, vl2, fun a b => run_z65 (.start a.1.1 a.1.2.1 a.1.2.2.1), uj1.av, uj1.bx⟩
theorem wD2 : w10.Ok := fun a b r h => ub2 (fn := Tryz.f97) (code := uw4) E_ok (by kernel_rfl) (by kernel_rfl) (by kernel_rfl) (Nat.le_of_ble_eq_true rfl) (xz0 (.start a.1.1 a.1.2.1 a.1.2.2.1) r h)
def xS2 : Con E := ⟨134, _, _, (.cons (Rw.sl 37) (.cons (Rd.fn 135 .nil).w .nil)), .nil, 0, vl3, fun a b => run_z66 (.start a.1), uj2.av, uj2.bx⟩
theorem xZ2 : xS2.Ok := fun a b r h => ub2 (fn := Tryz.f134) (code := uw5) E_ok (by kernel_rfl) (by kernel_rfl) (by kernel_rfl) (Nat.le_of_ble_eq_true rfl) (xz1 (.start a.1) r h)
inductive vk2 where
 | start (v0_0 : ByteArray) (v0_1 : Int) (v0_2 : (List ua4))
 | p500 (s19 : (List ua4)) (s20 : Int) (s21 : Int) (C0 : ByteArray) (C1 : Int) (C2 : (List ua4)) (B1 : (List ByteArray))
def uF8 : vk2 → List Bool
 | .start .. => []
 | .p500 .. => [false, false, true, false, true, true, true, true]
def vO8 : vk2 → St E.S
 | .start v0_0 v0_1 v0_2 => st0 38 [.agg [.v (.string v0_0), .v (.int .i64 v0_1), .sl 37 v0_2 false]] []
 | .p500 s19 s20 s21 C0 C1 C2 B1 => mkSt 38 [1, 3, 19, 20, 21] [.bp 0 0, .rw 1, .sl 37 s19 false, .v (.int .i64 s20), .v (.int .i64 s21)] [.var 37 [.v (.string C0), .v (.int .i64 C1), .sl 37 C2 false], .row 9 B1 false]
abbrev vC8 : Type := ((ByteArray × Unit) × Unit)
def uo5 : Res E (ByteArray × Unit) Unit := { rows := [], flat := [], keep := 0, done := [0], rl := (.cons Rd.str .nil), rb := .nil }
def uD1 : vk2 → Option vC8
 | .start v0_0 v0_1 v0_2 =>
  if (seq v0_0 (⟨#[]⟩ : ByteArray)) = true then
   (u79 (v0_1, ()) ()) >>= fun t1 =>
   some ((t1.1.1, ()), ())
  else
   if ((List.length v0_2 : Int) == (0 : Int)) = true then
    some ((v0_0, ()), ())
   else
    uD1 (.p500 v0_2 (List.length v0_2 : Int) (0 : Int) v0_0 v0_1 v0_2 ([] : List ByteArray))
 | .p500 s19 s20 s21 C0 C1 C2 B1 =>
  if (decide (s21 < s20)) = true then
   (idx s19 s21) >>= fun t1 =>
   (uD1 (.start t1.Name t1.Number t1.Parts)) >>= fun t2 =>
   if (fits (List.length B1) (List.length ([t2.1.1] : List ByteArray)) 16) = true then
    uD1 (.p500 s19 s20 (IntKind.wrap .i64 (s21 + (1 : Int))) C0 C1 C2 (B1 ++ ([t2.1.1] : List ByteArray)))
   else none
  else
   if (Nat.ble (C0.size + (⟨#[40]⟩ : ByteArray).size) 9223372036854775807) = true then
    (uN1 (B1, (⟨#[44, 32]⟩ : ByteArray), ()) ()) >>= fun t3 =>
    if (Nat.ble ((C0 ++ (⟨#[40]⟩ : ByteArray)).size + t3.1.1.size) 9223372036854775807) = true then
     if (Nat.ble (((C0 ++ (⟨#[40]⟩ : ByteArray)) ++ t3.1.1).size + (⟨#[41]⟩ : ByteArray).size) 9223372036854775807) = true then
      some ((((C0 ++ (⟨#[40]⟩ : ByteArray)) ++ t3.1.1) ++ (⟨#[41]⟩ : ByteArray), ()), ())
     else none
    else none
   else none
 partial_fixpoint
def xk9 : List (Plc E vk2) := [⟨500, [false, false, true, false, true, true, true, true], { slots := [1, 3, 19, 20, 21], rows := [(3, 9)], flat := [], keep := 0 }, _, _, (.cons (Rd.bp 0 0) (.cons (Rd.rw 1) (.cons (Rd.sl 37 false) (.cons (Rd.int .i64) (.cons (Rd.int .i64) .nil))))), (.cons (.var 37 (.cons Rd.str (.cons (Rd.int .i64) (.cons (Rd.sl 37 false) .nil)))) (.cons (.row 9 false) .nil)), fun a b => .p500 a.2.2.1 a.2.2.2.1 a.2.2.2.2.1 b.1.1 b.1.2.1 b.1.2.2.1 b.2.1⟩]
theorem wQ9 : All (ub7 38 0 uF8 vO8) xk9 := ⟨⟨rfl, rfl, fun _ _ => rfl, fun _ _ => rfl⟩, trivial⟩
def uI5 : Code := Tryz.f98.body.getD .skip
def w84 (run' : vk2 → Option vC8) : Con E := ⟨98, ((ByteArray × (Int × ((List ua4) × Unit))) × Unit), Unit, (RwL.cons (Rw.agg (RwL.cons Rd.str.w (RwL.cons (Rd.int .i64).w (RwL.cons (Rw.sl 37) RwL.nil)))) RwL.nil), RdBL.nil, 0, vC8, fun a b => run' (.start a.1.1 a.1.2.1 a.1.2.2.1), uo5.av, uo5.bx⟩
theorem wI3 {run' : vk2 → Option vC8} (ih : ∀ pt r, run' pt = some r → Good E Tryz.f98 uI5 0 (uo5.av r) (uo5.bx r) (uF8 pt) (vO8 pt)) : (w84 run').Ok := fun a b r h => ub2 (fn := Tryz.f98) (code := uI5) E_ok (by kernel_rfl) (by kernel_rfl) (by kernel_rfl) (Nat.le_of_ble_eq_true rfl) (ih (.start a.1.1 a.1.2.1 a.1.2.2.1) r h)
def wq4 (run' : vk2 → Option vC8) : Spec E.S := (Con.add (w84 run') (Con.add ur1 (Con.add ur0 ub0)))
theorem v82 {run' : vk2 → Option vC8} (ih : ∀ pt r, run' pt = some r → Good E Tryz.f98 uI5 0 (uo5.av r) (uo5.bx r) (uF8 pt) (vO8 pt)) : ua9 E (wq4 run') := (Con.add_ok (wI3 ih) (Con.add_ok ut4 (Con.add_ok ut3 ua7)))
theorem xz2 : ∀ pt r, uD1 pt = some r → Good E Tryz.f98 uI5 0 (uo5.av r) (uo5.bx r) (uF8 pt) (vO8 pt) := by
 refine uD1.partial_correctness (fun pt r => Good E Tryz.f98 uI5 0 (uo5.av r) (uo5.bx r) (uF8 pt) (vO8 pt)) ?_
 intro run' ih pt r hr
 cases pt <;> exact ua8 (spec := (wq4 run')) (wr := (mkWr [] [])) (l := xk9) (z := 38) (p := uo5) E_ok wQ9.mem rfl (v82 ih) ih (Eq.trans (by kernel_rfl) hr)
def w11 : Con E := ⟨98, _, _, (.cons (Rw.agg (.cons Rd.str.w (.cons (Rd.int .i64).w (.cons (Rw.sl 37) .nil)))) .nil), .nil, 0, vC8, fun a b => uD1 (.start a.1.1 a.1.2.1 a.1.2.2.1), uo5.av, uo5.bx⟩
theorem wD3 : w11.Ok := fun a b r h => ub2 (fn := Tryz.f98) (code := uI5) E_ok (by kernel_rfl) (by kernel_rfl) (by kernel_rfl) (Nat.le_of_ble_eq_true rfl) (xz2 (.start a.1.1 a.1.2.1 a.1.2.2.1) r h)
inductive wy5 where
 | start (v0_0 : ByteArray) (v0_1 : Int) (v0_2 : (List ua4))
def vJ6 : wy5 → List Bool
 | .start .. => []
def xK7 : wy5 → St E.S
 | .start v0_0 v0_1 v0_2 => st0 18 [.agg [.v (.string v0_0), .v (.int .i64 v0_1), .sl 37 v0_2 false]] []
abbrev xQ8 : Type := ((ByteArray × (Int × Unit)) × Unit)
def ve0 : Res E (ByteArray × (Int × Unit)) Unit := { rows := [], flat := [], keep := 0, done := [0, 1], rl := (.cons Rd.str (.cons (Rd.int .i64) .nil)), rb := .nil }
def vh0 : wy5 → Option xQ8
 | .start v0_0 v0_1 v0_2 =>
  (u00 (.start v0_0 v0_1 v0_2)) >>= fun t1 =>
  if (t1.1.1 != (0 : Int)) = true then
   some (((⟨#[]⟩ : ByteArray), (t1.1.1, ())), ())
  else
   (run_z65 (.start v0_0 v0_1 v0_2)) >>= fun t2 =>
   if (t2.1.1 != (0 : Int)) = true then
    some (((⟨#[]⟩ : ByteArray), (t2.1.1, ())), ())
   else
    (uD1 (.start v0_0 v0_1 v0_2)) >>= fun t3 =>
    some ((t3.1.1, ((0 : Int), ())), ())
def xl0 : List (Plc E wy5) := []
theorem wR0 : All (ub7 18 0 vJ6 xK7) xl0 := trivial
def wg4 : Code := Tryz.f54.body.getD .skip
def wq5 : Spec E.S := (Con.add w11 (Con.add w10 (Con.add vS5 ub0)))
theorem v83 : ua9 E wq5 := (Con.add_ok wD3 (Con.add_ok wD2 (Con.add_ok vn3 ua7)))
theorem xz3 : ∀ pt r, vh0 pt = some r → Good E Tryz.f54 wg4 0 (ve0.av r) (ve0.bx r) (vJ6 pt) (xK7 pt) := by
 intro pt r hr
 cases pt <;> exact ua8 (spec := wq5) (wr := (mkWr [] [])) (l := xl0) (z := 18) (p := ve0) (run' := fun _ => none) E_ok wR0.mem rfl v83 (fun _ _ h => by cases h) (Eq.trans (by kernel_rfl) hr)
def w12 : Con E := ⟨54, _, _, (.cons (Rw.agg (.cons Rd.str.w (.cons (Rd.int .i64).w (.cons (Rw.sl 37) .nil)))) .nil), .nil, 0, xQ8, fun a b => vh0 (.start a.1.1 a.1.2.1 a.1.2.2.1), ve0.av, ve0.bx⟩
theorem wD4 : w12.Ok := fun a b r h => ub2 (fn := Tryz.f54) (code := wg4) E_ok (by kernel_rfl) (by kernel_rfl) (by kernel_rfl) (Nat.le_of_ble_eq_true rfl) (xz3 (.start a.1.1 a.1.2.1 a.1.2.2.1) r h)
inductive vk3 where
 | start (a0_0 : ByteArray) (a0_1 : Int) (a0_2 : (List ua4)) (b1_0 : ByteArray) (b1_1 : Int) (b1_2 : (List ua4))
 | p7 (C0 : ByteArray) (C1 : Int) (C2 : (List ua4)) (D0 : ByteArray) (D1 : Int) (D2 : (List ua4))
 | p116 (i5 : Int) (C0 : ByteArray) (C1 : Int) (C2 : (List ua4)) (D0 : ByteArray) (D1 : Int) (D2 : (List ua4))
def uF9 : vk3 → List Bool
 | .start .. => []
 | .p7 .. => [true, true]
 | .p116 .. => [false, false, true, false, true, true]
def vO9 : vk3 → St E.S
 | .start a0_0 a0_1 a0_2 b1_0 b1_1 b1_2 => st0 46 [.agg [.v (.string a0_0), .v (.int .i64 a0_1), .sl 37 a0_2 false], .agg [.v (.string b1_0), .v (.int .i64 b1_1), .sl 37 b1_2 false]] []
 | .p7 C0 C1 C2 D0 D1 D2 => mkSt 46 [2, 3] [.bp 0 0, .bp 1 0] [.var 37 [.v (.string C0), .v (.int .i64 C1), .sl 37 C2 false], .var 37 [.v (.string D0), .v (.int .i64 D1), .sl 37 D2 false]]
 | .p116 i5 C0 C1 C2 D0 D1 D2 => mkSt 46 [2, 3, 5] [.bp 0 0, .bp 1 0, .v (.int .i64 i5)] [.var 37 [.v (.string C0), .v (.int .i64 C1), .sl 37 C2 false], .var 37 [.v (.string D0), .v (.int .i64 D1), .sl 37 D2 false]]
abbrev vC9 : Type := ((Bool × Unit) × Unit)
def uo6 : Res E (Bool × Unit) Unit := { rows := [], flat := [], keep := 0, done := [0], rl := (.cons Rd.bool .nil), rb := .nil }
def ux8 : vk3 → Option vC9
 | .start a0_0 a0_1 a0_2 b1_0 b1_1 b1_2 =>
  if (!(seq a0_0 b1_0)) = true then
   some ((false, ()), ())
  else
   if (a0_1 != b1_1) = true then
    some ((false, ()), ())
   else
    if ((List.length a0_2 : Int) != (List.length b1_2 : Int)) = true then
     some ((false, ()), ())
    else
     ux8 (.p7 a0_0 a0_1 a0_2 b1_0 b1_1 b1_2)
 | .p7 C0 C1 C2 D0 D1 D2 =>
  ux8 (.p116 (0 : Int) C0 C1 C2 D0 D1 D2)
 | .p116 i5 C0 C1 C2 D0 D1 D2 =>
  if (decide (i5 < (List.length C2 : Int))) = true then
   (idx C2 i5) >>= fun t1 =>
   (idx D2 i5) >>= fun t2 =>
   (ux8 (.start t1.Name t1.Number t1.Parts t2.Name t2.Number t2.Parts)) >>= fun t3 =>
   if (!t3.1.1) = true then
    some ((false, ()), ())
   else
    ux8 (.p116 (IntKind.wrap .i64 (i5 + (1 : Int))) C0 C1 C2 D0 D1 D2)
  else
   some ((true, ()), ())
 partial_fixpoint
def xl1 : List (Plc E vk3) := [⟨7, [true, true], { slots := [2, 3], rows := [], flat := [], keep := 0 }, _, _, (.cons (Rd.bp 0 0) (.cons (Rd.bp 1 0) .nil)), (.cons (.var 37 (.cons Rd.str (.cons (Rd.int .i64) (.cons (Rd.sl 37 false) .nil)))) (.cons (.var 37 (.cons Rd.str (.cons (Rd.int .i64) (.cons (Rd.sl 37 false) .nil)))) .nil)), fun a b => .p7 b.1.1 b.1.2.1 b.1.2.2.1 b.2.1.1 b.2.1.2.1 b.2.1.2.2.1⟩,
 ⟨116, [false, false, true, false, true, true], { slots := [2, 3, 5], rows := [], flat := [], keep := 0 }, _, _, (.cons (Rd.bp 0 0) (.cons (Rd.bp 1 0) (.cons (Rd.int .i64) .nil))), (.cons (.var 37 (.cons Rd.str (.cons (Rd.int .i64) (.cons (Rd.sl 37 false) .nil)))) (.cons (.var 37 (.cons Rd.str (.cons (Rd.int .i64) (.cons (Rd.sl 37 false) .nil)))) .nil)), fun a b => .p116 a.2.2.1 b.1.1 b.1.2.1 b.1.2.2.1 b.2.1.1 b.2.1.2.1 b.2.1.2.2.1⟩]
theorem wR1 : All (ub7 46 0 uF9 vO9) xl1 := ⟨⟨rfl, rfl, fun _ _ => rfl, fun _ _ => rfl⟩, ⟨⟨rfl, rfl, fun _ _ => rfl, fun _ _ => rfl⟩, trivial⟩⟩
def uI6 : Code := Tryz.f34.body.getD .skip
def w85 (run' : vk3 → Option vC9) : Con E := ⟨34, ((ByteArray × (Int × ((List ua4) × Unit))) × ((ByteArray × (Int × ((List ua4) × Unit))) × Unit)), Unit, (RwL.cons (Rw.agg (RwL.cons Rd.str.w (RwL.cons (Rd.int .i64).w (RwL.cons (Rw.sl 37) RwL.nil)))) (RwL.cons (Rw.agg (RwL.cons Rd.str.w (RwL.cons (Rd.int .i64).w (RwL.cons (Rw.sl 37) RwL.nil)))) RwL.nil)), RdBL.nil, 0, vC9, fun a b => run' (.start a.1.1 a.1.2.1 a.1.2.2.1 a.2.1.1 a.2.1.2.1 a.2.1.2.2.1), uo6.av, uo6.bx⟩
theorem wI4 {run' : vk3 → Option vC9} (ih : ∀ pt r, run' pt = some r → Good E Tryz.f34 uI6 0 (uo6.av r) (uo6.bx r) (uF9 pt) (vO9 pt)) : (w85 run').Ok := fun a b r h => ub2 (fn := Tryz.f34) (code := uI6) E_ok (by kernel_rfl) (by kernel_rfl) (by kernel_rfl) (Nat.le_of_ble_eq_true rfl) (ih (.start a.1.1 a.1.2.1 a.1.2.2.1 a.2.1.1 a.2.1.2.1 a.2.1.2.2.1) r h)
def wq6 (run' : vk3 → Option vC9) : Spec E.S := (Con.add (w85 run') ub0)
theorem v84 {run' : vk3 → Option vC9} (ih : ∀ pt r, run' pt = some r → Good E Tryz.f34 uI6 0 (uo6.av r) (uo6.bx r) (uF9 pt) (vO9 pt)) : ua9 E (wq6 run') := (Con.add_ok (wI4 ih) ua7)
theorem xz4 : ∀ pt r, ux8 pt = some r → Good E Tryz.f34 uI6 0 (uo6.av r) (uo6.bx r) (uF9 pt) (vO9 pt) := by
 refine ux8.partial_correctness (fun pt r => Good E Tryz.f34 uI6 0 (uo6.av r) (uo6.bx r) (uF9 pt) (vO9 pt)) ?_
 intro run' ih pt r hr
 cases pt <;> exact ua8 (spec := (wq6 run')) (wr := (mkWr [] [])) (l := xl1) (z := 46) (p := uo6) E_ok wR1.mem rfl (v84 ih) ih (Eq.trans (by kernel_rfl) hr)
def w13 : Con E := ⟨34, _, _, (.cons (Rw.agg (.cons Rd.str.w (.cons (Rd.int .i64).w (.cons (Rw.sl 37) .nil)))) (.cons (Rw.agg (.cons Rd.str.w (.cons (Rd.int .i64).w (.cons (Rw.sl 37) .nil)))) .nil)), .nil, 0, vC9, fun a b => ux8 (.start a.1.1 a.1.2.1 a.1.2.2.1 a.2.1.1 a.2.1.2.1 a.2.1.2.2.1), uo6.av, uo6.bx⟩
theorem wD5 : w13.Ok := fun a b r h => ub2 (fn := Tryz.f34) (code := uI6) E_ok (by kernel_rfl) (by kernel_rfl) (by kernel_rfl) (Nat.le_of_ble_eq_true rfl) (xz4 (.start a.1.1 a.1.2.1 a.1.2.2.1 a.2.1.1 a.2.1.2.1 a.2.1.2.2.1) r h)
inductive wy6 where
 | start
def vJ7 : wy6 → List Bool
 | .start => []
def xK8 : wy6 → St E.S
 | .start => st0 95 [] []
abbrev xQ9 : Type := ((Bool × Unit) × Unit)
def ve1 : Res E (Bool × Unit) Unit := { rows := [], flat := [], keep := 0, done := [0], rl := (.cons Rd.bool .nil), rb := .nil }
def u02 : wy6 → Option xQ9
 | .start =>
  (u16 .start) >>= fun t1 =>
  (vg4 (.start (3 : Int))) >>= fun t2 =>
  (uD7 (.start (⟨#[77, 97, 121, 98, 101]⟩ : ByteArray) ([(⟨t2.1.1.1, t2.1.1.2.1, t2.1.1.2.2.1, t2.1.1.2.2.2.1⟩ : ua1)] : List ua1))) >>= fun t3 =>
  (vg5 (.start t1.1.1 t3.1.1.1 t3.1.1.2.1 t3.1.1.2.2.1 t3.1.1.2.2.2.1)) >>= fun t4 =>
  (u16 .start) >>= fun t5 =>
  (vg4 (.start (2 : Int))) >>= fun t6 =>
  (uD7 (.start (⟨#[67, 111, 108, 111, 114]⟩ : ByteArray) ([]))) >>= fun t7 =>
  (uD7 (.start (⟨#[80, 97, 105, 114]⟩ : ByteArray) ([(⟨t6.1.1.1, t6.1.1.2.1, t6.1.1.2.2.1, t6.1.1.2.2.2.1⟩ : ua1), (⟨t7.1.1.1, t7.1.1.2.1, t7.1.1.2.2.1, t7.1.1.2.2.2.1⟩ : ua1)] : List ua1))) >>= fun t8 =>
  (uu7 (.start (⟨#[66, 108, 117, 101]⟩ : ByteArray) ([]))) >>= fun t9 =>
  (uu7 (.start (⟨#[80, 97, 105, 114]⟩ : ByteArray) ([(⟨(⟨#[]⟩ : ByteArray), (3 : Int), []⟩ : ua4), (⟨t9.1.1.1, t9.1.1.2.1, t9.1.1.2.2.1⟩ : ua4)] : List ua4))) >>= fun t10 =>
  (vg7 (.start t5.1.1 t8.1.1.1 t8.1.1.2.1 t8.1.1.2.2.1 t8.1.1.2.2.2.1 t10.1.1.1 t10.1.1.2.1 t10.1.1.2.2.1)) >>= fun t11 =>
  (u16 .start) >>= fun t12 =>
  (vg4 (.start (3 : Int))) >>= fun t13 =>
  (uD7 (.start (⟨#[77, 97, 121, 98, 101]⟩ : ByteArray) ([(⟨t13.1.1.1, t13.1.1.2.1, t13.1.1.2.2.1, t13.1.1.2.2.2.1⟩ : ua1)] : List ua1))) >>= fun t14 =>
  (vg8 (.start t12.1.1 t14.1.1.1 t14.1.1.2.1 t14.1.1.2.2.1 t14.1.1.2.2.2.1 (5 : Int))) >>= fun t15 =>
  (u16 .start) >>= fun t16 =>
  (uD7 (.start (⟨#[67, 111, 108, 111, 114]⟩ : ByteArray) ([]))) >>= fun t17 =>
  (uD7 (.start (⟨#[66, 111, 111, 108]⟩ : ByteArray) ([]))) >>= fun t18 =>
  (uD7 (.start (⟨#[80, 97, 105, 114]⟩ : ByteArray) ([(⟨t17.1.1.1, t17.1.1.2.1, t17.1.1.2.2.1, t17.1.1.2.2.2.1⟩ : ua1), (⟨t18.1.1.1, t18.1.1.2.1, t18.1.1.2.2.1, t18.1.1.2.2.2.1⟩ : ua1)] : List ua1))) >>= fun t19 =>
  (vg9 (.start t16.1.1 t19.1.1.1 t19.1.1.2.1 t19.1.1.2.2.1 t19.1.1.2.2.2.1 (3 : Int))) >>= fun t20 =>
  (uu7 (.start (⟨#[66, 108, 117, 101]⟩ : ByteArray) ([]))) >>= fun t21 =>
  (uu7 (.start (⟨#[80, 97, 105, 114]⟩ : ByteArray) ([(⟨(⟨#[]⟩ : ByteArray), (3 : Int), []⟩ : ua4), (⟨t21.1.1.1, t21.1.1.2.1, t21.1.1.2.2.1⟩ : ua4)] : List ua4))) >>= fun t22 =>
  (vh0 (.start t22.1.1.1 t22.1.1.2.1 t22.1.1.2.2.1)) >>= fun t23 =>
  if (t4.1.2.1 == (0 : Int)) = true then
   if (t4.1.1 == (4 : Int)) = true then
    if (t11.1.2.1 == (0 : Int)) = true then
     if (t11.1.1 == (14 : Int)) = true then
      if (t15.1.2.1 == (3 : Int)) = true then
       if (t20.1.2.1 == (0 : Int)) = true then
        (uu7 (.start (⟨#[71, 114, 101, 101, 110]⟩ : ByteArray) ([]))) >>= fun t24 =>
        (uu7 (.start (⟨#[84, 114, 117, 101]⟩ : ByteArray) ([]))) >>= fun t25 =>
        (uu7 (.start (⟨#[80, 97, 105, 114]⟩ : ByteArray) ([(⟨t24.1.1.1, t24.1.1.2.1, t24.1.1.2.2.1⟩ : ua4), (⟨t25.1.1.1, t25.1.1.2.1, t25.1.1.2.2.1⟩ : ua4)] : List ua4))) >>= fun t26 =>
        (ux8 (.start t20.1.1.1 t20.1.1.2.1 t20.1.1.2.2.1 t26.1.1.1 t26.1.1.2.1 t26.1.1.2.2.1)) >>= fun t27 =>
        if t27.1.1 = true then
         if (t23.1.2.1 == (0 : Int)) = true then
          some ((seq t23.1.1 (⟨#[80, 97, 105, 114, 40, 51, 44, 32, 66, 108, 117, 101, 41]⟩ : ByteArray), ()), ())
         else
          some ((false, ()), ())
        else
         some ((false, ()), ())
       else
        some ((false, ()), ())
      else
       some ((false, ()), ())
     else
      some ((false, ()), ())
    else
     some ((false, ()), ())
   else
    some ((false, ()), ())
  else
   some ((false, ()), ())
def xl3 : List (Plc E wy6) := []
theorem wR2 : All (ub7 95 0 vJ7 xK8) xl3 := trivial
def wg5 : Code := Tryz.f10.body.getD .skip
def wq7 : Spec E.S := (Con.add w13 (Con.add w12 (Con.add w09 (Con.add w05 (Con.add w03 (Con.add wZ5 (Con.add wZ4 (Con.add wX7 (Con.add xG9 (Con.add xG7 ub0))))))))))
theorem v86 : ua9 E wq7 := (Con.add_ok wD5 (Con.add_ok wD4 (Con.add_ok wD1 (Con.add_ok wC8 (Con.add_ok wC6 (Con.add_ok wB8 (Con.add_ok wB7 (Con.add_ok vE6 (Con.add_ok wZ1 (Con.add_ok wW9 ua7))))))))))
theorem xz5 : ∀ pt r, u02 pt = some r → Good E Tryz.f10 wg5 0 (ve1.av r) (ve1.bx r) (vJ7 pt) (xK8 pt) := by
 intro pt r hr
 cases pt <;> exact ua8 (spec := wq7) (wr := (mkWr [] [])) (l := xl3) (z := 95) (p := ve1) (run' := fun _ => none) E_ok wR2.mem rfl v86 (fun _ _ h => by cases h) (Eq.trans (by kernel_rfl) hr)
def w14 : Con E := ⟨10, _, _, .nil, .nil, 0, xQ9, fun a b => u02 (.start), ve1.av, ve1.bx⟩
theorem wD6 : w14.Ok := fun a b r h => ub2 (fn := Tryz.f10) (code := wg5) E_ok (by kernel_rfl) (by kernel_rfl) (by kernel_rfl) (Nat.le_of_ble_eq_true rfl) (xz5 (.start) r h)
inductive vB0 where
 | start (t0_0 : Int) (t0_1 : Int) (t0_2 : ByteArray) (t0_3 : (List ua1)) (depth1 : Int) (count2 : Int)
 | p15 (depth1 : Int) (count2 : Int) (C0 : Int) (C1 : Int) (C2 : ByteArray) (C3 : (List ua1))
 | p244 (depth1 : Int) (count2 : Int) (i7 : Int) (C0 : Int) (C1 : Int) (C2 : ByteArray) (C3 : (List ua1))
 | p489 (depth1 : Int) (count2 : Int) (i7 : Int) (C0 : Int) (C1 : Int) (C2 : ByteArray) (C3 : (List ua1))
def uG0 : vB0 → List Bool
 | .start .. => []
 | .p15 .. => [true, true, true]
 | .p244 .. => [false, false, true, false, true, true, true]
 | .p489 .. => [true, false, false, true, false, true, true, true]
def vP0 : vB0 → St E.S
 | .start t0_0 t0_1 t0_2 t0_3 depth1 count2 => st0 43 [.agg [.v (.int .i64 t0_0), .v (.int .i64 t0_1), .v (.string t0_2), .sl 25 t0_3 false], .v (.int .i64 depth1), .v (.int .i64 count2)] []
 | .p15 depth1 count2 C0 C1 C2 C3 => mkSt 43 [1, 2, 3] [.v (.int .i64 depth1), .v (.int .i64 count2), .bp 0 0] [.var 25 [.v (.int .i64 C0), .v (.int .i64 C1), .v (.string C2), .sl 25 C3 false]]
 | .p244 depth1 count2 i7 C0 C1 C2 C3 => mkSt 43 [1, 2, 3, 7] [.v (.int .i64 depth1), .v (.int .i64 count2), .bp 0 0, .v (.int .i64 i7)] [.var 25 [.v (.int .i64 C0), .v (.int .i64 C1), .v (.string C2), .sl 25 C3 false]]
 | .p489 depth1 count2 i7 C0 C1 C2 C3 => mkSt 43 [1, 2, 3, 7] [.v (.int .i64 depth1), .v (.int .i64 count2), .bp 0 0, .v (.int .i64 i7)] [.var 25 [.v (.int .i64 C0), .v (.int .i64 C1), .v (.string C2), .sl 25 C3 false]]
abbrev vP9 : Type := ((Int × Unit) × Unit)
def uo7 : Res E (Int × Unit) Unit := { rows := [], flat := [], keep := 0, done := [0], rl := (.cons (Rd.int .i64) .nil), rb := .nil }
def uh7 : vB0 → Option vP9
 | .start t0_0 t0_1 t0_2 t0_3 depth1 count2 =>
  if (decide (depth1 > (40 : Int))) = true then
   some (((201 : Int), ()), ())
  else
   if (decide ((IntKind.wrap .i64 (count2 + (1 : Int))) > (200 : Int))) = true then
    some (((201 : Int), ()), ())
   else
    if (decide ((List.length t0_3 : Int) > (200 : Int))) = true then
     some (((201 : Int), ()), ())
    else
     uh7 (.p15 depth1 (IntKind.wrap .i64 (count2 + (1 : Int))) t0_0 t0_1 t0_2 t0_3)
 | .p15 depth1 count2 C0 C1 C2 C3 =>
  uh7 (.p244 depth1 count2 (0 : Int) C0 C1 C2 C3)
 | .p244 depth1 count2 i7 C0 C1 C2 C3 =>
  if (decide (i7 < (List.length C3 : Int))) = true then
   if (decide (count2 ≤ (200 : Int))) = true then
    uh7 (.p489 depth1 count2 i7 C0 C1 C2 C3)
   else
    some ((count2, ()), ())
  else
   some ((count2, ()), ())
 | .p489 depth1 count2 i7 C0 C1 C2 C3 =>
  (idx C3 i7) >>= fun t1 =>
  (uh7 (.start t1.Kind t1.Value t1.Name t1.Parts (IntKind.wrap .i64 (depth1 + (1 : Int))) count2)) >>= fun t2 =>
  uh7 (.p244 depth1 t2.1.1 (IntKind.wrap .i64 (i7 + (1 : Int))) C0 C1 C2 C3)
 partial_fixpoint
def xl4 : List (Plc E vB0) := [⟨15, [true, true, true], { slots := [1, 2, 3], rows := [], flat := [], keep := 0 }, _, _, (.cons (Rd.int .i64) (.cons (Rd.int .i64) (.cons (Rd.bp 0 0) .nil))), (.cons (.var 25 (.cons (Rd.int .i64) (.cons (Rd.int .i64) (.cons Rd.str (.cons (Rd.sl 25 false) .nil))))) .nil), fun a b => .p15 a.1 a.2.1 b.1.1 b.1.2.1 b.1.2.2.1 b.1.2.2.2.1⟩,
 ⟨244, [false, false, true, false, true, true, true], { slots := [1, 2, 3, 7], rows := [], flat := [], keep := 0 }, _, _, (.cons (Rd.int .i64) (.cons (Rd.int .i64) (.cons (Rd.bp 0 0) (.cons (Rd.int .i64) .nil)))), (.cons (.var 25 (.cons (Rd.int .i64) (.cons (Rd.int .i64) (.cons Rd.str (.cons (Rd.sl 25 false) .nil))))) .nil), fun a b => .p244 a.1 a.2.1 a.2.2.2.1 b.1.1 b.1.2.1 b.1.2.2.1 b.1.2.2.2.1⟩,
 ⟨489, [true, false, false, true, false, true, true, true], { slots := [1, 2, 3, 7], rows := [], flat := [], keep := 0 }, _, _, (.cons (Rd.int .i64) (.cons (Rd.int .i64) (.cons (Rd.bp 0 0) (.cons (Rd.int .i64) .nil)))), (.cons (.var 25 (.cons (Rd.int .i64) (.cons (Rd.int .i64) (.cons Rd.str (.cons (Rd.sl 25 false) .nil))))) .nil), fun a b => .p489 a.1 a.2.1 a.2.2.2.1 b.1.1 b.1.2.1 b.1.2.2.1 b.1.2.2.2.1⟩]
theorem wR3 : All (ub7 43 0 uG0 vP0) xl4 := ⟨⟨rfl, rfl, fun _ _ => rfl, fun _ _ => rfl⟩, ⟨⟨rfl, rfl, fun _ _ => rfl, fun _ _ => rfl⟩, ⟨⟨rfl, rfl, fun _ _ => rfl, fun _ _ => rfl⟩, trivial⟩⟩⟩
def uI7 : Code := Tryz.f102.body.getD .skip
def w86 (run' : vB0 → Option vP9) : Con E := ⟨102, ((Int × (Int × (ByteArray × ((List ua1) × Unit)))) × (Int × (Int × Unit))), Unit, (RwL.cons (Rw.agg (RwL.cons (Rd.int .i64).w (RwL.cons (Rd.int .i64).w (RwL.cons Rd.str.w (RwL.cons (Rw.sl 25) RwL.nil))))) (RwL.cons (Rd.int .i64).w (RwL.cons (Rd.int .i64).w RwL.nil))), RdBL.nil, 0, vP9, fun a b => run' (.start a.1.1 a.1.2.1 a.1.2.2.1 a.1.2.2.2.1 a.2.1 a.2.2.1), uo7.av, uo7.bx⟩
theorem wI5 {run' : vB0 → Option vP9} (ih : ∀ pt r, run' pt = some r → Good E Tryz.f102 uI7 0 (uo7.av r) (uo7.bx r) (uG0 pt) (vP0 pt)) : (w86 run').Ok := fun a b r h => ub2 (fn := Tryz.f102) (code := uI7) E_ok (by kernel_rfl) (by kernel_rfl) (by kernel_rfl) (Nat.le_of_ble_eq_true rfl) (ih (.start a.1.1 a.1.2.1 a.1.2.2.1 a.1.2.2.2.1 a.2.1 a.2.2.1) r h)
def wq8 (run' : vB0 → Option vP9) : Spec E.S := (Con.add (w86 run') ub0)
theorem v87 {run' : vB0 → Option vP9} (ih : ∀ pt r, run' pt = some r → Good E Tryz.f102 uI7 0 (uo7.av r) (uo7.bx r) (uG0 pt) (vP0 pt)) : ua9 E (wq8 run') := (Con.add_ok (wI5 ih) ua7)
theorem xz6 : ∀ pt r, uh7 pt = some r → Good E Tryz.f102 uI7 0 (uo7.av r) (uo7.bx r) (uG0 pt) (vP0 pt) := by
 refine uh7.partial_correctness (fun pt r => Good E Tryz.f102 uI7 0 (uo7.av r) (uo7.bx r) (uG0 pt) (vP0 pt)) ?_
 intro run' ih pt r hr
 cases pt <;> exact ua8 (spec := (wq8 run')) (wr := (mkWr [] [])) (l := xl4) (z := 43) (p := uo7) E_ok wR3.mem rfl (v87 ih) ih (Eq.trans (by kernel_rfl) hr)
def w15 : Con E := ⟨102, _, _, (.cons (Rw.agg (.cons (Rd.int .i64).w (.cons (Rd.int .i64).w (.cons Rd.str.w (.cons (Rw.sl 25) .nil))))) (.cons (Rd.int .i64).w (.cons (Rd.int .i64).w .nil))), .nil, 0, vP9, fun a b => uh7 (.start a.1.1 a.1.2.1 a.1.2.2.1 a.1.2.2.2.1 a.2.1 a.2.2.1), uo7.av, uo7.bx⟩
theorem wD7 : w15.Ok := fun a b r h => ub2 (fn := Tryz.f102) (code := uI7) E_ok (by kernel_rfl) (by kernel_rfl) (by kernel_rfl) (Nat.le_of_ble_eq_true rfl) (xz6 (.start a.1.1 a.1.2.1 a.1.2.2.1 a.1.2.2.2.1 a.2.1 a.2.2.1) r h)
inductive xp3 where
 | start (t0_0 : Int) (t0_1 : Int) (t0_2 : ByteArray) (t0_3 : (List ua1))
def vJ8 : xp3 → List Bool
 | .start .. => []
def xK9 : xp3 → St E.S
 | .start t0_0 t0_1 t0_2 t0_3 => st0 6 [.agg [.v (.int .i64 t0_0), .v (.int .i64 t0_1), .v (.string t0_2), .sl 25 t0_3 false]] []
abbrev xZ9 : Type := ((Bool × Unit) × Unit)
def ve2 : Res E (Bool × Unit) Unit := { rows := [], flat := [], keep := 0, done := [0], rl := (.cons Rd.bool .nil), rb := .nil }
def uQ3 : xp3 → Option xZ9
 | .start t0_0 t0_1 t0_2 t0_3 =>
  (uh7 (.start t0_0 t0_1 t0_2 t0_3 (1 : Int) (0 : Int))) >>= fun t1 =>
  some ((decide (t1.1.1 ≤ (200 : Int)), ()), ())
def xl5 : List (Plc E xp3) := []
theorem wR4 : All (ub7 6 0 vJ8 xK9) xl5 := trivial
def wg6 : Code := Tryz.f61.body.getD .skip
def wq9 : Spec E.S := (Con.add w15 ub0)
theorem v88 : ua9 E wq9 := (Con.add_ok wD7 ua7)
theorem xz7 : ∀ pt r, uQ3 pt = some r → Good E Tryz.f61 wg6 0 (ve2.av r) (ve2.bx r) (vJ8 pt) (xK9 pt) := by
 intro pt r hr
 cases pt <;> exact ua8 (spec := wq9) (wr := (mkWr [] [])) (l := xl5) (z := 6) (p := ve2) (run' := fun _ => none) E_ok wR4.mem rfl v88 (fun _ _ h => by cases h) (Eq.trans (by kernel_rfl) hr)
def vv9 : Con E := ⟨61, _, _, (.cons (Rw.agg (.cons (Rd.int .i64).w (.cons (Rd.int .i64).w (.cons Rd.str.w (.cons (Rw.sl 25) .nil))))) .nil), .nil, 0, xZ9, fun a b => uQ3 (.start a.1.1 a.1.2.1 a.1.2.2.1 a.1.2.2.2.1), ve2.av, ve2.bx⟩
theorem uW8 : vv9.Ok := fun a b r h => ub2 (fn := Tryz.f61) (code := wg6) E_ok (by kernel_rfl) (by kernel_rfl) (by kernel_rfl) (Nat.le_of_ble_eq_true rfl) (xz7 (.start a.1.1 a.1.2.1 a.1.2.2.1 a.1.2.2.2.1) r h)
inductive xp4 where
 | start (l0 : (List ua2))
 | p116 (l0 : (List ua2)) (i3 : Int)
 | p1865 (l0 : (List ua2)) (i3 : Int)
 | p14924 (l0 : (List ua2)) (i3 : Int) (k4 : Int)
 | p3820700 (l0 : (List ua2)) (i3 : Int) (k4 : Int) (fields5 : (List ua6)) (j6 : Int)
def va1 : xp4 → List Bool
 | .start .. => []
 | .p116 .. => [false, false, true, false, true, true]
 | .p1865 .. => [true, false, false, true, false, false, true, false, true, true]
 | .p14924 .. => [false, false, true, true, false, false, true, false, false, true, false, true, true]
 | .p3820700 .. => [false, false, true, true, true, false, false, true, false, false, true, true, false, false, true, false, false, true, false, true, true]
def xd2 : xp4 → St E.S
 | .start l0 => st0 67 [.sl 103 l0 false] []
 | .p116 l0 i3 => mkSt 67 [0, 3] [.sl 103 l0 false, .v (.int .i64 i3)] []
 | .p1865 l0 i3 => mkSt 67 [0, 3] [.sl 103 l0 false, .v (.int .i64 i3)] []
 | .p14924 l0 i3 k4 => mkSt 67 [0, 3, 4] [.sl 103 l0 false, .v (.int .i64 i3), .v (.int .i64 k4)] []
 | .p3820700 l0 i3 k4 fields5 j6 => mkSt 67 [0, 3, 4, 5, 6] [.sl 103 l0 false, .v (.int .i64 i3), .v (.int .i64 k4), .sl 58 fields5 false, .v (.int .i64 j6)] []
abbrev x00 : Type := ((Bool × Unit) × Unit)
def uO9 : Res E (Bool × Unit) Unit := { rows := [], flat := [], keep := 0, done := [0], rl := (.cons Rd.bool .nil), rb := .nil }
def ue0 : xp4 → Option x00
 | .start l0 =>
  if (decide ((List.length l0 : Int) > (24 : Int))) = true then
   some ((false, ()), ())
  else
   ue0 (.p116 l0 (0 : Int))
 | .p116 l0 i3 =>
  if (decide (i3 < (List.length l0 : Int))) = true then
   (idx l0 i3) >>= fun t1 =>
   if (decide ((List.length t1.Constructors : Int) > (20 : Int))) = true then
    some ((false, ()), ())
   else
    (idx l0 i3) >>= fun t2 =>
    if (decide ((List.length t2.Params : Int) > (12 : Int))) = true then
     some ((false, ()), ())
    else
     ue0 (.p1865 l0 i3)
  else
   some ((true, ()), ())
 | .p1865 l0 i3 =>
  ue0 (.p14924 l0 i3 (0 : Int))
 | .p14924 l0 i3 k4 =>
  (idx l0 i3) >>= fun t1 =>
  if (decide (k4 < (List.length t1.Constructors : Int))) = true then
   (idx l0 i3) >>= fun t2 =>
   (idx t2.Constructors k4) >>= fun t3 =>
   if (decide ((List.length t3.Fields : Int) > (12 : Int))) = true then
    some ((false, ()), ())
   else
    ue0 (.p3820700 l0 i3 k4 t3.Fields (0 : Int))
  else
   ue0 (.p116 l0 (IntKind.wrap .i64 (i3 + (1 : Int))))
 | .p3820700 l0 i3 k4 fields5 j6 =>
  if (decide (j6 < (List.length fields5 : Int))) = true then
   (idx fields5 j6) >>= fun t1 =>
   (uQ3 (.start t1.Type_.Kind t1.Type_.Value t1.Type_.Name t1.Type_.Parts)) >>= fun t2 =>
   if (!t2.1.1) = true then
    some ((false, ()), ())
   else
    ue0 (.p3820700 l0 i3 k4 fields5 (IntKind.wrap .i64 (j6 + (1 : Int))))
  else
   ue0 (.p14924 l0 i3 (IntKind.wrap .i64 (k4 + (1 : Int))))
 partial_fixpoint
def xl6 : List (Plc E xp4) := [⟨116, [false, false, true, false, true, true], { slots := [0, 3], rows := [], flat := [], keep := 0 }, _, _, (.cons (Rd.sl 103 false) (.cons (Rd.int .i64) .nil)), .nil, fun a b => .p116 a.1 a.2.1⟩,
 ⟨1865, [true, false, false, true, false, false, true, false, true, true], { slots := [0, 3], rows := [], flat := [], keep := 0 }, _, _, (.cons (Rd.sl 103 false) (.cons (Rd.int .i64) .nil)), .nil, fun a b => .p1865 a.1 a.2.1⟩,
 ⟨14924, [false, false, true, true, false, false, true, false, false, true, false, true, true], { slots := [0, 3, 4], rows := [], flat := [], keep := 0 }, _, _, (.cons (Rd.sl 103 false) (.cons (Rd.int .i64) (.cons (Rd.int .i64) .nil))), .nil, fun a b => .p14924 a.1 a.2.1 a.2.2.1⟩,
 ⟨3820700, [false, false, true, true, true, false, false, true, false, false, true, true, false, false, true, false, false, true, false, true, true], { slots := [0, 3, 4, 5, 6], rows := [], flat := [], keep := 0 }, _, _, (.cons (Rd.sl 103 false) (.cons (Rd.int .i64) (.cons (Rd.int .i64) (.cons (Rd.sl 58 false) (.cons (Rd.int .i64) .nil))))), .nil, fun a b => .p3820700 a.1 a.2.1 a.2.2.1 a.2.2.2.1 a.2.2.2.2.1⟩]
theorem wR5 : All (ub7 67 0 va1 xd2) xl6 := ⟨⟨rfl, rfl, fun _ _ => rfl, fun _ _ => rfl⟩, ⟨⟨rfl, rfl, fun _ _ => rfl, fun _ _ => rfl⟩, ⟨⟨rfl, rfl, fun _ _ => rfl, fun _ _ => rfl⟩, ⟨⟨rfl, rfl, fun _ _ => rfl, fun _ _ => rfl⟩, trivial⟩⟩⟩⟩
def vu4 : Code := Tryz.f11.body.getD .skip
def wr0 : Spec E.S := (Con.add vv9 ub0)
theorem v89 : ua9 E wr0 := (Con.add_ok uW8 ua7)
theorem xz8 : ∀ pt r, ue0 pt = some r → Good E Tryz.f11 vu4 0 (uO9.av r) (uO9.bx r) (va1 pt) (xd2 pt) := by
 refine ue0.partial_correctness (fun pt r => Good E Tryz.f11 vu4 0 (uO9.av r) (uO9.bx r) (va1 pt) (xd2 pt)) ?_
 intro run' ih pt r hr
 cases pt <;> exact ua8 (spec := wr0) (wr := (mkWr [] [])) (l := xl6) (z := 67) (p := uO9) E_ok wR5.mem rfl v89 ih (Eq.trans (by kernel_rfl) hr)
def w17 : Con E := ⟨11, _, _, (.cons (Rw.sl 103) .nil), .nil, 0, x00, fun a b => ue0 (.start a.1), uO9.av, uO9.bx⟩
theorem wD8 : w17.Ok := fun a b r h => ub2 (fn := Tryz.f11) (code := vu4) E_ok (by kernel_rfl) (by kernel_rfl) (by kernel_rfl) (Nat.le_of_ble_eq_true rfl) (xz8 (.start a.1) r h)
inductive xp5 where
 | start (l0 : (List ByteArray))
def vJ9 : xp5 → List Bool
 | .start .. => []
def xL0 : xp5 → St E.S
 | .start l0 => st0 6 [.sl 9 l0 false] []
abbrev x01 : Type := ((Unit × Unit) × ((List ByteArray) × Unit))
def ve3 : Res E (Unit × Unit) ((List ByteArray) × Unit) := { rows := [], flat := [], keep := 0, done := [0], rl := (.cons (Rd.rw 0) .nil), rb := (.cons (.row 9 true) .nil) }
def vz8 : xp5 → Option x01
 | .start l0 =>
  if (fits (List.length ([] : List ByteArray)) (List.length l0) 16) = true then
   some (((), ()), (([] : List ByteArray) ++ l0, ()))
  else none
def xl7 : List (Plc E xp5) := []
theorem wR6 : All (ub7 6 0 vJ9 xL0) xl7 := trivial
def wg7 : Code := Tryz.f66.body.getD .skip
def wr1 : Spec E.S := ub0
theorem v90 : ua9 E wr1 := ua7
theorem xz9 : ∀ pt r, vz8 pt = some r → Good E Tryz.f66 wg7 0 (ve3.av r) (ve3.bx r) (vJ9 pt) (xL0 pt) := by
 intro pt r hr
 cases pt <;> exact ua8 (spec := wr1) (wr := (mkWr [] [])) (l := xl7) (z := 6) (p := ve3) (run' := fun _ => none) E_ok wR6.mem rfl v90 (fun _ _ h => by cases h) (Eq.trans (by kernel_rfl) hr)
def w18 : Con E := ⟨66, _, _, (.cons (Rw.sl 9) .nil), .nil, 0, x01, fun a b => vz8 (.start a.1), ve3.av, ve3.bx⟩
theorem wD9 : w18.Ok := fun a b r h => ub2 (fn := Tryz.f66) (code := wg7) E_ok (by kernel_rfl) (by kernel_rfl) (by kernel_rfl) (Nat.le_of_ble_eq_true rfl) (xz9 (.start a.1) r h)
inductive vB1 where
 | start (t0_0 : Int) (t0_1 : Int) (t0_2 : ByteArray) (t0_3 : (List ua1))
 | p244 (i4 : Int) (C0 : Int) (C1 : Int) (C2 : ByteArray) (C3 : (List ua1)) (D0 : Int) (D1 : Int) (D2 : ByteArray) (G0 : Int) (G1 : Int) (G2 : ByteArray) (B3 : (List ua1))
def uG1 : vB1 → List Bool
 | .start .. => []
 | .p244 .. => [false, false, true, false, true, true, true]
def vP1 : vB1 → St E.S
 | .start t0_0 t0_1 t0_2 t0_3 => st0 26 [.agg [.v (.int .i64 t0_0), .v (.int .i64 t0_1), .v (.string t0_2), .sl 25 t0_3 false]] []
 | .p244 i4 C0 C1 C2 C3 D0 D1 D2 G0 G1 G2 B3 => mkSt 26 [1, 2, 3, 4] [.bp 0 0, .bp 1 0, .bp 2 0, .v (.int .i64 i4)] [.var 25 [.v (.int .i64 C0), .v (.int .i64 C1), .v (.string C2), .sl 25 C3 false], .var 25 [.v (.int .i64 D0), .v (.int .i64 D1), .v (.string D2), .nl], .var 25 [.v (.int .i64 G0), .v (.int .i64 G1), .v (.string G2), .rw 3], .row 25 B3 false]
abbrev vQ0 : Type := (((Int × (Int × (ByteArray × ((List ua1) × Unit)))) × Unit) × Unit)
def uo8 : Res E ((Int × (Int × (ByteArray × ((List ua1) × Unit)))) × Unit) Unit := { rows := [], flat := [], keep := 0, deep := [(false, 0, 3, 25)], done := [0], rl := (.cons (Rd.agg (.cons (Rd.int .i64) (.cons (Rd.int .i64) (.cons Rd.str (.cons (Rd.sl 25 false) .nil))))) .nil), rb := .nil }
def un0 : vB1 → Option vQ0
 | .start t0_0 t0_1 t0_2 t0_3 =>
  un0 (.p244 (0 : Int) t0_0 t0_1 t0_2 t0_3 (0 : Int) (0 : Int) (⟨#[]⟩ : ByteArray) t0_0 t0_1 t0_2 ([] : List ua1))
 | .p244 i4 C0 C1 C2 C3 D0 D1 D2 G0 G1 G2 B3 =>
  if (decide (i4 < (List.length C3 : Int))) = true then
   (idx C3 i4) >>= fun t1 =>
   (un0 (.start t1.Kind t1.Value t1.Name t1.Parts)) >>= fun t2 =>
   if (fits (List.length B3) (List.length ([(⟨t2.1.1.1, t2.1.1.2.1, t2.1.1.2.2.1, t2.1.1.2.2.2.1⟩ : ua1)] : List ua1)) 56) = true then
    un0 (.p244 (IntKind.wrap .i64 (i4 + (1 : Int))) C0 C1 C2 C3 D0 D1 D2 G0 G1 G2 (B3 ++ ([(⟨t2.1.1.1, t2.1.1.2.1, t2.1.1.2.2.1, t2.1.1.2.2.2.1⟩ : ua1)] : List ua1)))
   else none
  else
   some (((G0, (G1, (G2, (B3, ())))), ()), ())
 partial_fixpoint
def xl8 : List (Plc E vB1) := [⟨244, [false, false, true, false, true, true, true], { slots := [1, 2, 3, 4], rows := [], flat := [], keep := 0, up := [(true, 3, 3, 25)] }, _, _, (.cons (Rd.bp 0 0) (.cons (Rd.bp 1 0) (.cons (Rd.bp 2 0) (.cons (Rd.int .i64) .nil)))), (.cons (.var 25 (.cons (Rd.int .i64) (.cons (Rd.int .i64) (.cons Rd.str (.cons (Rd.sl 25 false) .nil))))) (.cons (.var 25 (.cons (Rd.int .i64) (.cons (Rd.int .i64) (.cons Rd.str (.cons Rd.nl .nil))))) (.cons (.var 25 (.cons (Rd.int .i64) (.cons (Rd.int .i64) (.cons Rd.str (.cons (Rd.rw 3) .nil))))) (.cons (.row 25 false) .nil)))), fun a b => .p244 a.2.2.2.1 b.1.1 b.1.2.1 b.1.2.2.1 b.1.2.2.2.1 b.2.1.1 b.2.1.2.1 b.2.1.2.2.1 b.2.2.1.1 b.2.2.1.2.1 b.2.2.1.2.2.1 b.2.2.2.1⟩]
theorem wR7 : All (ub7 26 0 uG1 vP1) xl8 := ⟨⟨rfl, rfl, fun _ _ => rfl, fun _ _ => rfl⟩, trivial⟩
def uI8 : Code := Tryz.f107.body.getD .skip
def w87 (run' : vB1 → Option vQ0) : Con E := ⟨107, ((Int × (Int × (ByteArray × ((List ua1) × Unit)))) × Unit), Unit, (RwL.cons (Rw.agg (RwL.cons (Rd.int .i64).w (RwL.cons (Rd.int .i64).w (RwL.cons Rd.str.w (RwL.cons (Rw.sl 25) RwL.nil))))) RwL.nil), RdBL.nil, 0, vQ0, fun a b => run' (.start a.1.1 a.1.2.1 a.1.2.2.1 a.1.2.2.2.1), uo8.av, uo8.bx⟩
theorem wI6 {run' : vB1 → Option vQ0} (ih : ∀ pt r, run' pt = some r → Good E Tryz.f107 uI8 0 (uo8.av r) (uo8.bx r) (uG1 pt) (vP1 pt)) : (w87 run').Ok := fun a b r h => ub2 (fn := Tryz.f107) (code := uI8) E_ok (by kernel_rfl) (by kernel_rfl) (by kernel_rfl) (Nat.le_of_ble_eq_true rfl) (ih (.start a.1.1 a.1.2.1 a.1.2.2.1 a.1.2.2.2.1) r h)
def wr2 (run' : vB1 → Option vQ0) : Spec E.S := (Con.add (w87 run') ub0)
theorem v91 {run' : vB1 → Option vQ0} (ih : ∀ pt r, run' pt = some r → Good E Tryz.f107 uI8 0 (uo8.av r) (uo8.bx r) (uG1 pt) (vP1 pt)) : ua9 E (wr2 run') := (Con.add_ok (wI6 ih) ua7)
theorem xA0 : ∀ pt r, un0 pt = some r → Good E Tryz.f107 uI8 0 (uo8.av r) (uo8.bx r) (uG1 pt) (vP1 pt) := by
 refine un0.partial_correctness (fun pt r => Good E Tryz.f107 uI8 0 (uo8.av r) (uo8.bx r) (uG1 pt) (vP1 pt)) ?_
 intro run' ih pt r hr
 cases pt <;> exact ua8 (spec := (wr2 run')) (wr := (mkWr [] [])) (l := xl8) (z := 26) (p := uo8) E_ok wR7.mem rfl (v91 ih) ih (Eq.trans (by kernel_rfl) hr)
def vS7 : Con E := ⟨107, _, _, (.cons (Rw.agg (.cons (Rd.int .i64).w (.cons (Rd.int .i64).w (.cons Rd.str.w (.cons (Rw.sl 25) .nil))))) .nil), .nil, 0, vQ0, fun a b => un0 (.start a.1.1 a.1.2.1 a.1.2.2.1 a.1.2.2.2.1), uo8.av, uo8.bx⟩
theorem vn5 : vS7.Ok := fun a b r h => ub2 (fn := Tryz.f107) (code := uI8) E_ok (by kernel_rfl) (by kernel_rfl) (by kernel_rfl) (Nat.le_of_ble_eq_true rfl) (xA0 (.start a.1.1 a.1.2.1 a.1.2.2.1 a.1.2.2.2.1) r h)
inductive xp6 where
 | start (l0 : (List ua6))
 | p116 (l0 : (List ua6)) (i4 : Int) (B0 : (List ua6))
def va2 : xp6 → List Bool
 | .start .. => []
 | .p116 .. => [false, false, true, false, true, true]
def xd3 : xp6 → St E.S
 | .start l0 => st0 27 [.sl 58 l0 false] []
 | .p116 l0 i4 B0 => mkSt 27 [0, 3, 4] [.sl 58 l0 false, .rw 0, .v (.int .i64 i4)] [.row 58 B0 false]
abbrev x02 : Type := ((Unit × Unit) × ((List ua6) × Unit))
def uP0 : Res E (Unit × Unit) ((List ua6) × Unit) := { rows := [], flat := [], keep := 0, done := [0], rl := (.cons (Rd.rw 0) .nil), rb := (.cons (.row 58 true) .nil) }
def ur5 : xp6 → Option x02
 | .start l0 =>
  ur5 (.p116 l0 (0 : Int) ([] : List ua6))
 | .p116 l0 i4 B0 =>
  if (decide (i4 < (List.length l0 : Int))) = true then
   (idx l0 i4) >>= fun t1 =>
   (idx l0 i4) >>= fun t2 =>
   (un0 (.start t2.Type_.Kind t2.Type_.Value t2.Type_.Name t2.Type_.Parts)) >>= fun t3 =>
   if (fits (List.length B0) (List.length ([(⟨t1.Name, (⟨t3.1.1.1, t3.1.1.2.1, t3.1.1.2.2.1, t3.1.1.2.2.2.1⟩ : ua1)⟩ : ua6)] : List ua6)) 72) = true then
    ur5 (.p116 l0 (IntKind.wrap .i64 (i4 + (1 : Int))) (B0 ++ ([(⟨t1.Name, (⟨t3.1.1.1, t3.1.1.2.1, t3.1.1.2.2.1, t3.1.1.2.2.2.1⟩ : ua1)⟩ : ua6)] : List ua6)))
   else none
  else
   some (((), ()), (B0, ()))
 partial_fixpoint
def xl9 : List (Plc E xp6) := [⟨116, [false, false, true, false, true, true], { slots := [0, 3, 4], rows := [(3, 58)], flat := [], keep := 0 }, _, _, (.cons (Rd.sl 58 false) (.cons (Rd.rw 0) (.cons (Rd.int .i64) .nil))), (.cons (.row 58 false) .nil), fun a b => .p116 a.1 a.2.2.1 b.1⟩]
theorem wR8 : All (ub7 27 0 va2 xd3) xl9 := ⟨⟨rfl, rfl, fun _ _ => rfl, fun _ _ => rfl⟩, trivial⟩
def vu5 : Code := Tryz.f67.body.getD .skip
def wr3 : Spec E.S := (Con.add vS7 ub0)
theorem v92 : ua9 E wr3 := (Con.add_ok vn5 ua7)
theorem xA1 : ∀ pt r, ur5 pt = some r → Good E Tryz.f67 vu5 0 (uP0.av r) (uP0.bx r) (va2 pt) (xd3 pt) := by
 refine ur5.partial_correctness (fun pt r => Good E Tryz.f67 vu5 0 (uP0.av r) (uP0.bx r) (va2 pt) (xd3 pt)) ?_
 intro run' ih pt r hr
 cases pt <;> exact ua8 (spec := wr3) (wr := (mkWr [] [])) (l := xl9) (z := 27) (p := uP0) E_ok wR8.mem rfl v92 ih (Eq.trans (by kernel_rfl) hr)
def w19 : Con E := ⟨67, _, _, (.cons (Rw.sl 58) .nil), .nil, 0, x02, fun a b => ur5 (.start a.1), uP0.av, uP0.bx⟩
theorem wE0 : w19.Ok := fun a b r h => ub2 (fn := Tryz.f67) (code := vu5) E_ok (by kernel_rfl) (by kernel_rfl) (by kernel_rfl) (Nat.le_of_ble_eq_true rfl) (xA1 (.start a.1) r h)
inductive xp7 where
 | start (l0 : (List ua2))
 | p116 (l0 : (List ua2)) (i4 : Int) (B0 : (List ua2))
 | p29844 (l0 : (List ua2)) (i4 : Int) (k6 : Int) (B0 : (List ua2)) (B1 : ByteArray) (B2 : (List ByteArray)) (B3 : (List ua0))
def va3 : xp7 → List Bool
 | .start .. => []
 | .p116 .. => [false, false, true, false, true, true]
 | .p29844 .. => [false, false, true, false, true, false, false, true, false, false, true, false, true, true]
def xd4 : xp7 → St E.S
 | .start l0 => st0 60 [.sl 103 l0 false] []
 | .p116 l0 i4 B0 => mkSt 60 [0, 3, 4] [.sl 103 l0 false, .rw 0, .v (.int .i64 i4)] [.row 103 B0 false]
 | .p29844 l0 i4 k6 B0 B1 B2 B3 => mkSt 60 [0, 3, 4, 5, 6] [.sl 103 l0 false, .rw 0, .v (.int .i64 i4), .bp 1 0, .v (.int .i64 k6)] [.row 103 B0 false, .var 103 [.v (.string B1), .rw 2, .rw 3], .row 9 B2 true, .row 56 B3 false]
abbrev x03 : Type := ((Unit × Unit) × ((List ua2) × Unit))
def uP1 : Res E (Unit × Unit) ((List ua2) × Unit) := { rows := [(0, 103)], flat := [], keep := 0, done := [0], rl := (.cons (Rd.rw 0) .nil), rb := (.cons (.row 103 true) .nil) }
def ug3 : xp7 → Option x03
 | .start l0 =>
  ug3 (.p116 l0 (0 : Int) ([] : List ua2))
 | .p116 l0 i4 B0 =>
  if (decide (i4 < (List.length l0 : Int))) = true then
   (idx l0 i4) >>= fun t1 =>
   (idx l0 i4) >>= fun t2 =>
   (vz8 (.start t2.Params)) >>= fun t3 =>
   ug3 (.p29844 l0 i4 (0 : Int) B0 t1.Name t3.2.1 ([] : List ua0))
  else
   some (((), ()), (B0, ()))
 | .p29844 l0 i4 k6 B0 B1 B2 B3 =>
  (idx l0 i4) >>= fun t1 =>
  if (decide (k6 < (List.length t1.Constructors : Int))) = true then
   (idx l0 i4) >>= fun t2 =>
   (idx t2.Constructors k6) >>= fun t3 =>
   (ur5 (.start t3.Fields)) >>= fun t4 =>
   if (fits (List.length B3) (List.length ([(⟨t3.Name, t4.2.1⟩ : ua0)] : List ua0)) 40) = true then
    ug3 (.p29844 l0 i4 (IntKind.wrap .i64 (k6 + (1 : Int))) B0 B1 B2 (B3 ++ ([(⟨t3.Name, t4.2.1⟩ : ua0)] : List ua0)))
   else none
  else
   if (fits (List.length B0) (List.length ([(⟨B1, B2, B3⟩ : ua2)] : List ua2)) 64) = true then
    ug3 (.p116 l0 (IntKind.wrap .i64 (i4 + (1 : Int))) (B0 ++ ([(⟨B1, B2, B3⟩ : ua2)] : List ua2)))
   else none
 partial_fixpoint
def xm0 : List (Plc E xp7) := [⟨116, [false, false, true, false, true, true], { slots := [0, 3, 4], rows := [(3, 103)], flat := [], keep := 0 }, _, _, (.cons (Rd.sl 103 false) (.cons (Rd.rw 0) (.cons (Rd.int .i64) .nil))), (.cons (.row 103 false) .nil), fun a b => .p116 a.1 a.2.2.1 b.1⟩,
 ⟨29844, [false, false, true, false, true, false, false, true, false, false, true, false, true, true], { slots := [0, 3, 4, 5, 6], rows := [], flat := [], keep := 0, up := [(true, 5, 2, 56)] }, _, _, (.cons (Rd.sl 103 false) (.cons (Rd.rw 0) (.cons (Rd.int .i64) (.cons (Rd.bp 1 0) (.cons (Rd.int .i64) .nil))))), (.cons (.row 103 false) (.cons (.var 103 (.cons Rd.str (.cons (Rd.rw 2) (.cons (Rd.rw 3) .nil)))) (.cons (.row 9 true) (.cons (.row 56 false) .nil)))), fun a b => .p29844 a.1 a.2.2.1 a.2.2.2.2.1 b.1 b.2.1.1 b.2.2.1 b.2.2.2.1⟩]
theorem wR9 : All (ub7 60 0 va3 xd4) xm0 := ⟨⟨rfl, rfl, fun _ _ => rfl, fun _ _ => rfl⟩, ⟨⟨rfl, rfl, fun _ _ => rfl, fun _ _ => rfl⟩, trivial⟩⟩
def vu6 : Code := Tryz.f15.body.getD .skip
def wr4 : Spec E.S := (Con.add w19 (Con.add w18 ub0))
theorem v93 : ua9 E wr4 := (Con.add_ok wE0 (Con.add_ok wD9 ua7))
theorem xA2 : ∀ pt r, ug3 pt = some r → Good E Tryz.f15 vu6 0 (uP1.av r) (uP1.bx r) (va3 pt) (xd4 pt) := by
 refine ug3.partial_correctness (fun pt r => Good E Tryz.f15 vu6 0 (uP1.av r) (uP1.bx r) (va3 pt) (xd4 pt)) ?_
 intro run' ih pt r hr
 cases pt <;> exact ua8 (spec := wr4) (wr := (mkWr [] [(3731, [5])])) (l := xm0) (z := 60) (p := uP1) E_ok wR9.mem rfl v93 ih (Eq.trans (by kernel_rfl) hr)
def w20 : Con E := ⟨15, _, _, (.cons (Rw.sl 103) .nil), .nil, 0, x03, fun a b => ug3 (.start a.1), uP1.av, uP1.bx⟩
theorem wE1 : w20.Ok := fun a b r h => ub2 (fn := Tryz.f15) (code := vu6) E_ok (by kernel_rfl) (by kernel_rfl) (by kernel_rfl) (Nat.le_of_ble_eq_true rfl) (xA2 (.start a.1) r h)
inductive xp8 where
 | start (s0 : ByteArray)
 | p7 (s0 : ByteArray)
 | p116 (s0 : ByteArray) (i3 : Int)
 | p3731 (s0 : ByteArray) (i3 : Int) (c4 : Int) (letter5 : Bool)
def va4 : xp8 → List Bool
 | .start .. => []
 | .p7 .. => [true, true]
 | .p116 .. => [false, false, true, false, true, true]
 | .p3731 .. => [true, true, false, false, true, false, false, true, false, true, true]
def xd5 : xp8 → St E.S
 | .start s0 => st0 55 [.v (.string s0)] []
 | .p7 s0 => mkSt 55 [0] [.v (.string s0)] []
 | .p116 s0 i3 => mkSt 55 [0, 3] [.v (.string s0), .v (.int .i64 i3)] []
 | .p3731 s0 i3 c4 letter5 => mkSt 55 [0, 3, 4, 5] [.v (.string s0), .v (.int .i64 i3), .v (.int .u8 c4), .v (.bool letter5)] []
abbrev x04 : Type := ((Bool × Unit) × Unit)
def uP2 : Res E (Bool × Unit) Unit := { rows := [], flat := [], keep := 0, done := [0], rl := (.cons Rd.bool .nil), rb := .nil }
def ud5 : xp8 → Option x04
 | .start s0 =>
  if (decide ((s0.size : Int) < (1 : Int))) = true then
   some ((false, ()), ())
  else
   if (decide ((s0.size : Int) > (16 : Int))) = true then
    some ((false, ()), ())
   else
    ud5 (.p7 s0)
 | .p7 s0 =>
  ud5 (.p116 s0 (0 : Int))
 | .p116 s0 i3 =>
  if (decide (i3 < (s0.size : Int))) = true then
   (sidx s0 i3) >>= fun t1 =>
   if (decide (t1 ≥ (97 : Int))) = true then
    if (decide (t1 ≤ (122 : Int))) = true then
     ud5 (.p3731 s0 i3 t1 true)
    else
     if (decide (t1 ≥ (65 : Int))) = true then
      ud5 (.p3731 s0 i3 t1 (decide (t1 ≤ (90 : Int))))
     else
      ud5 (.p3731 s0 i3 t1 false)
   else
    if (decide (t1 ≥ (65 : Int))) = true then
     ud5 (.p3731 s0 i3 t1 (decide (t1 ≤ (90 : Int))))
    else
     ud5 (.p3731 s0 i3 t1 false)
  else
   some ((true, ()), ())
 | .p3731 s0 i3 c4 letter5 =>
  if (!letter5) = true then
   if (i3 == (0 : Int)) = true then
    some ((false, ()), ())
   else
    if (c4 != (95 : Int)) = true then
     if (decide (c4 < (48 : Int))) = true then
      some ((false, ()), ())
     else
      if (decide (c4 > (57 : Int))) = true then
       some ((false, ()), ())
      else
       ud5 (.p116 s0 (IntKind.wrap .i64 (i3 + (1 : Int))))
    else
     ud5 (.p116 s0 (IntKind.wrap .i64 (i3 + (1 : Int))))
  else
   ud5 (.p116 s0 (IntKind.wrap .i64 (i3 + (1 : Int))))
 partial_fixpoint
def xm1 : List (Plc E xp8) := [⟨7, [true, true], { slots := [0], rows := [], flat := [], keep := 0 }, _, _, (.cons Rd.str .nil), .nil, fun a b => .p7 a.1⟩,
 ⟨116, [false, false, true, false, true, true], { slots := [0, 3], rows := [], flat := [], keep := 0 }, _, _, (.cons Rd.str (.cons (Rd.int .i64) .nil)), .nil, fun a b => .p116 a.1 a.2.1⟩,
 ⟨3731, [true, true, false, false, true, false, false, true, false, true, true], { slots := [0, 3, 4, 5], rows := [], flat := [], keep := 0 }, _, _, (.cons Rd.str (.cons (Rd.int .i64) (.cons (Rd.int .u8) (.cons Rd.bool .nil)))), .nil, fun a b => .p3731 a.1 a.2.1 a.2.2.1 a.2.2.2.1⟩]
theorem wS0 : All (ub7 55 0 va4 xd5) xm1 := ⟨⟨rfl, rfl, fun _ _ => rfl, fun _ _ => rfl⟩, ⟨⟨rfl, rfl, fun _ _ => rfl, fun _ _ => rfl⟩, ⟨⟨rfl, rfl, fun _ _ => rfl, fun _ _ => rfl⟩, trivial⟩⟩⟩
def vu7 : Code := Tryz.f118.body.getD .skip
def wr5 : Spec E.S := ub0
theorem v94 : ua9 E wr5 := ua7
theorem xA3 : ∀ pt r, ud5 pt = some r → Good E Tryz.f118 vu7 0 (uP2.av r) (uP2.bx r) (va4 pt) (xd5 pt) := by
 refine ud5.partial_correctness (fun pt r => Good E Tryz.f118 vu7 0 (uP2.av r) (uP2.bx r) (va4 pt) (xd5 pt)) ?_
 intro run' ih pt r hr
 cases pt <;> exact ua8 (spec := wr5) (wr := (mkWr [] [])) (l := xm1) (z := 55) (p := uP2) E_ok wS0.mem rfl v94 ih (Eq.trans (by kernel_rfl) hr)
def vS8 : Con E := ⟨118, _, _, (.cons Rd.str.w .nil), .nil, 0, x04, fun a b => ud5 (.start a.1), uP2.av, uP2.bx⟩
theorem vn6 : vS8.Ok := fun a b r h => ub2 (fn := Tryz.f118) (code := vu7) E_ok (by kernel_rfl) (by kernel_rfl) (by kernel_rfl) (Nat.le_of_ble_eq_true rfl) (xA3 (.start a.1) r h)
inductive xp9 where
 | start (l0 : (List ua2)) (name1 : ByteArray)
 | p52 (l0 : (List ua2)) (name1 : ByteArray) (i5 : Int)
def va5 : xp9 → List Bool
 | .start .. => []
 | .p52 .. => [false, false, true, false, true]
def xd6 : xp9 → St E.S
 | .start l0 name1 => st0 20 [.sl 103 l0 false, .v (.string name1)] []
 | .p52 l0 name1 i5 => mkSt 20 [0, 1, 5] [.sl 103 l0 false, .v (.string name1), .v (.int .i64 i5)] []
abbrev x05 : Type := ((Int × Unit) × Unit)
def uP3 : Res E (Int × Unit) Unit := { rows := [], flat := [], keep := 0, done := [0], rl := (.cons (Rd.int .i64) .nil), rb := .nil }
def un1 : xp9 → Option x05
 | .start l0 name1 =>
  un1 (.p52 l0 name1 (0 : Int))
 | .p52 l0 name1 i5 =>
  if (decide (i5 < (List.length l0 : Int))) = true then
   (idx l0 i5) >>= fun t1 =>
   if (seq t1.Name name1) = true then
    some ((i5, ()), ())
   else
    un1 (.p52 l0 name1 (IntKind.wrap .i64 (i5 + (1 : Int))))
  else
   some (((-1 : Int), ()), ())
 partial_fixpoint
def xm2 : List (Plc E xp9) := [⟨52, [false, false, true, false, true], { slots := [0, 1, 5], rows := [], flat := [], keep := 0 }, _, _, (.cons (Rd.sl 103 false) (.cons Rd.str (.cons (Rd.int .i64) .nil))), .nil, fun a b => .p52 a.1 a.2.1 a.2.2.1⟩]
theorem wS1 : All (ub7 20 0 va5 xd6) xm2 := ⟨⟨rfl, rfl, fun _ _ => rfl, fun _ _ => rfl⟩, trivial⟩
def vu8 : Code := Tryz.f81.body.getD .skip
def wr6 : Spec E.S := ub0
theorem v95 : ua9 E wr6 := ua7
theorem xA4 : ∀ pt r, un1 pt = some r → Good E Tryz.f81 vu8 0 (uP3.av r) (uP3.bx r) (va5 pt) (xd6 pt) := by
 refine un1.partial_correctness (fun pt r => Good E Tryz.f81 vu8 0 (uP3.av r) (uP3.bx r) (va5 pt) (xd6 pt)) ?_
 intro run' ih pt r hr
 cases pt <;> exact ua8 (spec := wr6) (wr := (mkWr [] [])) (l := xm2) (z := 20) (p := uP3) E_ok wS1.mem rfl v95 ih (Eq.trans (by kernel_rfl) hr)
def vw0 : Con E := ⟨81, _, _, (.cons (Rw.sl 103) (.cons Rd.str.w .nil)), .nil, 0, x05, fun a b => un1 (.start a.1 a.2.1), uP3.av, uP3.bx⟩
theorem uW9 : vw0.Ok := fun a b r h => ub2 (fn := Tryz.f81) (code := vu8) E_ok (by kernel_rfl) (by kernel_rfl) (by kernel_rfl) (Nat.le_of_ble_eq_true rfl) (xA4 (.start a.1 a.2.1) r h)
inductive xq0 where
 | start (l0 : (List ByteArray)) (s1 : ByteArray)
 | p52 (l0 : (List ByteArray)) (s1 : ByteArray) (i5 : Int)
def va6 : xq0 → List Bool
 | .start .. => []
 | .p52 .. => [false, false, true, false, true]
def xd7 : xq0 → St E.S
 | .start l0 s1 => st0 18 [.sl 9 l0 false, .v (.string s1)] []
 | .p52 l0 s1 i5 => mkSt 18 [0, 1, 5] [.sl 9 l0 false, .v (.string s1), .v (.int .i64 i5)] []
abbrev x06 : Type := ((Bool × Unit) × Unit)
def uP4 : Res E (Bool × Unit) Unit := { rows := [], flat := [], keep := 0, done := [0], rl := (.cons Rd.bool .nil), rb := .nil }
def up6 : xq0 → Option x06
 | .start l0 s1 =>
  up6 (.p52 l0 s1 (0 : Int))
 | .p52 l0 s1 i5 =>
  if (decide (i5 < (List.length l0 : Int))) = true then
   (idx l0 i5) >>= fun t1 =>
   if (seq t1 s1) = true then
    some ((true, ()), ())
   else
    up6 (.p52 l0 s1 (IntKind.wrap .i64 (i5 + (1 : Int))))
  else
   some ((false, ()), ())
 partial_fixpoint
def xm4 : List (Plc E xq0) := [⟨52, [false, false, true, false, true], { slots := [0, 1, 5], rows := [], flat := [], keep := 0 }, _, _, (.cons (Rd.sl 9 false) (.cons Rd.str (.cons (Rd.int .i64) .nil))), .nil, fun a b => .p52 a.1 a.2.1 a.2.2.1⟩]
theorem wS2 : All (ub7 18 0 va6 xd7) xm4 := ⟨⟨rfl, rfl, fun _ _ => rfl, fun _ _ => rfl⟩, trivial⟩
def vu9 : Code := Tryz.f119.body.getD .skip
def wr7 : Spec E.S := ub0
theorem v96 : ua9 E wr7 := ua7
theorem xA5 : ∀ pt r, up6 pt = some r → Good E Tryz.f119 vu9 0 (uP4.av r) (uP4.bx r) (va6 pt) (xd7 pt) := by
 refine up6.partial_correctness (fun pt r => Good E Tryz.f119 vu9 0 (uP4.av r) (uP4.bx r) (va6 pt) (xd7 pt)) ?_
 intro run' ih pt r hr
 cases pt <;> exact ua8 (spec := wr7) (wr := (mkWr [] [])) (l := xm4) (z := 18) (p := uP4) E_ok wS2.mem rfl v96 ih (Eq.trans (by kernel_rfl) hr)
def vS9 : Con E := ⟨119, _, _, (.cons (Rw.sl 9) (.cons Rd.str.w .nil)), .nil, 0, x06, fun a b => up6 (.start a.1 a.2.1), uP4.av, uP4.bx⟩
theorem vn7 : vS9.Ok := fun a b r h => ub2 (fn := Tryz.f119) (code := vu9) E_ok (by kernel_rfl) (by kernel_rfl) (by kernel_rfl) (Nat.le_of_ble_eq_true rfl) (xA5 (.start a.1 a.2.1) r h)
inductive xq1 where
 | start (l0 : (List ua2)) (name1 : ByteArray)
 | p52 (l0 : (List ua2)) (name1 : ByteArray) (i5 : Int)
 | p3364 (l0 : (List ua2)) (name1 : ByteArray) (i5 : Int) (k6 : Int)
def va7 : xq1 → List Bool
 | .start .. => []
 | .p52 .. => [false, false, true, false, true]
 | .p3364 .. => [false, false, true, false, false, true, false, false, true, false, true]
def xd8 : xq1 → St E.S
 | .start l0 name1 => st0 34 [.sl 103 l0 false, .v (.string name1)] []
 | .p52 l0 name1 i5 => mkSt 34 [0, 1, 5] [.sl 103 l0 false, .v (.string name1), .v (.int .i64 i5)] []
 | .p3364 l0 name1 i5 k6 => mkSt 34 [0, 1, 5, 6] [.sl 103 l0 false, .v (.string name1), .v (.int .i64 i5), .v (.int .i64 k6)] []
abbrev x07 : Type := ((Bool × Unit) × Unit)
def uP5 : Res E (Bool × Unit) Unit := { rows := [], flat := [], keep := 0, done := [0], rl := (.cons Rd.bool .nil), rb := .nil }
def uh1 : xq1 → Option x07
 | .start l0 name1 =>
  uh1 (.p52 l0 name1 (0 : Int))
 | .p52 l0 name1 i5 =>
  if (decide (i5 < (List.length l0 : Int))) = true then
   uh1 (.p3364 l0 name1 i5 (0 : Int))
  else
   some ((false, ()), ())
 | .p3364 l0 name1 i5 k6 =>
  (idx l0 i5) >>= fun t1 =>
  if (decide (k6 < (List.length t1.Constructors : Int))) = true then
   (idx l0 i5) >>= fun t2 =>
   (idx t2.Constructors k6) >>= fun t3 =>
   if (seq t3.Name name1) = true then
    some ((true, ()), ())
   else
    uh1 (.p3364 l0 name1 i5 (IntKind.wrap .i64 (k6 + (1 : Int))))
  else
   uh1 (.p52 l0 name1 (IntKind.wrap .i64 (i5 + (1 : Int))))
 partial_fixpoint
def xm5 : List (Plc E xq1) := [⟨52, [false, false, true, false, true], { slots := [0, 1, 5], rows := [], flat := [], keep := 0 }, _, _, (.cons (Rd.sl 103 false) (.cons Rd.str (.cons (Rd.int .i64) .nil))), .nil, fun a b => .p52 a.1 a.2.1 a.2.2.1⟩,
 ⟨3364, [false, false, true, false, false, true, false, false, true, false, true], { slots := [0, 1, 5, 6], rows := [], flat := [], keep := 0 }, _, _, (.cons (Rd.sl 103 false) (.cons Rd.str (.cons (Rd.int .i64) (.cons (Rd.int .i64) .nil)))), .nil, fun a b => .p3364 a.1 a.2.1 a.2.2.1 a.2.2.2.1⟩]
theorem wS3 : All (ub7 34 0 va7 xd8) xm5 := ⟨⟨rfl, rfl, fun _ _ => rfl, fun _ _ => rfl⟩, ⟨⟨rfl, rfl, fun _ _ => rfl, fun _ _ => rfl⟩, trivial⟩⟩
def vv0 : Code := Tryz.f120.body.getD .skip
def wr8 : Spec E.S := ub0
theorem v97 : ua9 E wr8 := ua7
theorem xA6 : ∀ pt r, uh1 pt = some r → Good E Tryz.f120 vv0 0 (uP5.av r) (uP5.bx r) (va7 pt) (xd8 pt) := by
 refine uh1.partial_correctness (fun pt r => Good E Tryz.f120 vv0 0 (uP5.av r) (uP5.bx r) (va7 pt) (xd8 pt)) ?_
 intro run' ih pt r hr
 cases pt <;> exact ua8 (spec := wr8) (wr := (mkWr [] [])) (l := xm5) (z := 34) (p := uP5) E_ok wS3.mem rfl v97 ih (Eq.trans (by kernel_rfl) hr)
def w22 : Con E := ⟨120, _, _, (.cons (Rw.sl 103) (.cons Rd.str.w .nil)), .nil, 0, x07, fun a b => uh1 (.start a.1 a.2.1), uP5.av, uP5.bx⟩
theorem wE2 : w22.Ok := fun a b r h => ub2 (fn := Tryz.f120) (code := vv0) E_ok (by kernel_rfl) (by kernel_rfl) (by kernel_rfl) (Nat.le_of_ble_eq_true rfl) (xA6 (.start a.1 a.2.1) r h)
inductive xq2 where
 | start (n0 : Int) (lo1 : Int) (hi2 : Int)
def vK0 : xq2 → List Bool
 | .start .. => []
def xL1 : xq2 → St E.S
 | .start n0 lo1 hi2 => st0 15 [.v (.int .i64 n0), .v (.int .i64 lo1), .v (.int .i64 hi2)] []
abbrev x08 : Type := ((Bool × Unit) × Unit)
def ve5 : Res E (Bool × Unit) Unit := { rows := [], flat := [], keep := 0, done := [0], rl := (.cons Rd.bool .nil), rb := .nil }
def uQ4 : xq2 → Option x08
 | .start n0 lo1 hi2 =>
  if (decide (lo1 ≤ n0)) = true then
   some ((decide (n0 ≤ hi2), ()), ())
  else
   some ((false, ()), ())
def xm6 : List (Plc E xq2) := []
theorem wS4 : All (ub7 15 0 vK0 xL1) xm6 := trivial
def wg8 : Code := Tryz.f17.body.getD .skip
def wr9 : Spec E.S := ub0
theorem v98 : ua9 E wr9 := ua7
theorem xA7 : ∀ pt r, uQ4 pt = some r → Good E Tryz.f17 wg8 0 (ve5.av r) (ve5.bx r) (vK0 pt) (xL1 pt) := by
 intro pt r hr
 cases pt <;> exact ua8 (spec := wr9) (wr := (mkWr [] [])) (l := xm6) (z := 15) (p := ve5) (run' := fun _ => none) E_ok wS4.mem rfl v98 (fun _ _ h => by cases h) (Eq.trans (by kernel_rfl) hr)
def vT0 : Con E := ⟨17, _, _, (.cons (Rd.int .i64).w (.cons (Rd.int .i64).w (.cons (Rd.int .i64).w .nil))), .nil, 0, x08, fun a b => uQ4 (.start a.1 a.2.1 a.2.2.1), ve5.av, ve5.bx⟩
theorem vn8 : vT0.Ok := fun a b r h => ub2 (fn := Tryz.f17) (code := wg8) E_ok (by kernel_rfl) (by kernel_rfl) (by kernel_rfl) (Nat.le_of_ble_eq_true rfl) (xA7 (.start a.1 a.2.1 a.2.2.1) r h)
inductive vB2 where
 | start (l0 : (List ua2)) (params1 : (List ByteArray)) (t2_0 : Int) (t2_1 : Int) (t2_2 : ByteArray) (t2_3 : (List ua1))
 | p31 (l0 : (List ua2)) (params1 : (List ByteArray)) (parts7 : Int) (C0 : Int) (C1 : Int) (C2 : ByteArray) (C3 : (List ua1))
 | p63 (l0 : (List ua2)) (params1 : (List ByteArray)) (parts7 : Int) (C0 : Int) (C1 : Int) (C2 : ByteArray) (C3 : (List ua1))
 | p255 (l0 : (List ua2)) (params1 : (List ByteArray)) (C0 : Int) (C1 : Int) (C2 : ByteArray) (C3 : (List ua1))
 | p4084 (l0 : (List ua2)) (params1 : (List ByteArray)) (i9 : Int) (C0 : Int) (C1 : Int) (C2 : ByteArray) (C3 : (List ua1))
def uG2 : vB2 → List Bool
 | .start .. => []
 | .p31 .. => [true, true, true, true]
 | .p63 .. => [true, true, true, true, true]
 | .p255 .. => [true, true, true, true, true, true, true]
 | .p4084 .. => [false, false, true, false, true, true, true, true, true, true, true]
def vP2 : vB2 → St E.S
 | .start l0 params1 t2_0 t2_1 t2_2 t2_3 => st0 81 [.sl 103 l0 false, .sl 9 params1 false, .agg [.v (.int .i64 t2_0), .v (.int .i64 t2_1), .v (.string t2_2), .sl 25 t2_3 false]] []
 | .p31 l0 params1 parts7 C0 C1 C2 C3 => mkSt 81 [0, 1, 5, 7] [.sl 103 l0 false, .sl 9 params1 false, .bp 0 0, .v (.int .i64 parts7)] [.var 25 [.v (.int .i64 C0), .v (.int .i64 C1), .v (.string C2), .sl 25 C3 false]]
 | .p63 l0 params1 parts7 C0 C1 C2 C3 => mkSt 81 [0, 1, 5, 7] [.sl 103 l0 false, .sl 9 params1 false, .bp 0 0, .v (.int .i64 parts7)] [.var 25 [.v (.int .i64 C0), .v (.int .i64 C1), .v (.string C2), .sl 25 C3 false]]
 | .p255 l0 params1 C0 C1 C2 C3 => mkSt 81 [0, 1, 5] [.sl 103 l0 false, .sl 9 params1 false, .bp 0 0] [.var 25 [.v (.int .i64 C0), .v (.int .i64 C1), .v (.string C2), .sl 25 C3 false]]
 | .p4084 l0 params1 i9 C0 C1 C2 C3 => mkSt 81 [0, 1, 5, 9] [.sl 103 l0 false, .sl 9 params1 false, .bp 0 0, .v (.int .i64 i9)] [.var 25 [.v (.int .i64 C0), .v (.int .i64 C1), .v (.string C2), .sl 25 C3 false]]
abbrev vQ1 : Type := ((Int × Unit) × Unit)
def uo9 : Res E (Int × Unit) Unit := { rows := [], flat := [], keep := 0, done := [0], rl := (.cons (Rd.int .i64) .nil), rb := .nil }
def ud2 : vB2 → Option vQ1
 | .start l0 params1 t2_0 t2_1 t2_2 t2_3 =>
  (uQ4 (.start t2_0 (0 : Int) (2 : Int))) >>= fun t1 =>
  if (!t1.1.1) = true then
   some (((15 : Int), ()), ())
  else
   if (t2_0 == (0 : Int)) = true then
    (up6 (.start params1 t2_2)) >>= fun t2 =>
    if (!t2.1.1) = true then
     some (((6 : Int), ()), ())
    else
     ud2 (.p31 l0 params1 (0 : Int) t2_0 t2_1 t2_2 t2_3)
   else
    ud2 (.p31 l0 params1 (0 : Int) t2_0 t2_1 t2_2 t2_3)
 | .p31 l0 params1 parts7 C0 C1 C2 C3 =>
  if (C0 == (1 : Int)) = true then
   (un1 (.start l0 C2)) >>= fun t1 =>
   if (seq C2 (⟨#[66, 105, 116]⟩ : ByteArray)) = true then
    ud2 (.p63 l0 params1 (1 : Int) C0 C1 C2 C3)
   else
    if (seq C2 (⟨#[66, 111, 111, 108]⟩ : ByteArray)) = true then
     ud2 (.p63 l0 params1 parts7 C0 C1 C2 C3)
    else
     if (decide (t1.1.1 ≥ (0 : Int))) = true then
      (idx l0 t1.1.1) >>= fun t2 =>
      ud2 (.p63 l0 params1 (List.length t2.Params : Int) C0 C1 C2 C3)
     else
      some (((6 : Int), ()), ())
  else
   ud2 (.p63 l0 params1 parts7 C0 C1 C2 C3)
 | .p63 l0 params1 parts7 C0 C1 C2 C3 =>
  if ((List.length C3 : Int) != parts7) = true then
   some (((10 : Int), ()), ())
  else
   if (C0 == (2 : Int)) = true then
    (uQ4 (.start C1 (0 : Int) (1000000000 : Int))) >>= fun t1 =>
    if (!t1.1.1) = true then
     some (((2 : Int), ()), ())
    else
     ud2 (.p255 l0 params1 C0 C1 C2 C3)
   else
    ud2 (.p255 l0 params1 C0 C1 C2 C3)
 | .p255 l0 params1 C0 C1 C2 C3 =>
  ud2 (.p4084 l0 params1 (0 : Int) C0 C1 C2 C3)
 | .p4084 l0 params1 i9 C0 C1 C2 C3 =>
  if (decide (i9 < (List.length C3 : Int))) = true then
   (idx C3 i9) >>= fun t1 =>
   (ud2 (.start l0 params1 t1.Kind t1.Value t1.Name t1.Parts)) >>= fun t2 =>
   if (t2.1.1 != (0 : Int)) = true then
    some ((t2.1.1, ()), ())
   else
    ud2 (.p4084 l0 params1 (IntKind.wrap .i64 (i9 + (1 : Int))) C0 C1 C2 C3)
  else
   some (((0 : Int), ()), ())
 partial_fixpoint
def xm7 : List (Plc E vB2) := [⟨31, [true, true, true, true], { slots := [0, 1, 5, 7], rows := [], flat := [], keep := 0 }, _, _, (.cons (Rd.sl 103 false) (.cons (Rd.sl 9 false) (.cons (Rd.bp 0 0) (.cons (Rd.int .i64) .nil)))), (.cons (.var 25 (.cons (Rd.int .i64) (.cons (Rd.int .i64) (.cons Rd.str (.cons (Rd.sl 25 false) .nil))))) .nil), fun a b => .p31 a.1 a.2.1 a.2.2.2.1 b.1.1 b.1.2.1 b.1.2.2.1 b.1.2.2.2.1⟩,
 ⟨63, [true, true, true, true, true], { slots := [0, 1, 5, 7], rows := [], flat := [], keep := 0 }, _, _, (.cons (Rd.sl 103 false) (.cons (Rd.sl 9 false) (.cons (Rd.bp 0 0) (.cons (Rd.int .i64) .nil)))), (.cons (.var 25 (.cons (Rd.int .i64) (.cons (Rd.int .i64) (.cons Rd.str (.cons (Rd.sl 25 false) .nil))))) .nil), fun a b => .p63 a.1 a.2.1 a.2.2.2.1 b.1.1 b.1.2.1 b.1.2.2.1 b.1.2.2.2.1⟩,
 ⟨255, [true, true, true, true, true, true, true], { slots := [0, 1, 5], rows := [], flat := [], keep := 0 }, _, _, (.cons (Rd.sl 103 false) (.cons (Rd.sl 9 false) (.cons (Rd.bp 0 0) .nil))), (.cons (.var 25 (.cons (Rd.int .i64) (.cons (Rd.int .i64) (.cons Rd.str (.cons (Rd.sl 25 false) .nil))))) .nil), fun a b => .p255 a.1 a.2.1 b.1.1 b.1.2.1 b.1.2.2.1 b.1.2.2.2.1⟩,
 ⟨4084, [false, false, true, false, true, true, true, true, true, true, true], { slots := [0, 1, 5, 9], rows := [], flat := [], keep := 0 }, _, _, (.cons (Rd.sl 103 false) (.cons (Rd.sl 9 false) (.cons (Rd.bp 0 0) (.cons (Rd.int .i64) .nil)))), (.cons (.var 25 (.cons (Rd.int .i64) (.cons (Rd.int .i64) (.cons Rd.str (.cons (Rd.sl 25 false) .nil))))) .nil), fun a b => .p4084 a.1 a.2.1 a.2.2.2.1 b.1.1 b.1.2.1 b.1.2.2.1 b.1.2.2.2.1⟩]
theorem wS5 : All (ub7 81 0 uG2 vP2) xm7 := ⟨⟨rfl, rfl, fun _ _ => rfl, fun _ _ => rfl⟩, ⟨⟨rfl, rfl, fun _ _ => rfl, fun _ _ => rfl⟩, ⟨⟨rfl, rfl, fun _ _ => rfl, fun _ _ => rfl⟩, ⟨⟨rfl, rfl, fun _ _ => rfl, fun _ _ => rfl⟩, trivial⟩⟩⟩⟩
def uI9 : Code := Tryz.f138.body.getD .skip
def w88 (run' : vB2 → Option vQ1) : Con E := ⟨138, ((List ua2) × ((List ByteArray) × ((Int × (Int × (ByteArray × ((List ua1) × Unit)))) × Unit))), Unit, (RwL.cons (Rw.sl 103) (RwL.cons (Rw.sl 9) (RwL.cons (Rw.agg (RwL.cons (Rd.int .i64).w (RwL.cons (Rd.int .i64).w (RwL.cons Rd.str.w (RwL.cons (Rw.sl 25) RwL.nil))))) RwL.nil))), RdBL.nil, 0, vQ1, fun a b => run' (.start a.1 a.2.1 a.2.2.1.1 a.2.2.1.2.1 a.2.2.1.2.2.1 a.2.2.1.2.2.2.1), uo9.av, uo9.bx⟩
theorem wI7 {run' : vB2 → Option vQ1} (ih : ∀ pt r, run' pt = some r → Good E Tryz.f138 uI9 0 (uo9.av r) (uo9.bx r) (uG2 pt) (vP2 pt)) : (w88 run').Ok := fun a b r h => ub2 (fn := Tryz.f138) (code := uI9) E_ok (by kernel_rfl) (by kernel_rfl) (by kernel_rfl) (Nat.le_of_ble_eq_true rfl) (ih (.start a.1 a.2.1 a.2.2.1.1 a.2.2.1.2.1 a.2.2.1.2.2.1 a.2.2.1.2.2.2.1) r h)
def ws1 (run' : vB2 → Option vQ1) : Spec E.S := (Con.add (w88 run') (Con.add vw0 (Con.add vS9 (Con.add vT0 ub0))))
theorem v99 {run' : vB2 → Option vQ1} (ih : ∀ pt r, run' pt = some r → Good E Tryz.f138 uI9 0 (uo9.av r) (uo9.bx r) (uG2 pt) (vP2 pt)) : ua9 E (ws1 run') := (Con.add_ok (wI7 ih) (Con.add_ok uW9 (Con.add_ok vn7 (Con.add_ok vn8 ua7))))
theorem xA8 : ∀ pt r, ud2 pt = some r → Good E Tryz.f138 uI9 0 (uo9.av r) (uo9.bx r) (uG2 pt) (vP2 pt) := by
 refine ud2.partial_correctness (fun pt r => Good E Tryz.f138 uI9 0 (uo9.av r) (uo9.bx r) (uG2 pt) (vP2 pt)) ?_
 intro run' ih pt r hr
 cases pt <;> exact ua8 (spec := (ws1 run')) (wr := (mkWr [] [])) (l := xm7) (z := 81) (p := uo9) E_ok wS5.mem rfl (v99 ih) ih (Eq.trans (by kernel_rfl) hr)
def w23 : Con E := ⟨138, _, _, (.cons (Rw.sl 103) (.cons (Rw.sl 9) (.cons (Rw.agg (.cons (Rd.int .i64).w (.cons (Rd.int .i64).w (.cons Rd.str.w (.cons (Rw.sl 25) .nil))))) .nil))), .nil, 0, vQ1, fun a b => ud2 (.start a.1 a.2.1 a.2.2.1.1 a.2.2.1.2.1 a.2.2.1.2.2.1 a.2.2.1.2.2.2.1), uo9.av, uo9.bx⟩
theorem wE3 : w23.Ok := fun a b r h => ub2 (fn := Tryz.f138) (code := uI9) E_ok (by kernel_rfl) (by kernel_rfl) (by kernel_rfl) (Nat.le_of_ble_eq_true rfl) (xA8 (.start a.1 a.2.1 a.2.2.1.1 a.2.2.1.2.1 a.2.2.1.2.2.1 a.2.2.1.2.2.2.1) r h)
inductive xq3 where
 | start (l0 : (List ua2)) (params1 : (List ByteArray)) (t2_0 : Int) (t2_1 : Int) (t2_2 : ByteArray) (t2_3 : (List ua1))
def vK1 : xq3 → List Bool
 | .start .. => []
def xL2 : xq3 → St E.S
 | .start l0 params1 t2_0 t2_1 t2_2 t2_3 => st0 14 [.sl 103 l0 false, .sl 9 params1 false, .agg [.v (.int .i64 t2_0), .v (.int .i64 t2_1), .v (.string t2_2), .sl 25 t2_3 false]] []
abbrev x09 : Type := ((Int × Unit) × Unit)
def ve6 : Res E (Int × Unit) Unit := { rows := [], flat := [], keep := 0, done := [0], rl := (.cons (Rd.int .i64) .nil), rb := .nil }
def u03 : xq3 → Option x09
 | .start l0 params1 t2_0 t2_1 t2_2 t2_3 =>
  (uQ3 (.start t2_0 t2_1 t2_2 t2_3)) >>= fun t1 =>
  if (!t1.1.1) = true then
   some (((8 : Int), ()), ())
  else
   (ud2 (.start l0 params1 t2_0 t2_1 t2_2 t2_3)) >>= fun t2 =>
   some ((t2.1.1, ()), ())
def xm8 : List (Plc E xq3) := []
theorem wS6 : All (ub7 14 0 vK1 xL2) xm8 := trivial
def wg9 : Code := Tryz.f103.body.getD .skip
def ws2 : Spec E.S := (Con.add w23 (Con.add vv9 ub0))
theorem wa0 : ua9 E ws2 := (Con.add_ok wE3 (Con.add_ok uW8 ua7))
theorem xA9 : ∀ pt r, u03 pt = some r → Good E Tryz.f103 wg9 0 (ve6.av r) (ve6.bx r) (vK1 pt) (xL2 pt) := by
 intro pt r hr
 cases pt <;> exact ua8 (spec := ws2) (wr := (mkWr [] [])) (l := xm8) (z := 14) (p := ve6) (run' := fun _ => none) E_ok wS6.mem rfl wa0 (fun _ _ h => by cases h) (Eq.trans (by kernel_rfl) hr)
def vT1 : Con E := ⟨103, _, _, (.cons (Rw.sl 103) (.cons (Rw.sl 9) (.cons (Rw.agg (.cons (Rd.int .i64).w (.cons (Rd.int .i64).w (.cons Rd.str.w (.cons (Rw.sl 25) .nil))))) .nil))), .nil, 0, x09, fun a b => u03 (.start a.1 a.2.1 a.2.2.1.1 a.2.2.1.2.1 a.2.2.1.2.2.1 a.2.2.1.2.2.2.1), ve6.av, ve6.bx⟩
theorem vn9 : vT1.Ok := fun a b r h => ub2 (fn := Tryz.f103) (code := wg9) E_ok (by kernel_rfl) (by kernel_rfl) (by kernel_rfl) (Nat.le_of_ble_eq_true rfl) (xA9 (.start a.1 a.2.1 a.2.2.1.1 a.2.2.1.2.1 a.2.2.1.2.2.1 a.2.2.1.2.2.2.1) r h)
inductive xq4 where
 | start (d0_0 : ByteArray) (d0_1 : (List ByteArray)) (d0_2 : (List ua0)) (c1_0 : ByteArray) (c1_1 : (List ua6)) (before2 : (List ua2))
 | p116 (before2 : (List ua2)) (i7 : Int) (C0 : ByteArray) (C1 : (List ByteArray)) (C2 : (List ua0)) (D0 : ByteArray) (D1 : (List ua6))
 | p59700 (before2 : (List ua2)) (i7 : Int) (k9 : Int) (C0 : ByteArray) (C1 : (List ByteArray)) (C2 : (List ua0)) (D0 : ByteArray) (D1 : (List ua6)) (G0 : ByteArray) (G1 : Int) (G2 : Int) (G3 : ByteArray) (G4 : (List ua1))
def va8 : xq4 → List Bool
 | .start .. => []
 | .p116 .. => [false, false, true, false, true, true]
 | .p59700 .. => [false, false, true, false, true, true, false, false, true, false, false, true, false, true, true]
def xd9 : xq4 → St E.S
 | .start d0_0 d0_1 d0_2 c1_0 c1_1 before2 => st0 54 [.agg [.v (.string d0_0), .sl 9 d0_1 false, .sl 56 d0_2 false], .agg [.v (.string c1_0), .sl 58 c1_1 false], .sl 103 before2 false] []
 | .p116 before2 i7 C0 C1 C2 D0 D1 => mkSt 54 [2, 3, 4, 7] [.sl 103 before2 false, .bp 0 0, .bp 1 0, .v (.int .i64 i7)] [.var 103 [.v (.string C0), .sl 9 C1 false, .sl 56 C2 false], .var 56 [.v (.string D0), .sl 58 D1 false]]
 | .p59700 before2 i7 k9 C0 C1 C2 D0 D1 G0 G1 G2 G3 G4 => mkSt 54 [2, 3, 4, 7, 8, 9] [.sl 103 before2 false, .bp 0 0, .bp 1 0, .v (.int .i64 i7), .bp 2 0, .v (.int .i64 k9)] [.var 103 [.v (.string C0), .sl 9 C1 false, .sl 56 C2 false], .var 56 [.v (.string D0), .sl 58 D1 false], .var 58 [.v (.string G0), .v (.int .i64 G1), .v (.int .i64 G2), .v (.string G3), .sl 25 G4 false]]
abbrev x10 : Type := ((Int × Unit) × Unit)
def uP6 : Res E (Int × Unit) Unit := { rows := [], flat := [], keep := 0, done := [0], rl := (.cons (Rd.int .i64) .nil), rb := .nil }
def uh8 : xq4 → Option x10
 | .start d0_0 d0_1 d0_2 c1_0 c1_1 before2 =>
  if (decide ((List.length c1_1 : Int) > (8 : Int))) = true then
   some (((8 : Int), ()), ())
  else
   uh8 (.p116 before2 (0 : Int) d0_0 d0_1 d0_2 c1_0 c1_1)
 | .p116 before2 i7 C0 C1 C2 D0 D1 =>
  if (decide (i7 < (List.length D1 : Int))) = true then
   (idx D1 i7) >>= fun t1 =>
   (ud5 (.start t1.Name)) >>= fun t2 =>
   if (!t2.1.1) = true then
    some (((4 : Int), ()), ())
   else
    uh8 (.p59700 before2 i7 (0 : Int) C0 C1 C2 D0 D1 t1.Name t1.Type_.Kind t1.Type_.Value t1.Type_.Name t1.Type_.Parts)
  else
   some (((0 : Int), ()), ())
 | .p59700 before2 i7 k9 C0 C1 C2 D0 D1 G0 G1 G2 G3 G4 =>
  if (decide (k9 < i7)) = true then
   (idx D1 k9) >>= fun t1 =>
   if (seq t1.Name G0) = true then
    some (((5 : Int), ()), ())
   else
    uh8 (.p59700 before2 i7 (IntKind.wrap .i64 (k9 + (1 : Int))) C0 C1 C2 D0 D1 G0 G1 G2 G3 G4)
  else
   (u03 (.start before2 C1 G1 G2 G3 G4)) >>= fun t2 =>
   if (t2.1.1 != (0 : Int)) = true then
    some ((t2.1.1, ()), ())
   else
    uh8 (.p116 before2 (IntKind.wrap .i64 (i7 + (1 : Int))) C0 C1 C2 D0 D1)
 partial_fixpoint
def xm9 : List (Plc E xq4) := [⟨116, [false, false, true, false, true, true], { slots := [2, 3, 4, 7], rows := [], flat := [], keep := 0 }, _, _, (.cons (Rd.sl 103 false) (.cons (Rd.bp 0 0) (.cons (Rd.bp 1 0) (.cons (Rd.int .i64) .nil)))), (.cons (.var 103 (.cons Rd.str (.cons (Rd.sl 9 false) (.cons (Rd.sl 56 false) .nil)))) (.cons (.var 56 (.cons Rd.str (.cons (Rd.sl 58 false) .nil))) .nil)), fun a b => .p116 a.1 a.2.2.2.1 b.1.1 b.1.2.1 b.1.2.2.1 b.2.1.1 b.2.1.2.1⟩,
 ⟨59700, [false, false, true, false, true, true, false, false, true, false, false, true, false, true, true], { slots := [2, 3, 4, 7, 8, 9], rows := [], flat := [], keep := 0 }, _, _, (.cons (Rd.sl 103 false) (.cons (Rd.bp 0 0) (.cons (Rd.bp 1 0) (.cons (Rd.int .i64) (.cons (Rd.bp 2 0) (.cons (Rd.int .i64) .nil)))))), (.cons (.var 103 (.cons Rd.str (.cons (Rd.sl 9 false) (.cons (Rd.sl 56 false) .nil)))) (.cons (.var 56 (.cons Rd.str (.cons (Rd.sl 58 false) .nil))) (.cons (.var 58 (.cons Rd.str (.cons (Rd.int .i64) (.cons (Rd.int .i64) (.cons Rd.str (.cons (Rd.sl 25 false) .nil)))))) .nil))), fun a b => .p59700 a.1 a.2.2.2.1 a.2.2.2.2.2.1 b.1.1 b.1.2.1 b.1.2.2.1 b.2.1.1 b.2.1.2.1 b.2.2.1.1 b.2.2.1.2.1 b.2.2.1.2.2.1 b.2.2.1.2.2.2.1 b.2.2.1.2.2.2.2.1⟩]
theorem wS7 : All (ub7 54 0 va8 xd9) xm9 := ⟨⟨rfl, rfl, fun _ _ => rfl, fun _ _ => rfl⟩, ⟨⟨rfl, rfl, fun _ _ => rfl, fun _ _ => rfl⟩, trivial⟩⟩
def vv1 : Code := Tryz.f121.body.getD .skip
def ws3 : Spec E.S := (Con.add vT1 (Con.add vS8 ub0))
theorem wa1 : ua9 E ws3 := (Con.add_ok vn9 (Con.add_ok vn6 ua7))
theorem xB0 : ∀ pt r, uh8 pt = some r → Good E Tryz.f121 vv1 0 (uP6.av r) (uP6.bx r) (va8 pt) (xd9 pt) := by
 refine uh8.partial_correctness (fun pt r => Good E Tryz.f121 vv1 0 (uP6.av r) (uP6.bx r) (va8 pt) (xd9 pt)) ?_
 intro run' ih pt r hr
 cases pt <;> exact ua8 (spec := ws3) (wr := (mkWr [] [])) (l := xm9) (z := 54) (p := uP6) E_ok wS7.mem rfl wa1 ih (Eq.trans (by kernel_rfl) hr)
def w24 : Con E := ⟨121, _, _, (.cons (Rw.agg (.cons Rd.str.w (.cons (Rw.sl 9) (.cons (Rw.sl 56) .nil)))) (.cons (Rw.agg (.cons Rd.str.w (.cons (Rw.sl 58) .nil))) (.cons (Rw.sl 103) .nil))), .nil, 0, x10, fun a b => uh8 (.start a.1.1 a.1.2.1 a.1.2.2.1 a.2.1.1 a.2.1.2.1 a.2.2.1), uP6.av, uP6.bx⟩
theorem wE4 : w24.Ok := fun a b r h => ub2 (fn := Tryz.f121) (code := vv1) E_ok (by kernel_rfl) (by kernel_rfl) (by kernel_rfl) (Nat.le_of_ble_eq_true rfl) (xB0 (.start a.1.1 a.1.2.1 a.1.2.2.1 a.2.1.1 a.2.1.2.1 a.2.2.1) r h)
inductive xq5 where
 | start (d0_0 : ByteArray) (d0_1 : (List ByteArray)) (d0_2 : (List ua0)) (before1 : (List ua2))
 | p15 (before1 : (List ua2)) (C0 : ByteArray) (C1 : (List ByteArray)) (C2 : (List ua0))
 | p31 (before1 : (List ua2)) (C0 : ByteArray) (C1 : (List ByteArray)) (C2 : (List ua0))
 | p1012 (before1 : (List ua2)) (i5 : Int) (C0 : ByteArray) (C1 : (List ByteArray)) (C2 : (List ua0))
 | p2036 (before1 : (List ua2)) (i6 : Int) (C0 : ByteArray) (C1 : (List ByteArray)) (C2 : (List ua0))
 | p130343 (before1 : (List ua2)) (i6 : Int) (C0 : ByteArray) (C1 : (List ByteArray)) (C2 : (List ua0)) (D0 : ByteArray) (D1 : (List ua6))
def va9 : xq5 → List Bool
 | .start .. => []
 | .p15 .. => [true, true, true]
 | .p31 .. => [true, true, true, true]
 | .p1012 .. => [false, false, true, false, true, true, true, true, true]
 | .p2036 .. => [false, false, true, false, true, true, true, true, true, true]
 | .p130343 .. => [true, true, true, false, false, true, false, false, true, false, true, true, true, true, true, true]
def xe0 : xq5 → St E.S
 | .start d0_0 d0_1 d0_2 before1 => st0 119 [.agg [.v (.string d0_0), .sl 9 d0_1 false, .sl 56 d0_2 false], .sl 103 before1 false] []
 | .p15 before1 C0 C1 C2 => mkSt 119 [1, 2] [.sl 103 before1 false, .bp 0 0] [.var 103 [.v (.string C0), .sl 9 C1 false, .sl 56 C2 false]]
 | .p31 before1 C0 C1 C2 => mkSt 119 [1, 2] [.sl 103 before1 false, .bp 0 0] [.var 103 [.v (.string C0), .sl 9 C1 false, .sl 56 C2 false]]
 | .p1012 before1 i5 C0 C1 C2 => mkSt 119 [1, 2, 5] [.sl 103 before1 false, .bp 0 0, .v (.int .i64 i5)] [.var 103 [.v (.string C0), .sl 9 C1 false, .sl 56 C2 false]]
 | .p2036 before1 i6 C0 C1 C2 => mkSt 119 [1, 2, 6] [.sl 103 before1 false, .bp 0 0, .v (.int .i64 i6)] [.var 103 [.v (.string C0), .sl 9 C1 false, .sl 56 C2 false]]
 | .p130343 before1 i6 C0 C1 C2 D0 D1 => mkSt 119 [1, 2, 6, 7] [.sl 103 before1 false, .bp 0 0, .v (.int .i64 i6), .bp 1 0] [.var 103 [.v (.string C0), .sl 9 C1 false, .sl 56 C2 false], .var 56 [.v (.string D0), .sl 58 D1 false]]
abbrev x11 : Type := ((Int × Unit) × Unit)
def uP7 : Res E (Int × Unit) Unit := { rows := [], flat := [], keep := 0, done := [0], rl := (.cons (Rd.int .i64) .nil), rb := .nil }
def ud6 : xq5 → Option x11
 | .start d0_0 d0_1 d0_2 before1 =>
  (ud5 (.start d0_0)) >>= fun t1 =>
  if (!t1.1.1) = true then
   some (((4 : Int), ()), ())
  else
   (un1 (.start before1 d0_0)) >>= fun t2 =>
   if (decide (t2.1.1 ≥ (0 : Int))) = true then
    some (((5 : Int), ()), ())
   else
    if (seq d0_0 (⟨#[66, 105, 116]⟩ : ByteArray)) = true then
     some (((5 : Int), ()), ())
    else
     if (seq d0_0 (⟨#[66, 111, 111, 108]⟩ : ByteArray)) = true then
      some (((5 : Int), ()), ())
     else
      if (seq d0_0 (⟨#[73, 110, 116, 101, 103, 101, 114]⟩ : ByteArray)) = true then
       some (((5 : Int), ()), ())
      else
       ud6 (.p15 before1 d0_0 d0_1 d0_2)
 | .p15 before1 C0 C1 C2 =>
  if (decide ((List.length C1 : Int) > (4 : Int))) = true then
   some (((8 : Int), ()), ())
  else
   if (decide ((List.length C2 : Int) > (16 : Int))) = true then
    some (((8 : Int), ()), ())
   else
    ud6 (.p31 before1 C0 C1 C2)
 | .p31 before1 C0 C1 C2 =>
  if ((List.length C2 : Int) == (0 : Int)) = true then
   some (((10 : Int), ()), ())
  else
   ud6 (.p1012 before1 (0 : Int) C0 C1 C2)
 | .p1012 before1 i5 C0 C1 C2 =>
  if (decide (i5 < (List.length C1 : Int))) = true then
   (idx C1 i5) >>= fun t1 =>
   (ud5 (.start t1)) >>= fun t2 =>
   if (!t2.1.1) = true then
    some (((4 : Int), ()), ())
   else
    (span (List.length C1) (0 : Int) i5) >>= fun t3 =>
    (idx C1 i5) >>= fun t4 =>
    (up6 (.start (cut C1 t3) t4)) >>= fun t5 =>
    if t5.1.1 = true then
     some (((5 : Int), ()), ())
    else
     ud6 (.p1012 before1 (IntKind.wrap .i64 (i5 + (1 : Int))) C0 C1 C2)
  else
   ud6 (.p2036 before1 (0 : Int) C0 C1 C2)
 | .p2036 before1 i6 C0 C1 C2 =>
  if (decide (i6 < (List.length C2 : Int))) = true then
   (idx C2 i6) >>= fun t1 =>
   (ud5 (.start t1.Name)) >>= fun t2 =>
   if (!t2.1.1) = true then
    some (((4 : Int), ()), ())
   else
    (uh1 (.start before1 t1.Name)) >>= fun t3 =>
    if t3.1.1 = true then
     some (((5 : Int), ()), ())
    else
     (span (List.length C2) (0 : Int) i6) >>= fun t4 =>
     (uh1 (.start ([(⟨(⟨#[]⟩ : ByteArray), [], cut C2 t4⟩ : ua2)] : List ua2) t1.Name)) >>= fun t5 =>
     if t5.1.1 = true then
      some (((5 : Int), ()), ())
     else
      if (seq t1.Name (⟨#[70, 97, 108, 115, 101]⟩ : ByteArray)) = true then
       some (((5 : Int), ()), ())
      else
       if (seq t1.Name (⟨#[84, 114, 117, 101]⟩ : ByteArray)) = true then
        some (((5 : Int), ()), ())
       else
        ud6 (.p130343 before1 i6 C0 C1 C2 t1.Name t1.Fields)
  else
   some (((0 : Int), ()), ())
 | .p130343 before1 i6 C0 C1 C2 D0 D1 =>
  (uh8 (.start C0 C1 C2 D0 D1 before1)) >>= fun t1 =>
  if (t1.1.1 != (0 : Int)) = true then
   some ((t1.1.1, ()), ())
  else
   ud6 (.p2036 before1 (IntKind.wrap .i64 (i6 + (1 : Int))) C0 C1 C2)
 partial_fixpoint
def xn0 : List (Plc E xq5) := [⟨15, [true, true, true], { slots := [1, 2], rows := [], flat := [], keep := 0 }, _, _, (.cons (Rd.sl 103 false) (.cons (Rd.bp 0 0) .nil)), (.cons (.var 103 (.cons Rd.str (.cons (Rd.sl 9 false) (.cons (Rd.sl 56 false) .nil)))) .nil), fun a b => .p15 a.1 b.1.1 b.1.2.1 b.1.2.2.1⟩,
 ⟨31, [true, true, true, true], { slots := [1, 2], rows := [], flat := [], keep := 0 }, _, _, (.cons (Rd.sl 103 false) (.cons (Rd.bp 0 0) .nil)), (.cons (.var 103 (.cons Rd.str (.cons (Rd.sl 9 false) (.cons (Rd.sl 56 false) .nil)))) .nil), fun a b => .p31 a.1 b.1.1 b.1.2.1 b.1.2.2.1⟩,
 ⟨1012, [false, false, true, false, true, true, true, true, true], { slots := [1, 2, 5], rows := [], flat := [], keep := 0 }, _, _, (.cons (Rd.sl 103 false) (.cons (Rd.bp 0 0) (.cons (Rd.int .i64) .nil))), (.cons (.var 103 (.cons Rd.str (.cons (Rd.sl 9 false) (.cons (Rd.sl 56 false) .nil)))) .nil), fun a b => .p1012 a.1 a.2.2.1 b.1.1 b.1.2.1 b.1.2.2.1⟩,
 ⟨2036, [false, false, true, false, true, true, true, true, true, true], { slots := [1, 2, 6], rows := [], flat := [], keep := 0 }, _, _, (.cons (Rd.sl 103 false) (.cons (Rd.bp 0 0) (.cons (Rd.int .i64) .nil))), (.cons (.var 103 (.cons Rd.str (.cons (Rd.sl 9 false) (.cons (Rd.sl 56 false) .nil)))) .nil), fun a b => .p2036 a.1 a.2.2.1 b.1.1 b.1.2.1 b.1.2.2.1⟩,
 ⟨130343, [true, true, true, false, false, true, false, false, true, false, true, true, true, true, true, true], { slots := [1, 2, 6, 7], rows := [], flat := [], keep := 0 }, _, _, (.cons (Rd.sl 103 false) (.cons (Rd.bp 0 0) (.cons (Rd.int .i64) (.cons (Rd.bp 1 0) .nil)))), (.cons (.var 103 (.cons Rd.str (.cons (Rd.sl 9 false) (.cons (Rd.sl 56 false) .nil)))) (.cons (.var 56 (.cons Rd.str (.cons (Rd.sl 58 false) .nil))) .nil)), fun a b => .p130343 a.1 a.2.2.1 b.1.1 b.1.2.1 b.1.2.2.1 b.2.1.1 b.2.1.2.1⟩]
theorem wS8 : All (ub7 119 0 va9 xe0) xn0 := ⟨⟨rfl, rfl, fun _ _ => rfl, fun _ _ => rfl⟩, ⟨⟨rfl, rfl, fun _ _ => rfl, fun _ _ => rfl⟩, ⟨⟨rfl, rfl, fun _ _ => rfl, fun _ _ => rfl⟩, ⟨⟨rfl, rfl, fun _ _ => rfl, fun _ _ => rfl⟩, ⟨⟨rfl, rfl, fun _ _ => rfl, fun _ _ => rfl⟩, trivial⟩⟩⟩⟩⟩
def vv2 : Code := Tryz.f79.body.getD .skip
def ws4 : Spec E.S := (Con.add w24 (Con.add w22 (Con.add vS9 (Con.add vw0 (Con.add vS8 ub0)))))
theorem wa2 : ua9 E ws4 := (Con.add_ok wE4 (Con.add_ok wE2 (Con.add_ok vn7 (Con.add_ok uW9 (Con.add_ok vn6 ua7)))))
theorem xB1 : ∀ pt r, ud6 pt = some r → Good E Tryz.f79 vv2 0 (uP7.av r) (uP7.bx r) (va9 pt) (xe0 pt) := by
 refine ud6.partial_correctness (fun pt r => Good E Tryz.f79 vv2 0 (uP7.av r) (uP7.bx r) (va9 pt) (xe0 pt)) ?_
 intro run' ih pt r hr
 cases pt <;> exact ua8 (spec := ws4) (wr := (mkWr [] [])) (l := xn0) (z := 119) (p := uP7) E_ok wS8.mem rfl wa2 ih (Eq.trans (by kernel_rfl) hr)
def w25 : Con E := ⟨79, _, _, (.cons (Rw.agg (.cons Rd.str.w (.cons (Rw.sl 9) (.cons (Rw.sl 56) .nil)))) (.cons (Rw.sl 103) .nil)), .nil, 0, x11, fun a b => ud6 (.start a.1.1 a.1.2.1 a.1.2.2.1 a.2.1), uP7.av, uP7.bx⟩
theorem wE5 : w25.Ok := fun a b r h => ub2 (fn := Tryz.f79) (code := vv2) E_ok (by kernel_rfl) (by kernel_rfl) (by kernel_rfl) (Nat.le_of_ble_eq_true rfl) (xB1 (.start a.1.1 a.1.2.1 a.1.2.2.1 a.2.1) r h)
inductive xq6 where
 | start (l0 : (List ua2))
 | p116 (l0 : (List ua2)) (i4 : Int)
def vb0 : xq6 → List Bool
 | .start .. => []
 | .p116 .. => [false, false, true, false, true, true]
def xe1 : xq6 → St E.S
 | .start l0 => st0 27 [.sl 103 l0 false] []
 | .p116 l0 i4 => mkSt 27 [0, 4] [.sl 103 l0 false, .v (.int .i64 i4)] []
abbrev x12 : Type := ((Int × (Int × Unit)) × Unit)
def uP8 : Res E (Int × (Int × Unit)) Unit := { rows := [], flat := [], keep := 0, done := [0, 1], rl := (.cons (Rd.int .i64) (.cons (Rd.int .i64) .nil)), rb := .nil }
def up7 : xq6 → Option x12
 | .start l0 =>
  if (decide ((List.length l0 : Int) > (20 : Int))) = true then
   some (((0 : Int), ((8 : Int), ())), ())
  else
   up7 (.p116 l0 (0 : Int))
 | .p116 l0 i4 =>
  if (decide (i4 < (List.length l0 : Int))) = true then
   (idx l0 i4) >>= fun t1 =>
   (span (List.length l0) (0 : Int) i4) >>= fun t2 =>
   (ud6 (.start t1.Name t1.Params t1.Constructors (cut l0 t2))) >>= fun t3 =>
   if (t3.1.1 != (0 : Int)) = true then
    some ((i4, (t3.1.1, ())), ())
   else
    up7 (.p116 l0 (IntKind.wrap .i64 (i4 + (1 : Int))))
  else
   some (((0 : Int), ((0 : Int), ())), ())
 partial_fixpoint
def xn1 : List (Plc E xq6) := [⟨116, [false, false, true, false, true, true], { slots := [0, 4], rows := [], flat := [], keep := 0 }, _, _, (.cons (Rd.sl 103 false) (.cons (Rd.int .i64) .nil)), .nil, fun a b => .p116 a.1 a.2.1⟩]
theorem wS9 : All (ub7 27 0 vb0 xe1) xn1 := ⟨⟨rfl, rfl, fun _ _ => rfl, fun _ _ => rfl⟩, trivial⟩
def vv3 : Code := Tryz.f24.body.getD .skip
def ws5 : Spec E.S := (Con.add w25 ub0)
theorem wa3 : ua9 E ws5 := (Con.add_ok wE5 ua7)
theorem xB2 : ∀ pt r, up7 pt = some r → Good E Tryz.f24 vv3 0 (uP8.av r) (uP8.bx r) (vb0 pt) (xe1 pt) := by
 refine up7.partial_correctness (fun pt r => Good E Tryz.f24 vv3 0 (uP8.av r) (uP8.bx r) (vb0 pt) (xe1 pt)) ?_
 intro run' ih pt r hr
 cases pt <;> exact ua8 (spec := ws5) (wr := (mkWr [] [])) (l := xn1) (z := 27) (p := uP8) E_ok wS9.mem rfl wa3 ih (Eq.trans (by kernel_rfl) hr)
def vT2 : Con E := ⟨24, _, _, (.cons (Rw.sl 103) .nil), .nil, 0, x12, fun a b => up7 (.start a.1), uP8.av, uP8.bx⟩
theorem vo0 : vT2.Ok := fun a b r h => ub2 (fn := Tryz.f24) (code := vv3) E_ok (by kernel_rfl) (by kernel_rfl) (by kernel_rfl) (Nat.le_of_ble_eq_true rfl) (xB2 (.start a.1) r h)
inductive xq7 where
 | start (l0 : (List ua2)) (t1_0 : Int) (t1_1 : Int) (t1_2 : ByteArray) (t1_3 : (List ua1))
def vK2 : xq7 → List Bool
 | .start .. => []
def xL3 : xq7 → St E.S
 | .start l0 t1_0 t1_1 t1_2 t1_3 => st0 16 [.sl 103 l0 false, .agg [.v (.int .i64 t1_0), .v (.int .i64 t1_1), .v (.string t1_2), .sl 25 t1_3 false]] []
abbrev x13 : Type := ((Int × Unit) × Unit)
def ve7 : Res E (Int × Unit) Unit := { rows := [], flat := [], keep := 0, done := [0], rl := (.cons (Rd.int .i64) .nil), rb := .nil }
def vz9 : xq7 → Option x13
 | .start l0 t1_0 t1_1 t1_2 t1_3 =>
  (ur4 (.start l0 t1_0 t1_1 t1_2 t1_3)) >>= fun t1 =>
  some ((t1.1.2.2.1, ()), ())
def xn2 : List (Plc E xq7) := []
theorem wT0 : All (ub7 16 0 vK2 xL3) xn2 := trivial
def wh0 : Code := Tryz.f25.body.getD .skip
def ws6 : Spec E.S := (Con.add uM6 ub0)
theorem wa4 : ua9 E ws6 := (Con.add_ok us8 ua7)
theorem xB3 : ∀ pt r, vz9 pt = some r → Good E Tryz.f25 wh0 0 (ve7.av r) (ve7.bx r) (vK2 pt) (xL3 pt) := by
 intro pt r hr
 cases pt <;> exact ua8 (spec := ws6) (wr := (mkWr [] [])) (l := xn2) (z := 16) (p := ve7) (run' := fun _ => none) E_ok wT0.mem rfl wa4 (fun _ _ h => by cases h) (Eq.trans (by kernel_rfl) hr)
def w26 : Con E := ⟨25, _, _, (.cons (Rw.sl 103) (.cons (Rw.agg (.cons (Rd.int .i64).w (.cons (Rd.int .i64).w (.cons Rd.str.w (.cons (Rw.sl 25) .nil))))) .nil)), .nil, 0, x13, fun a b => vz9 (.start a.1 a.2.1.1 a.2.1.2.1 a.2.1.2.2.1 a.2.1.2.2.2.1), ve7.av, ve7.bx⟩
theorem wE6 : w26.Ok := fun a b r h => ub2 (fn := Tryz.f25) (code := wh0) E_ok (by kernel_rfl) (by kernel_rfl) (by kernel_rfl) (Nat.le_of_ble_eq_true rfl) (xB3 (.start a.1 a.2.1.1 a.2.1.2.1 a.2.1.2.2.1 a.2.1.2.2.2.1) r h)
inductive xq8 where
 | start (l0 : (List ua2)) (t1_0 : Int) (t1_1 : Int) (t1_2 : ByteArray) (t1_3 : (List ua1)) (name2 : ByteArray)
def vK3 : xq8 → List Bool
 | .start .. => []
def xL4 : xq8 → St E.S
 | .start l0 t1_0 t1_1 t1_2 t1_3 name2 => st0 35 [.sl 103 l0 false, .agg [.v (.int .i64 t1_0), .v (.int .i64 t1_1), .v (.string t1_2), .sl 25 t1_3 false], .v (.string name2)] []
abbrev x14 : Type := (((List ua6) × (Int × Unit)) × Unit)
def ve8 : Res E ((List ua6) × (Int × Unit)) Unit := { rows := [], flat := [(0, 58)], keep := 0, done := [0, 1], rl := (.cons (Rd.sl 58 false) (.cons (Rd.int .i64) .nil)), rb := .nil }
def vh1 : xq8 → Option x14
 | .start l0 t1_0 t1_1 t1_2 t1_3 name2 =>
  (ur4 (.start l0 t1_0 t1_1 t1_2 t1_3)) >>= fun t1 =>
  if (t1.1.2.2.1 != (0 : Int)) = true then
   some (([], (t1.1.2.2.1, ())), ())
  else
   (uC8 (.start t1.1.1 name2)) >>= fun t2 =>
   if (decide (t2.1.1 < (0 : Int))) = true then
    some (([], ((6 : Int), ())), ())
   else
    t1.1.1 >>= fun t3 =>
    (idx (Option.getD t3.constructors []) t2.1.1) >>= fun t4 =>
    some ((t4.fields, ((0 : Int), ())), ())
def xn3 : List (Plc E xq8) := []
theorem wT1 : All (ub7 35 0 vK3 xL4) xn3 := trivial
def wh1 : Code := Tryz.f26.body.getD .skip
def ws7 : Spec E.S := (Con.add vv8 (Con.add uM6 ub0))
theorem wa5 : ua9 E ws7 := (Con.add_ok uW7 (Con.add_ok us8 ua7))
theorem xB4 : ∀ pt r, vh1 pt = some r → Good E Tryz.f26 wh1 0 (ve8.av r) (ve8.bx r) (vK3 pt) (xL4 pt) := by
 intro pt r hr
 cases pt <;> exact ua8 (spec := ws7) (wr := (mkWr [] [])) (l := xn3) (z := 35) (p := ve8) (run' := fun _ => none) E_ok wT1.mem rfl wa5 (fun _ _ h => by cases h) (Eq.trans (by kernel_rfl) hr)
def w27 : Con E := ⟨26, _, _, (.cons (Rw.sl 103) (.cons (Rw.agg (.cons (Rd.int .i64).w (.cons (Rd.int .i64).w (.cons Rd.str.w (.cons (Rw.sl 25) .nil))))) (.cons Rd.str.w .nil))), .nil, 0, x14, fun a b => vh1 (.start a.1 a.2.1.1 a.2.1.2.1 a.2.1.2.2.1 a.2.1.2.2.2.1 a.2.2.1), ve8.av, ve8.bx⟩
theorem wE7 : w27.Ok := fun a b r h => ub2 (fn := Tryz.f26) (code := wh1) E_ok (by kernel_rfl) (by kernel_rfl) (by kernel_rfl) (Nat.le_of_ble_eq_true rfl) (xB4 (.start a.1 a.2.1.1 a.2.1.2.1 a.2.1.2.2.1 a.2.1.2.2.2.1 a.2.2.1) r h)
inductive xq9 where
 | start (l0 : (List ua2))
def vK4 : xq9 → List Bool
 | .start .. => []
def xL5 : xq9 → St E.S
 | .start l0 => st0 11 [.sl 103 l0 false] []
abbrev x17 : Type := ((Int × Unit) × Unit)
def ve9 : Res E (Int × Unit) Unit := { rows := [], flat := [], keep := 0, done := [0], rl := (.cons (Rd.int .i64) .nil), rb := .nil }
def vA0 : xq9 → Option x17
 | .start l0 =>
  (up7 (.start l0)) >>= fun t1 =>
  some ((t1.1.2.1, ()), ())
def xn5 : List (Plc E xq9) := []
theorem wT2 : All (ub7 11 0 vK4 xL5) xn5 := trivial
def wh2 : Code := Tryz.f62.body.getD .skip
def ws8 : Spec E.S := (Con.add vT2 ub0)
theorem wa6 : ua9 E ws8 := (Con.add_ok vo0 ua7)
theorem xB5 : ∀ pt r, vA0 pt = some r → Good E Tryz.f62 wh2 0 (ve9.av r) (ve9.bx r) (vK4 pt) (xL5 pt) := by
 intro pt r hr
 cases pt <;> exact ua8 (spec := ws8) (wr := (mkWr [] [])) (l := xn5) (z := 11) (p := ve9) (run' := fun _ => none) E_ok wT2.mem rfl wa6 (fun _ _ h => by cases h) (Eq.trans (by kernel_rfl) hr)
def w29 : Con E := ⟨62, _, _, (.cons (Rw.sl 103) .nil), .nil, 0, x17, fun a b => vA0 (.start a.1), ve9.av, ve9.bx⟩
theorem wE8 : w29.Ok := fun a b r h => ub2 (fn := Tryz.f62) (code := wh2) E_ok (by kernel_rfl) (by kernel_rfl) (by kernel_rfl) (Nat.le_of_ble_eq_true rfl) (xB5 (.start a.1) r h)
inductive xr0 where
 | start (t0_0 : Int) (t0_1 : Int) (t0_2 : ByteArray) (t0_3 : (List ua1))
def vK5 : xr0 → List Bool
 | .start .. => []
def xL6 : xr0 → St E.S
 | .start t0_0 t0_1 t0_2 t0_3 => st0 11 [.agg [.v (.int .i64 t0_0), .v (.int .i64 t0_1), .v (.string t0_2), .sl 25 t0_3 false]] []
abbrev x18 : Type := ((Bool × Unit) × Unit)
def vf0 : Res E (Bool × Unit) Unit := { rows := [], flat := [], keep := 0, done := [0], rl := (.cons Rd.bool .nil), rb := .nil }
def uD2 : xr0 → Option x18
 | .start t0_0 t0_1 t0_2 t0_3 =>
  if (t0_0 == (1 : Int)) = true then
   some ((seq t0_2 (⟨#[66, 105, 116]⟩ : ByteArray), ()), ())
  else
   some ((false, ()), ())
def xn6 : List (Plc E xr0) := []
theorem wT3 : All (ub7 11 0 vK5 xL6) xn6 := trivial
def wh3 : Code := Tryz.f27.body.getD .skip
def ws9 : Spec E.S := ub0
theorem wa7 : ua9 E ws9 := ua7
theorem xB6 : ∀ pt r, uD2 pt = some r → Good E Tryz.f27 wh3 0 (vf0.av r) (vf0.bx r) (vK5 pt) (xL6 pt) := by
 intro pt r hr
 cases pt <;> exact ua8 (spec := ws9) (wr := (mkWr [] [])) (l := xn6) (z := 11) (p := vf0) (run' := fun _ => none) E_ok wT3.mem rfl wa7 (fun _ _ h => by cases h) (Eq.trans (by kernel_rfl) hr)
def vw1 : Con E := ⟨27, _, _, (.cons (Rw.agg (.cons (Rd.int .i64).w (.cons (Rd.int .i64).w (.cons Rd.str.w (.cons (Rw.sl 25) .nil))))) .nil), .nil, 0, x18, fun a b => uD2 (.start a.1.1 a.1.2.1 a.1.2.2.1 a.1.2.2.2.1), vf0.av, vf0.bx⟩
theorem uX0 : vw1.Ok := fun a b r h => ub2 (fn := Tryz.f27) (code := wh3) E_ok (by kernel_rfl) (by kernel_rfl) (by kernel_rfl) (Nat.le_of_ble_eq_true rfl) (xB6 (.start a.1.1 a.1.2.1 a.1.2.2.1 a.1.2.2.2.1) r h)
inductive xr1 where
 | start (n0 : Int)
def vK6 : xr1 → List Bool
 | .start .. => []
def xL7 : xr1 → St E.S
 | .start n0 => st0 5 [.v (.int .i64 n0)] []
abbrev x19 : Type := ((Bool × Unit) × Unit)
def vf1 : Res E (Bool × Unit) Unit := { rows := [], flat := [], keep := 0, done := [0], rl := (.cons Rd.bool .nil), rb := .nil }
def u04 : xr1 → Option x19
 | .start n0 =>
  (uQ4 (.start n0 (1 : Int) (16 : Int))) >>= fun t1 =>
  some ((t1.1.1, ()), ())
def xn7 : List (Plc E xr1) := []
theorem wT4 : All (ub7 5 0 vK6 xL7) xn7 := trivial
def wh4 : Code := Tryz.f44.body.getD .skip
def wt0 : Spec E.S := (Con.add vT0 ub0)
theorem wa8 : ua9 E wt0 := (Con.add_ok vn8 ua7)
theorem xB7 : ∀ pt r, u04 pt = some r → Good E Tryz.f44 wh4 0 (vf1.av r) (vf1.bx r) (vK6 pt) (xL7 pt) := by
 intro pt r hr
 cases pt <;> exact ua8 (spec := wt0) (wr := (mkWr [] [])) (l := xn7) (z := 5) (p := vf1) (run' := fun _ => none) E_ok wT4.mem rfl wa8 (fun _ _ h => by cases h) (Eq.trans (by kernel_rfl) hr)
def vT3 : Con E := ⟨44, _, _, (.cons (Rd.int .i64).w .nil), .nil, 0, x19, fun a b => u04 (.start a.1), vf1.av, vf1.bx⟩
theorem vo1 : vT3.Ok := fun a b r h => ub2 (fn := Tryz.f44) (code := wh4) E_ok (by kernel_rfl) (by kernel_rfl) (by kernel_rfl) (Nat.le_of_ble_eq_true rfl) (xB7 (.start a.1) r h)
inductive vB3 where
 | start (t0_0 : Int) (t0_1 : Int) (t0_2 : ByteArray) (t0_3 : (List ua1)) (params1 : (List ByteArray)) (args2 : (List ua1))
 | p7 (params1 : (List ByteArray)) (args2 : (List ua1)) (C0 : Int) (C1 : Int) (C2 : ByteArray) (C3 : (List ua1)) (D0 : Int) (D1 : Int) (D2 : ByteArray)
 | p212 (params1 : (List ByteArray)) (args2 : (List ua1)) (i7 : Int) (C0 : Int) (C1 : Int) (C2 : ByteArray) (C3 : (List ua1)) (D0 : Int) (D1 : Int) (D2 : ByteArray)
 | p500 (params1 : (List ByteArray)) (args2 : (List ua1)) (i9 : Int) (C0 : Int) (C1 : Int) (C2 : ByteArray) (C3 : (List ua1)) (D0 : Int) (D1 : Int) (D2 : ByteArray) (G0 : Int) (G1 : Int) (G2 : ByteArray) (B3 : (List ua1))
def uG3 : vB3 → List Bool
 | .start .. => []
 | .p7 .. => [true, true]
 | .p212 .. => [false, false, true, false, true, false, true]
 | .p500 .. => [false, false, true, false, true, true, true, true]
def vP3 : vB3 → St E.S
 | .start t0_0 t0_1 t0_2 t0_3 params1 args2 => st0 54 [.agg [.v (.int .i64 t0_0), .v (.int .i64 t0_1), .v (.string t0_2), .sl 25 t0_3 false], .sl 9 params1 false, .sl 25 args2 false] []
 | .p7 params1 args2 C0 C1 C2 C3 D0 D1 D2 => mkSt 54 [1, 2, 3, 6] [.sl 9 params1 false, .sl 25 args2 false, .bp 0 0, .bp 1 0] [.var 25 [.v (.int .i64 C0), .v (.int .i64 C1), .v (.string C2), .sl 25 C3 false], .var 25 [.v (.int .i64 D0), .v (.int .i64 D1), .v (.string D2), .nl]]
 | .p212 params1 args2 i7 C0 C1 C2 C3 D0 D1 D2 => mkSt 54 [1, 2, 3, 6, 7] [.sl 9 params1 false, .sl 25 args2 false, .bp 0 0, .bp 1 0, .v (.int .i64 i7)] [.var 25 [.v (.int .i64 C0), .v (.int .i64 C1), .v (.string C2), .sl 25 C3 false], .var 25 [.v (.int .i64 D0), .v (.int .i64 D1), .v (.string D2), .nl]]
 | .p500 params1 args2 i9 C0 C1 C2 C3 D0 D1 D2 G0 G1 G2 B3 => mkSt 54 [1, 2, 3, 6, 8, 9] [.sl 9 params1 false, .sl 25 args2 false, .bp 0 0, .bp 1 0, .bp 2 0, .v (.int .i64 i9)] [.var 25 [.v (.int .i64 C0), .v (.int .i64 C1), .v (.string C2), .sl 25 C3 false], .var 25 [.v (.int .i64 D0), .v (.int .i64 D1), .v (.string D2), .nl], .var 25 [.v (.int .i64 G0), .v (.int .i64 G1), .v (.string G2), .rw 3], .row 25 B3 false]
abbrev vQ2 : Type := (((Int × (Int × (ByteArray × ((List ua1) × Unit)))) × Unit) × Unit)
def up0 : Res E ((Int × (Int × (ByteArray × ((List ua1) × Unit)))) × Unit) Unit := { rows := [], flat := [], keep := 0, deep := [(false, 0, 3, 25)], done := [0], rl := (.cons (Rd.agg (.cons (Rd.int .i64) (.cons (Rd.int .i64) (.cons Rd.str (.cons (Rd.sl 25 false) .nil))))) .nil), rb := .nil }
def uf0 : vB3 → Option vQ2
 | .start t0_0 t0_1 t0_2 t0_3 params1 args2 =>
  if (t0_0 == (0 : Int)) = true then
   uf0 (.p212 params1 args2 (0 : Int) t0_0 t0_1 t0_2 t0_3 (0 : Int) (0 : Int) (⟨#[]⟩ : ByteArray))
  else
   uf0 (.p7 params1 args2 t0_0 t0_1 t0_2 t0_3 (0 : Int) (0 : Int) (⟨#[]⟩ : ByteArray))
 | .p7 params1 args2 C0 C1 C2 C3 D0 D1 D2 =>
  uf0 (.p500 params1 args2 (0 : Int) C0 C1 C2 C3 D0 D1 D2 C0 C1 C2 ([] : List ua1))
 | .p212 params1 args2 i7 C0 C1 C2 C3 D0 D1 D2 =>
  if (decide (i7 < (List.length params1 : Int))) = true then
   (idx params1 i7) >>= fun t1 =>
   if (seq t1 C2) = true then
    (idx args2 i7) >>= fun t2 =>
    (un0 (.start t2.Kind t2.Value t2.Name t2.Parts)) >>= fun t3 =>
    some (((t3.1.1.1, (t3.1.1.2.1, (t3.1.1.2.2.1, (t3.1.1.2.2.2.1, ())))), ()), ())
   else
    uf0 (.p212 params1 args2 (IntKind.wrap .i64 (i7 + (1 : Int))) C0 C1 C2 C3 D0 D1 D2)
  else
   uf0 (.p7 params1 args2 C0 C1 C2 C3 D0 D1 D2)
 | .p500 params1 args2 i9 C0 C1 C2 C3 D0 D1 D2 G0 G1 G2 B3 =>
  if (decide (i9 < (List.length C3 : Int))) = true then
   (idx C3 i9) >>= fun t1 =>
   (uf0 (.start t1.Kind t1.Value t1.Name t1.Parts params1 args2)) >>= fun t2 =>
   if (fits (List.length B3) (List.length ([(⟨t2.1.1.1, t2.1.1.2.1, t2.1.1.2.2.1, t2.1.1.2.2.2.1⟩ : ua1)] : List ua1)) 56) = true then
    uf0 (.p500 params1 args2 (IntKind.wrap .i64 (i9 + (1 : Int))) C0 C1 C2 C3 D0 D1 D2 G0 G1 G2 (B3 ++ ([(⟨t2.1.1.1, t2.1.1.2.1, t2.1.1.2.2.1, t2.1.1.2.2.2.1⟩ : ua1)] : List ua1)))
   else none
  else
   some (((G0, (G1, (G2, (B3, ())))), ()), ())
 partial_fixpoint
def xn8 : List (Plc E vB3) := [⟨7, [true, true], { slots := [1, 2, 3, 6], rows := [], flat := [], keep := 0 }, _, _, (.cons (Rd.sl 9 false) (.cons (Rd.sl 25 false) (.cons (Rd.bp 0 0) (.cons (Rd.bp 1 0) .nil)))), (.cons (.var 25 (.cons (Rd.int .i64) (.cons (Rd.int .i64) (.cons Rd.str (.cons (Rd.sl 25 false) .nil))))) (.cons (.var 25 (.cons (Rd.int .i64) (.cons (Rd.int .i64) (.cons Rd.str (.cons Rd.nl .nil))))) .nil)), fun a b => .p7 a.1 a.2.1 b.1.1 b.1.2.1 b.1.2.2.1 b.1.2.2.2.1 b.2.1.1 b.2.1.2.1 b.2.1.2.2.1⟩,
 ⟨212, [false, false, true, false, true, false, true], { slots := [1, 2, 3, 6, 7], rows := [], flat := [], keep := 0 }, _, _, (.cons (Rd.sl 9 false) (.cons (Rd.sl 25 false) (.cons (Rd.bp 0 0) (.cons (Rd.bp 1 0) (.cons (Rd.int .i64) .nil))))), (.cons (.var 25 (.cons (Rd.int .i64) (.cons (Rd.int .i64) (.cons Rd.str (.cons (Rd.sl 25 false) .nil))))) (.cons (.var 25 (.cons (Rd.int .i64) (.cons (Rd.int .i64) (.cons Rd.str (.cons Rd.nl .nil))))) .nil)), fun a b => .p212 a.1 a.2.1 a.2.2.2.2.1 b.1.1 b.1.2.1 b.1.2.2.1 b.1.2.2.2.1 b.2.1.1 b.2.1.2.1 b.2.1.2.2.1⟩,
 ⟨500, [false, false, true, false, true, true, true, true], { slots := [1, 2, 3, 6, 8, 9], rows := [], flat := [], keep := 0, up := [(true, 8, 3, 25)] }, _, _, (.cons (Rd.sl 9 false) (.cons (Rd.sl 25 false) (.cons (Rd.bp 0 0) (.cons (Rd.bp 1 0) (.cons (Rd.bp 2 0) (.cons (Rd.int .i64) .nil)))))), (.cons (.var 25 (.cons (Rd.int .i64) (.cons (Rd.int .i64) (.cons Rd.str (.cons (Rd.sl 25 false) .nil))))) (.cons (.var 25 (.cons (Rd.int .i64) (.cons (Rd.int .i64) (.cons Rd.str (.cons Rd.nl .nil))))) (.cons (.var 25 (.cons (Rd.int .i64) (.cons (Rd.int .i64) (.cons Rd.str (.cons (Rd.rw 3) .nil))))) (.cons (.row 25 false) .nil)))), fun a b => .p500 a.1 a.2.1 a.2.2.2.2.2.1 b.1.1 b.1.2.1 b.1.2.2.1 b.1.2.2.2.1 b.2.1.1 b.2.1.2.1 b.2.1.2.2.1 b.2.2.1.1 b.2.2.1.2.1 b.2.2.1.2.2.1 b.2.2.2.1⟩]
theorem wT5 : All (ub7 54 0 uG3 vP3) xn8 := ⟨⟨rfl, rfl, fun _ _ => rfl, fun _ _ => rfl⟩, ⟨⟨rfl, rfl, fun _ _ => rfl, fun _ _ => rfl⟩, ⟨⟨rfl, rfl, fun _ _ => rfl, fun _ _ => rfl⟩, trivial⟩⟩⟩
def uJ0 : Code := Tryz.f82.body.getD .skip
def w89 (run' : vB3 → Option vQ2) : Con E := ⟨82, ((Int × (Int × (ByteArray × ((List ua1) × Unit)))) × ((List ByteArray) × ((List ua1) × Unit))), Unit, (RwL.cons (Rw.agg (RwL.cons (Rd.int .i64).w (RwL.cons (Rd.int .i64).w (RwL.cons Rd.str.w (RwL.cons (Rw.sl 25) RwL.nil))))) (RwL.cons (Rw.sl 9) (RwL.cons (Rw.sl 25) RwL.nil))), RdBL.nil, 0, vQ2, fun a b => run' (.start a.1.1 a.1.2.1 a.1.2.2.1 a.1.2.2.2.1 a.2.1 a.2.2.1), up0.av, up0.bx⟩
theorem wI8 {run' : vB3 → Option vQ2} (ih : ∀ pt r, run' pt = some r → Good E Tryz.f82 uJ0 0 (up0.av r) (up0.bx r) (uG3 pt) (vP3 pt)) : (w89 run').Ok := fun a b r h => ub2 (fn := Tryz.f82) (code := uJ0) E_ok (by kernel_rfl) (by kernel_rfl) (by kernel_rfl) (Nat.le_of_ble_eq_true rfl) (ih (.start a.1.1 a.1.2.1 a.1.2.2.1 a.1.2.2.2.1 a.2.1 a.2.2.1) r h)
def wt1 (run' : vB3 → Option vQ2) : Spec E.S := (Con.add (w89 run') (Con.add vS7 ub0))
theorem wa9 {run' : vB3 → Option vQ2} (ih : ∀ pt r, run' pt = some r → Good E Tryz.f82 uJ0 0 (up0.av r) (up0.bx r) (uG3 pt) (vP3 pt)) : ua9 E (wt1 run') := (Con.add_ok (wI8 ih) (Con.add_ok vn5 ua7))
theorem xB8 : ∀ pt r, uf0 pt = some r → Good E Tryz.f82 uJ0 0 (up0.av r) (up0.bx r) (uG3 pt) (vP3 pt) := by
 refine uf0.partial_correctness (fun pt r => Good E Tryz.f82 uJ0 0 (up0.av r) (up0.bx r) (uG3 pt) (vP3 pt)) ?_
 intro run' ih pt r hr
 cases pt <;> exact ua8 (spec := (wt1 run')) (wr := (mkWr [] [])) (l := xn8) (z := 54) (p := up0) E_ok wT5.mem rfl (wa9 ih) ih (Eq.trans (by kernel_rfl) hr)
def w30 : Con E := ⟨82, _, _, (.cons (Rw.agg (.cons (Rd.int .i64).w (.cons (Rd.int .i64).w (.cons Rd.str.w (.cons (Rw.sl 25) .nil))))) (.cons (Rw.sl 9) (.cons (Rw.sl 25) .nil))), .nil, 0, vQ2, fun a b => uf0 (.start a.1.1 a.1.2.1 a.1.2.2.1 a.1.2.2.2.1 a.2.1 a.2.2.1), up0.av, up0.bx⟩
theorem wE9 : w30.Ok := fun a b r h => ub2 (fn := Tryz.f82) (code := uJ0) E_ok (by kernel_rfl) (by kernel_rfl) (by kernel_rfl) (Nat.le_of_ble_eq_true rfl) (xB8 (.start a.1.1 a.1.2.1 a.1.2.2.1 a.1.2.2.2.1 a.2.1 a.2.2.1) r h)
inductive xr2 where
 | start (l0 : (List ua2)) (t1_0 : Int) (t1_1 : Int) (t1_2 : ByteArray) (t1_3 : (List ua1))
 | p500 (i7 : Int) (C0 : Int) (C1 : Int) (C2 : ByteArray) (C3 : (List ua1)) (D0 : ByteArray) (D1 : (List ByteArray)) (D2 : (List ua0)) (B2 : (List ua0))
 | p128148 (i7 : Int) (k9 : Int) (C0 : Int) (C1 : Int) (C2 : ByteArray) (C3 : (List ua1)) (D0 : ByteArray) (D1 : (List ByteArray)) (D2 : (List ua0)) (B2 : (List ua0)) (B3 : ByteArray) (B4 : (List ua6))
def vb1 : xr2 → List Bool
 | .start .. => []
 | .p500 .. => [false, false, true, false, true, true, true, true]
 | .p128148 .. => [false, false, true, false, true, false, false, true, false, false, true, false, true, true, true, true]
def xe2 : xr2 → St E.S
 | .start l0 t1_0 t1_1 t1_2 t1_3 => st0 78 [.sl 103 l0 false, .agg [.v (.int .i64 t1_0), .v (.int .i64 t1_1), .v (.string t1_2), .sl 25 t1_3 false]] []
 | .p500 i7 C0 C1 C2 C3 D0 D1 D2 B2 => mkSt 78 [3, 5, 6, 7] [.bp 0 0, .bp 1 0, .rw 2, .v (.int .i64 i7)] [.var 25 [.v (.int .i64 C0), .v (.int .i64 C1), .v (.string C2), .sl 25 C3 false], .var 103 [.v (.string D0), .sl 9 D1 false, .sl 56 D2 false], .row 56 B2 false]
 | .p128148 i7 k9 C0 C1 C2 C3 D0 D1 D2 B2 B3 B4 => mkSt 78 [3, 5, 6, 7, 8, 9] [.bp 0 0, .bp 1 0, .rw 2, .v (.int .i64 i7), .bp 3 0, .v (.int .i64 k9)] [.var 25 [.v (.int .i64 C0), .v (.int .i64 C1), .v (.string C2), .sl 25 C3 false], .var 103 [.v (.string D0), .sl 9 D1 false, .sl 56 D2 false], .row 56 B2 false, .var 56 [.v (.string B3), .rw 4], .row 58 B4 false]
abbrev x20 : Type := (((List ua0) × Unit) × Unit)
def uP9 : Res E ((List ua0) × Unit) Unit := { rows := [], flat := [(0, 56)], keep := 0, done := [0], rl := (.cons (Rd.sl 56 false) .nil), rb := .nil }
def uf4 : xr2 → Option x20
 | .start l0 t1_0 t1_1 t1_2 t1_3 =>
  if (seq t1_2 (⟨#[66, 111, 111, 108]⟩ : ByteArray)) = true then
   some ((([(⟨(⟨#[70, 97, 108, 115, 101]⟩ : ByteArray), []⟩ : ua0), (⟨(⟨#[84, 114, 117, 101]⟩ : ByteArray), []⟩ : ua0)] : List ua0), ()), ())
  else
   (un1 (.start l0 t1_2)) >>= fun t1 =>
   (idx l0 t1.1.1) >>= fun t2 =>
   uf4 (.p500 (0 : Int) t1_0 t1_1 t1_2 t1_3 t2.Name t2.Params t2.Constructors ([] : List ua0))
 | .p500 i7 C0 C1 C2 C3 D0 D1 D2 B2 =>
  if (decide (i7 < (List.length D2 : Int))) = true then
   (idx D2 i7) >>= fun t1 =>
   uf4 (.p128148 i7 (0 : Int) C0 C1 C2 C3 D0 D1 D2 B2 t1.Name ([] : List ua6))
  else
   some ((B2, ()), ())
 | .p128148 i7 k9 C0 C1 C2 C3 D0 D1 D2 B2 B3 B4 =>
  (idx D2 i7) >>= fun t1 =>
  if (decide (k9 < (List.length t1.Fields : Int))) = true then
   (idx D2 i7) >>= fun t2 =>
   (idx t2.Fields k9) >>= fun t3 =>
   (uf0 (.start t3.Type_.Kind t3.Type_.Value t3.Type_.Name t3.Type_.Parts D1 C3)) >>= fun t4 =>
   if (fits (List.length B4) (List.length ([(⟨t3.Name, (⟨t4.1.1.1, t4.1.1.2.1, t4.1.1.2.2.1, t4.1.1.2.2.2.1⟩ : ua1)⟩ : ua6)] : List ua6)) 72) = true then
    uf4 (.p128148 i7 (IntKind.wrap .i64 (k9 + (1 : Int))) C0 C1 C2 C3 D0 D1 D2 B2 B3 (B4 ++ ([(⟨t3.Name, (⟨t4.1.1.1, t4.1.1.2.1, t4.1.1.2.2.1, t4.1.1.2.2.2.1⟩ : ua1)⟩ : ua6)] : List ua6)))
   else none
  else
   if (fits (List.length B2) (List.length ([(⟨B3, B4⟩ : ua0)] : List ua0)) 40) = true then
    uf4 (.p500 (IntKind.wrap .i64 (i7 + (1 : Int))) C0 C1 C2 C3 D0 D1 D2 (B2 ++ ([(⟨B3, B4⟩ : ua0)] : List ua0)))
   else none
 partial_fixpoint
def xn9 : List (Plc E xr2) := [⟨500, [false, false, true, false, true, true, true, true], { slots := [3, 5, 6, 7], rows := [(6, 56)], flat := [], keep := 0 }, _, _, (.cons (Rd.bp 0 0) (.cons (Rd.bp 1 0) (.cons (Rd.rw 2) (.cons (Rd.int .i64) .nil)))), (.cons (.var 25 (.cons (Rd.int .i64) (.cons (Rd.int .i64) (.cons Rd.str (.cons (Rd.sl 25 false) .nil))))) (.cons (.var 103 (.cons Rd.str (.cons (Rd.sl 9 false) (.cons (Rd.sl 56 false) .nil)))) (.cons (.row 56 false) .nil))), fun a b => .p500 a.2.2.2.1 b.1.1 b.1.2.1 b.1.2.2.1 b.1.2.2.2.1 b.2.1.1 b.2.1.2.1 b.2.1.2.2.1 b.2.2.1⟩,
 ⟨128148, [false, false, true, false, true, false, false, true, false, false, true, false, true, true, true, true], { slots := [3, 5, 6, 7, 8, 9], rows := [], flat := [], keep := 0, up := [(true, 8, 1, 58)] }, _, _, (.cons (Rd.bp 0 0) (.cons (Rd.bp 1 0) (.cons (Rd.rw 2) (.cons (Rd.int .i64) (.cons (Rd.bp 3 0) (.cons (Rd.int .i64) .nil)))))), (.cons (.var 25 (.cons (Rd.int .i64) (.cons (Rd.int .i64) (.cons Rd.str (.cons (Rd.sl 25 false) .nil))))) (.cons (.var 103 (.cons Rd.str (.cons (Rd.sl 9 false) (.cons (Rd.sl 56 false) .nil)))) (.cons (.row 56 false) (.cons (.var 56 (.cons Rd.str (.cons (Rd.rw 4) .nil))) (.cons (.row 58 false) .nil))))), fun a b => .p128148 a.2.2.2.1 a.2.2.2.2.2.1 b.1.1 b.1.2.1 b.1.2.2.1 b.1.2.2.2.1 b.2.1.1 b.2.1.2.1 b.2.1.2.2.1 b.2.2.1 b.2.2.2.1.1 b.2.2.2.2.1⟩]
theorem wT6 : All (ub7 78 0 vb1 xe2) xn9 := ⟨⟨rfl, rfl, fun _ _ => rfl, fun _ _ => rfl⟩, ⟨⟨rfl, rfl, fun _ _ => rfl, fun _ _ => rfl⟩, trivial⟩⟩
def vv4 : Code := Tryz.f28.body.getD .skip
def wt2 : Spec E.S := (Con.add w30 (Con.add vw0 ub0))
theorem wb0 : ua9 E wt2 := (Con.add_ok wE9 (Con.add_ok uW9 ua7))
theorem xB9 : ∀ pt r, uf4 pt = some r → Good E Tryz.f28 vv4 0 (uP9.av r) (uP9.bx r) (vb1 pt) (xe2 pt) := by
 refine uf4.partial_correctness (fun pt r => Good E Tryz.f28 vv4 0 (uP9.av r) (uP9.bx r) (vb1 pt) (xe2 pt)) ?_
 intro run' ih pt r hr
 cases pt <;> exact ua8 (spec := wt2) (wr := (mkWr [] [(16019, [8])])) (l := xn9) (z := 78) (p := uP9) E_ok wT6.mem rfl wb0 ih (Eq.trans (by kernel_rfl) hr)
def u62 : Con E := ⟨28, _, _, (.cons (Rw.sl 103) (.cons (Rw.agg (.cons (Rd.int .i64).w (.cons (Rd.int .i64).w (.cons Rd.str.w (.cons (Rw.sl 25) .nil))))) .nil)), .nil, 0, x20, fun a b => uf4 (.start a.1 a.2.1.1 a.2.1.2.1 a.2.1.2.2.1 a.2.1.2.2.2.1), uP9.av, uP9.bx⟩
theorem uJ3 : u62.Ok := fun a b r h => ub2 (fn := Tryz.f28) (code := vv4) E_ok (by kernel_rfl) (by kernel_rfl) (by kernel_rfl) (Nat.le_of_ble_eq_true rfl) (xB9 (.start a.1 a.2.1.1 a.2.1.2.1 a.2.1.2.2.1 a.2.1.2.2.2.1) r h)
inductive vB4 where
 | start (l0 : (List ua2)) (t1_0 : Int) (t1_1 : Int) (t1_2 : ByteArray) (t1_3 : (List ua1)) (before2_0 : Int) (before2_1 : Int) (before2_2 : Int)
 | p31 (l0 : (List ua2)) (C0 : Int) (C1 : Int) (C2 : ByteArray) (C3 : (List ua1)) (D0 : Int) (D1 : Int) (D2 : Int) (G0 : Int) (G1 : Int) (G2 : Int)
 | p63 (l0 : (List ua2)) (C0 : Int) (C1 : Int) (C2 : ByteArray) (C3 : (List ua1)) (D0 : Int) (D1 : Int) (D2 : Int) (G0 : Int) (G1 : Int) (G2 : Int)
 | p127 (l0 : (List ua2)) (C0 : Int) (C1 : Int) (C2 : ByteArray) (C3 : (List ua1)) (D0 : Int) (D1 : Int) (D2 : Int) (G0 : Int) (G1 : Int) (G2 : Int)
 | p8180 (l0 : (List ua2)) (all8 : (List ua0)) (i9 : Int) (C0 : Int) (C1 : Int) (C2 : Int) (D0 : Int) (D1 : Int) (D2 : Int)
 | p523556 (l0 : (List ua2)) (all8 : (List ua0)) (i9 : Int) (k10 : Int) (C0 : Int) (C1 : Int) (C2 : Int) (D0 : Int) (D1 : Int) (D2 : Int)
def uG4 : vB4 → List Bool
 | .start .. => []
 | .p31 .. => [true, true, true, true]
 | .p63 .. => [true, true, true, true, true]
 | .p127 .. => [true, true, true, true, true, true]
 | .p8180 .. => [false, false, true, false, true, true, true, true, true, true, true, true]
 | .p523556 .. => [false, false, true, false, false, true, false, false, true, false, true, true, true, true, true, true, true, true]
def vP4 : vB4 → St E.S
 | .start l0 t1_0 t1_1 t1_2 t1_3 before2_0 before2_1 before2_2 => st0 113 [.sl 103 l0 false, .agg [.v (.int .i64 t1_0), .v (.int .i64 t1_1), .v (.string t1_2), .sl 25 t1_3 false], .agg [.v (.int .i64 before2_0), .v (.int .i64 before2_1), .v (.int .i64 before2_2)]] []
 | .p31 l0 C0 C1 C2 C3 D0 D1 D2 G0 G1 G2 => mkSt 113 [0, 4, 6, 7] [.sl 103 l0 false, .bp 0 0, .bp 1 0, .bp 2 0] [.var 25 [.v (.int .i64 C0), .v (.int .i64 C1), .v (.string C2), .sl 25 C3 false], .var 143 [.v (.int .i64 D0), .v (.int .i64 D1), .v (.int .i64 D2)], .var 143 [.v (.int .i64 G0), .v (.int .i64 G1), .v (.int .i64 G2)]]
 | .p63 l0 C0 C1 C2 C3 D0 D1 D2 G0 G1 G2 => mkSt 113 [0, 4, 6, 7] [.sl 103 l0 false, .bp 0 0, .bp 1 0, .bp 2 0] [.var 25 [.v (.int .i64 C0), .v (.int .i64 C1), .v (.string C2), .sl 25 C3 false], .var 143 [.v (.int .i64 D0), .v (.int .i64 D1), .v (.int .i64 D2)], .var 143 [.v (.int .i64 G0), .v (.int .i64 G1), .v (.int .i64 G2)]]
 | .p127 l0 C0 C1 C2 C3 D0 D1 D2 G0 G1 G2 => mkSt 113 [0, 4, 6, 7] [.sl 103 l0 false, .bp 0 0, .bp 1 0, .bp 2 0] [.var 25 [.v (.int .i64 C0), .v (.int .i64 C1), .v (.string C2), .sl 25 C3 false], .var 143 [.v (.int .i64 D0), .v (.int .i64 D1), .v (.int .i64 D2)], .var 143 [.v (.int .i64 G0), .v (.int .i64 G1), .v (.int .i64 G2)]]
 | .p8180 l0 all8 i9 C0 C1 C2 D0 D1 D2 => mkSt 113 [0, 6, 7, 8, 9] [.sl 103 l0 false, .bp 0 0, .bp 1 0, .sl 56 all8 false, .v (.int .i64 i9)] [.var 143 [.v (.int .i64 C0), .v (.int .i64 C1), .v (.int .i64 C2)], .var 143 [.v (.int .i64 D0), .v (.int .i64 D1), .v (.int .i64 D2)]]
 | .p523556 l0 all8 i9 k10 C0 C1 C2 D0 D1 D2 => mkSt 113 [0, 6, 7, 8, 9, 10] [.sl 103 l0 false, .bp 0 0, .bp 1 0, .sl 56 all8 false, .v (.int .i64 i9), .v (.int .i64 k10)] [.var 143 [.v (.int .i64 C0), .v (.int .i64 C1), .v (.int .i64 C2)], .var 143 [.v (.int .i64 D0), .v (.int .i64 D1), .v (.int .i64 D2)]]
abbrev vQ3 : Type := (((Int × (Int × (Int × Unit))) × Unit) × Unit)
def up1 : Res E ((Int × (Int × (Int × Unit))) × Unit) Unit := { rows := [], flat := [], keep := 0, done := [0], rl := (.cons (Rd.agg (.cons (Rd.int .i64) (.cons (Rd.int .i64) (.cons (Rd.int .i64) .nil)))) .nil), rb := .nil }
def uc1 : vB4 → Option vQ3
 | .start l0 t1_0 t1_1 t1_2 t1_3 before2_0 before2_1 before2_2 =>
  (uQ3 (.start t1_0 t1_1 t1_2 t1_3)) >>= fun t1 =>
  if (!t1.1.1) = true then
   some (((IntKind.wrap .i64 (before2_0 + (1 : Int)), ((8 : Int), (before2_2, ()))), ()), ())
  else
   if (t1_0 == (2 : Int)) = true then
    some (((IntKind.wrap .i64 (before2_0 + (1 : Int)), ((26 : Int), (before2_2, ()))), ()), ())
   else
    (uD2 (.start t1_0 t1_1 t1_2 t1_3)) >>= fun t2 =>
    if t2.1.1 = true then
     (idx t1_3 (0 : Int)) >>= fun t3 =>
     if (t3.Kind != (2 : Int)) = true then
      some (((IntKind.wrap .i64 (before2_0 + (1 : Int)), ((26 : Int), (before2_2, ()))), ()), ())
     else
      uc1 (.p31 l0 t1_0 t1_1 t1_2 t1_3 (0 : Int) (0 : Int) (0 : Int) (IntKind.wrap .i64 (before2_0 + (1 : Int))) (0 : Int) before2_2)
    else
     uc1 (.p31 l0 t1_0 t1_1 t1_2 t1_3 (0 : Int) (0 : Int) (0 : Int) (IntKind.wrap .i64 (before2_0 + (1 : Int))) (0 : Int) before2_2)
 | .p31 l0 C0 C1 C2 C3 D0 D1 D2 G0 G1 G2 =>
  (uD2 (.start C0 C1 C2 C3)) >>= fun t1 =>
  if t1.1.1 = true then
   (idx C3 (0 : Int)) >>= fun t2 =>
   (u04 (.start t2.Value)) >>= fun t3 =>
   if (!t3.1.1) = true then
    some (((G0, ((25 : Int), (G2, ()))), ()), ())
   else
    uc1 (.p63 l0 C0 C1 C2 C3 D0 D1 D2 G0 G1 G2)
  else
   uc1 (.p63 l0 C0 C1 C2 C3 D0 D1 D2 G0 G1 G2)
 | .p63 l0 C0 C1 C2 C3 D0 D1 D2 G0 G1 G2 =>
  if (decide (G0 > (200 : Int))) = true then
   some (((G0, ((8 : Int), (G2, ()))), ()), ())
  else
   if (decide (G2 ≥ (40 : Int))) = true then
    some (((G0, ((8 : Int), (G2, ()))), ()), ())
   else
    uc1 (.p127 l0 C0 C1 C2 C3 D0 D1 D2 G0 G1 G2)
 | .p127 l0 C0 C1 C2 C3 D0 D1 D2 G0 G1 G2 =>
  (uD2 (.start C0 C1 C2 C3)) >>= fun t1 =>
  if t1.1.1 = true then
   some (((G0, (G1, (G2, ()))), ()), ())
  else
   (uf4 (.start l0 C0 C1 C2 C3)) >>= fun t2 =>
   uc1 (.p8180 l0 t2.1.1 (0 : Int) D0 D1 D2 G0 G1 G2)
 | .p8180 l0 all8 i9 C0 C1 C2 D0 D1 D2 =>
  if (decide (i9 < (List.length all8 : Int))) = true then
   uc1 (.p523556 l0 all8 i9 (0 : Int) C0 C1 C2 D0 D1 D2)
  else
   some (((D0, (D1, (D2, ()))), ()), ())
 | .p523556 l0 all8 i9 k10 C0 C1 C2 D0 D1 D2 =>
  (idx all8 i9) >>= fun t1 =>
  if (decide (k10 < (List.length t1.Fields : Int))) = true then
   (idx all8 i9) >>= fun t2 =>
   (idx t2.Fields k10) >>= fun t3 =>
   (uc1 (.start l0 t3.Type_.Kind t3.Type_.Value t3.Type_.Name t3.Type_.Parts D0 (0 : Int) (IntKind.wrap .i64 (D2 + (1 : Int))))) >>= fun t4 =>
   if (t4.1.1.2.1 != (0 : Int)) = true then
    some (((t4.1.1.1, (t4.1.1.2.1, (D2, ()))), ()), ())
   else
    uc1 (.p523556 l0 all8 i9 (IntKind.wrap .i64 (k10 + (1 : Int))) C0 C1 C2 t4.1.1.1 t4.1.1.2.1 D2)
  else
   uc1 (.p8180 l0 all8 (IntKind.wrap .i64 (i9 + (1 : Int))) C0 C1 C2 D0 D1 D2)
 partial_fixpoint
def xo0 : List (Plc E vB4) := [⟨31, [true, true, true, true], { slots := [0, 4, 6, 7], rows := [], flat := [], keep := 0 }, _, _, (.cons (Rd.sl 103 false) (.cons (Rd.bp 0 0) (.cons (Rd.bp 1 0) (.cons (Rd.bp 2 0) .nil)))), (.cons (.var 25 (.cons (Rd.int .i64) (.cons (Rd.int .i64) (.cons Rd.str (.cons (Rd.sl 25 false) .nil))))) (.cons (.var 143 (.cons (Rd.int .i64) (.cons (Rd.int .i64) (.cons (Rd.int .i64) .nil)))) (.cons (.var 143 (.cons (Rd.int .i64) (.cons (Rd.int .i64) (.cons (Rd.int .i64) .nil)))) .nil))), fun a b => .p31 a.1 b.1.1 b.1.2.1 b.1.2.2.1 b.1.2.2.2.1 b.2.1.1 b.2.1.2.1 b.2.1.2.2.1 b.2.2.1.1 b.2.2.1.2.1 b.2.2.1.2.2.1⟩,
 ⟨63, [true, true, true, true, true], { slots := [0, 4, 6, 7], rows := [], flat := [], keep := 0 }, _, _, (.cons (Rd.sl 103 false) (.cons (Rd.bp 0 0) (.cons (Rd.bp 1 0) (.cons (Rd.bp 2 0) .nil)))), (.cons (.var 25 (.cons (Rd.int .i64) (.cons (Rd.int .i64) (.cons Rd.str (.cons (Rd.sl 25 false) .nil))))) (.cons (.var 143 (.cons (Rd.int .i64) (.cons (Rd.int .i64) (.cons (Rd.int .i64) .nil)))) (.cons (.var 143 (.cons (Rd.int .i64) (.cons (Rd.int .i64) (.cons (Rd.int .i64) .nil)))) .nil))), fun a b => .p63 a.1 b.1.1 b.1.2.1 b.1.2.2.1 b.1.2.2.2.1 b.2.1.1 b.2.1.2.1 b.2.1.2.2.1 b.2.2.1.1 b.2.2.1.2.1 b.2.2.1.2.2.1⟩,
 ⟨127, [true, true, true, true, true, true], { slots := [0, 4, 6, 7], rows := [], flat := [], keep := 0 }, _, _, (.cons (Rd.sl 103 false) (.cons (Rd.bp 0 0) (.cons (Rd.bp 1 0) (.cons (Rd.bp 2 0) .nil)))), (.cons (.var 25 (.cons (Rd.int .i64) (.cons (Rd.int .i64) (.cons Rd.str (.cons (Rd.sl 25 false) .nil))))) (.cons (.var 143 (.cons (Rd.int .i64) (.cons (Rd.int .i64) (.cons (Rd.int .i64) .nil)))) (.cons (.var 143 (.cons (Rd.int .i64) (.cons (Rd.int .i64) (.cons (Rd.int .i64) .nil)))) .nil))), fun a b => .p127 a.1 b.1.1 b.1.2.1 b.1.2.2.1 b.1.2.2.2.1 b.2.1.1 b.2.1.2.1 b.2.1.2.2.1 b.2.2.1.1 b.2.2.1.2.1 b.2.2.1.2.2.1⟩,
 ⟨8180, [false, false, true, false, true, true, true, true, true, true, true, true], { slots := [0, 6, 7, 8, 9], rows := [], flat := [], keep := 0 }, _, _, (.cons (Rd.sl 103 false) (.cons (Rd.bp 0 0) (.cons (Rd.bp 1 0) (.cons (Rd.sl 56 false) (.cons (Rd.int .i64) .nil))))), (.cons (.var 143 (.cons (Rd.int .i64) (.cons (Rd.int .i64) (.cons (Rd.int .i64) .nil)))) (.cons (.var 143 (.cons (Rd.int .i64) (.cons (Rd.int .i64) (.cons (Rd.int .i64) .nil)))) .nil)), fun a b => .p8180 a.1 a.2.2.2.1 a.2.2.2.2.1 b.1.1 b.1.2.1 b.1.2.2.1 b.2.1.1 b.2.1.2.1 b.2.1.2.2.1⟩,
 ⟨523556, [false, false, true, false, false, true, false, false, true, false, true, true, true, true, true, true, true, true], { slots := [0, 6, 7, 8, 9, 10], rows := [], flat := [], keep := 0 }, _, _, (.cons (Rd.sl 103 false) (.cons (Rd.bp 0 0) (.cons (Rd.bp 1 0) (.cons (Rd.sl 56 false) (.cons (Rd.int .i64) (.cons (Rd.int .i64) .nil)))))), (.cons (.var 143 (.cons (Rd.int .i64) (.cons (Rd.int .i64) (.cons (Rd.int .i64) .nil)))) (.cons (.var 143 (.cons (Rd.int .i64) (.cons (Rd.int .i64) (.cons (Rd.int .i64) .nil)))) .nil)), fun a b => .p523556 a.1 a.2.2.2.1 a.2.2.2.2.1 a.2.2.2.2.2.1 b.1.1 b.1.2.1 b.1.2.2.1 b.2.1.1 b.2.1.2.1 b.2.1.2.2.1⟩]
theorem wT7 : All (ub7 113 0 uG4 vP4) xo0 := ⟨⟨rfl, rfl, fun _ _ => rfl, fun _ _ => rfl⟩, ⟨⟨rfl, rfl, fun _ _ => rfl, fun _ _ => rfl⟩, ⟨⟨rfl, rfl, fun _ _ => rfl, fun _ _ => rfl⟩, ⟨⟨rfl, rfl, fun _ _ => rfl, fun _ _ => rfl⟩, ⟨⟨rfl, rfl, fun _ _ => rfl, fun _ _ => rfl⟩, trivial⟩⟩⟩⟩⟩
def uJ1 : Code := Tryz.f104.body.getD .skip
def w90 (run' : vB4 → Option vQ3) : Con E := ⟨104, ((List ua2) × ((Int × (Int × (ByteArray × ((List ua1) × Unit)))) × ((Int × (Int × (Int × Unit))) × Unit))), Unit, (RwL.cons (Rw.sl 103) (RwL.cons (Rw.agg (RwL.cons (Rd.int .i64).w (RwL.cons (Rd.int .i64).w (RwL.cons Rd.str.w (RwL.cons (Rw.sl 25) RwL.nil))))) (RwL.cons (Rw.agg (RwL.cons (Rd.int .i64).w (RwL.cons (Rd.int .i64).w (RwL.cons (Rd.int .i64).w RwL.nil)))) RwL.nil))), RdBL.nil, 0, vQ3, fun a b => run' (.start a.1 a.2.1.1 a.2.1.2.1 a.2.1.2.2.1 a.2.1.2.2.2.1 a.2.2.1.1 a.2.2.1.2.1 a.2.2.1.2.2.1), up1.av, up1.bx⟩
theorem wI9 {run' : vB4 → Option vQ3} (ih : ∀ pt r, run' pt = some r → Good E Tryz.f104 uJ1 0 (up1.av r) (up1.bx r) (uG4 pt) (vP4 pt)) : (w90 run').Ok := fun a b r h => ub2 (fn := Tryz.f104) (code := uJ1) E_ok (by kernel_rfl) (by kernel_rfl) (by kernel_rfl) (Nat.le_of_ble_eq_true rfl) (ih (.start a.1 a.2.1.1 a.2.1.2.1 a.2.1.2.2.1 a.2.1.2.2.2.1 a.2.2.1.1 a.2.2.1.2.1 a.2.2.1.2.2.1) r h)
def wt3 (run' : vB4 → Option vQ3) : Spec E.S := (Con.add (w90 run') (Con.add u62 (Con.add vT3 (Con.add vw1 (Con.add vv9 ub0)))))
theorem wb1 {run' : vB4 → Option vQ3} (ih : ∀ pt r, run' pt = some r → Good E Tryz.f104 uJ1 0 (up1.av r) (up1.bx r) (uG4 pt) (vP4 pt)) : ua9 E (wt3 run') := (Con.add_ok (wI9 ih) (Con.add_ok uJ3 (Con.add_ok vo1 (Con.add_ok uX0 (Con.add_ok uW8 ua7)))))
theorem xC0 : ∀ pt r, uc1 pt = some r → Good E Tryz.f104 uJ1 0 (up1.av r) (up1.bx r) (uG4 pt) (vP4 pt) := by
 refine uc1.partial_correctness (fun pt r => Good E Tryz.f104 uJ1 0 (up1.av r) (up1.bx r) (uG4 pt) (vP4 pt)) ?_
 intro run' ih pt r hr
 cases pt <;> exact ua8 (spec := (wt3 run')) (wr := (mkWr [] [])) (l := xo0) (z := 113) (p := up1) E_ok wT7.mem rfl (wb1 ih) ih (Eq.trans (by kernel_rfl) hr)
def w31 : Con E := ⟨104, _, _, (.cons (Rw.sl 103) (.cons (Rw.agg (.cons (Rd.int .i64).w (.cons (Rd.int .i64).w (.cons Rd.str.w (.cons (Rw.sl 25) .nil))))) (.cons (Rw.agg (.cons (Rd.int .i64).w (.cons (Rd.int .i64).w (.cons (Rd.int .i64).w .nil)))) .nil))), .nil, 0, vQ3, fun a b => uc1 (.start a.1 a.2.1.1 a.2.1.2.1 a.2.1.2.2.1 a.2.1.2.2.2.1 a.2.2.1.1 a.2.2.1.2.1 a.2.2.1.2.2.1), up1.av, up1.bx⟩
theorem wF0 : w31.Ok := fun a b r h => ub2 (fn := Tryz.f104) (code := uJ1) E_ok (by kernel_rfl) (by kernel_rfl) (by kernel_rfl) (Nat.le_of_ble_eq_true rfl) (xC0 (.start a.1 a.2.1.1 a.2.1.2.1 a.2.1.2.2.1 a.2.1.2.2.2.1 a.2.2.1.1 a.2.2.1.2.1 a.2.2.1.2.2.1) r h)
inductive xr3 where
 | start (n0 : Int)
def vK7 : xr3 → List Bool
 | .start .. => []
def xL8 : xr3 → St E.S
 | .start n0 => st0 5 [.v (.int .i64 n0)] []
abbrev x21 : Type := ((Int × Unit) × Unit)
def vf2 : Res E (Int × Unit) Unit := { rows := [], flat := [], keep := 0, done := [0], rl := (.cons (Rd.int .i64) .nil), rb := .nil }
def vh2 : xr3 → Option x21
 | .start n0 =>
  if (decide ((0 : Int) ≤ n0)) = true then
   some ((shl .i64 (1 : Int) n0, ()), ())
  else none
def xo1 : List (Plc E xr3) := []
theorem wT8 : All (ub7 5 0 vK7 xL8) xo1 := trivial
def wh5 : Code := Tryz.f18.body.getD .skip
def wt4 : Spec E.S := ub0
theorem wb2 : ua9 E wt4 := ua7
theorem xC1 : ∀ pt r, vh2 pt = some r → Good E Tryz.f18 wh5 0 (vf2.av r) (vf2.bx r) (vK7 pt) (xL8 pt) := by
 intro pt r hr
 cases pt <;> exact ua8 (spec := wt4) (wr := (mkWr [] [])) (l := xo1) (z := 5) (p := vf2) (run' := fun _ => none) E_ok wT8.mem rfl wb2 (fun _ _ h => by cases h) (Eq.trans (by kernel_rfl) hr)
def w32 : Con E := ⟨18, _, _, (.cons (Rd.int .i64).w .nil), .nil, 0, x21, fun a b => vh2 (.start a.1), vf2.av, vf2.bx⟩
theorem wF1 : w32.Ok := fun a b r h => ub2 (fn := Tryz.f18) (code := wh5) E_ok (by kernel_rfl) (by kernel_rfl) (by kernel_rfl) (Nat.le_of_ble_eq_true rfl) (xC1 (.start a.1) r h)
inductive xr4 where
 | start (count0 : Int)
 | p56 (count0 : Int) (n3 : Int)
def vb2 : xr4 → List Bool
 | .start .. => []
 | .p56 .. => [false, false, false, true, true]
def xe3 : xr4 → St E.S
 | .start count0 => st0 11 [.v (.int .i64 count0)] []
 | .p56 count0 n3 => mkSt 11 [0, 3] [.v (.int .i64 count0), .v (.int .i64 n3)] []
abbrev x22 : Type := ((Int × Unit) × Unit)
def uQ0 : Res E (Int × Unit) Unit := { rows := [], flat := [], keep := 0, done := [0], rl := (.cons (Rd.int .i64) .nil), rb := .nil }
def uv1 : xr4 → Option x22
 | .start count0 =>
  uv1 (.p56 count0 (0 : Int))
 | .p56 count0 n3 =>
  (vh2 (.start n3)) >>= fun t1 =>
  if (decide (t1.1.1 < count0)) = true then
   uv1 (.p56 count0 (IntKind.wrap .i64 (n3 + (1 : Int))))
  else
   some ((n3, ()), ())
 partial_fixpoint
def xo2 : List (Plc E xr4) := [⟨56, [false, false, false, true, true], { slots := [0, 3], rows := [], flat := [], keep := 0 }, _, _, (.cons (Rd.int .i64) (.cons (Rd.int .i64) .nil)), .nil, fun a b => .p56 a.1 a.2.1⟩]
theorem wT9 : All (ub7 11 0 vb2 xe3) xo2 := ⟨⟨rfl, rfl, fun _ _ => rfl, fun _ _ => rfl⟩, trivial⟩
def vv5 : Code := Tryz.f46.body.getD .skip
def wt5 : Spec E.S := (Con.add w32 ub0)
theorem wb3 : ua9 E wt5 := (Con.add_ok wF1 ua7)
theorem xC2 : ∀ pt r, uv1 pt = some r → Good E Tryz.f46 vv5 0 (uQ0.av r) (uQ0.bx r) (vb2 pt) (xe3 pt) := by
 refine uv1.partial_correctness (fun pt r => Good E Tryz.f46 vv5 0 (uQ0.av r) (uQ0.bx r) (vb2 pt) (xe3 pt)) ?_
 intro run' ih pt r hr
 cases pt <;> exact ua8 (spec := wt5) (wr := (mkWr [] [])) (l := xo2) (z := 11) (p := uQ0) E_ok wT9.mem rfl wb3 ih (Eq.trans (by kernel_rfl) hr)
def w33 : Con E := ⟨46, _, _, (.cons (Rd.int .i64).w .nil), .nil, 0, x22, fun a b => uv1 (.start a.1), uQ0.av, uQ0.bx⟩
theorem wF2 : w33.Ok := fun a b r h => ub2 (fn := Tryz.f46) (code := vv5) E_ok (by kernel_rfl) (by kernel_rfl) (by kernel_rfl) (Nat.le_of_ble_eq_true rfl) (xC2 (.start a.1) r h)
inductive vk4 where
 | start (l0 : (List ua2)) (c1_0 : ByteArray) (c1_1 : (List ua6))
 | p116 (l0 : (List ua2)) (n5 : Int) (i6 : Int) (C0 : ByteArray) (C1 : (List ua6))
def uu5 : vk4 → List Bool
 | .start .. => []
 | .p116 .. => [false, false, true, false, true, true]
def vi9 : vk4 → St E.S
 | .start l0 c1_0 c1_1 => st0 25 [.sl 103 l0 false, .agg [.v (.string c1_0), .sl 58 c1_1 false]] []
 | .p116 l0 n5 i6 C0 C1 => mkSt 25 [0, 3, 5, 6] [.sl 103 l0 false, .bp 0 0, .v (.int .i64 n5), .v (.int .i64 i6)] [.var 56 [.v (.string C0), .sl 58 C1 false]]
abbrev vs4 : Type := ((Int × Unit) × Unit)
def uj3 : Res E (Int × Unit) Unit := { rows := [], flat := [], keep := 0, done := [0], rl := (.cons (Rd.int .i64) .nil), rb := .nil }
inductive vB5 where
 | start (l0 : (List ua2)) (t1_0 : Int) (t1_1 : Int) (t1_2 : ByteArray) (t1_3 : (List ua1))
def uz2 : vB5 → List Bool
 | .start .. => []
def vr9 : vB5 → St E.S
 | .start l0 t1_0 t1_1 t1_2 t1_3 => st0 21 [.sl 103 l0 false, .agg [.v (.int .i64 t1_0), .v (.int .i64 t1_1), .v (.string t1_2), .sl 25 t1_3 false]] []
abbrev vQ4 : Type := ((Int × Unit) × Unit)
def ul4 : Res E (Int × Unit) Unit := { rows := [], flat := [], keep := 0, done := [0], rl := (.cons (Rd.int .i64) .nil), rb := .nil }
inductive uL6 where
 | start (l0 : (List ua2)) (t1_0 : Int) (t1_1 : Int) (t1_2 : ByteArray) (t1_3 : (List ua1))
 | p116 (l0 : (List ua2)) (all5 : (List ua0)) (most6 : Int) (i7 : Int)
def un7 : uL6 → List Bool
 | .start .. => []
 | .p116 .. => [false, false, true, false, true, true]
def uQ5 : uL6 → St E.S
 | .start l0 t1_0 t1_1 t1_2 t1_3 => st0 26 [.sl 103 l0 false, .agg [.v (.int .i64 t1_0), .v (.int .i64 t1_1), .v (.string t1_2), .sl 25 t1_3 false]] []
 | .p116 l0 all5 most6 i7 => mkSt 26 [0, 5, 6, 7] [.sl 103 l0 false, .sl 56 all5 false, .v (.int .i64 most6), .v (.int .i64 i7)] []
abbrev uR0 : Type := ((Int × Unit) × Unit)
def uf8 : Res E (Int × Unit) Unit := { rows := [], flat := [], keep := 0, done := [0], rl := (.cons (Rd.int .i64) .nil), rb := .nil }
mutual
def up8 : vk4 → Option vs4
 | .start l0 c1_0 c1_1 =>
  up8 (.p116 l0 (0 : Int) (0 : Int) c1_0 c1_1)
 | .p116 l0 n5 i6 C0 C1 =>
  if (decide (i6 < (List.length C1 : Int))) = true then
   (idx C1 i6) >>= fun t1 =>
   (run_z99 (.start l0 t1.Type_.Kind t1.Type_.Value t1.Type_.Name t1.Type_.Parts)) >>= fun t2 =>
   up8 (.p116 l0 (IntKind.wrap .i64 (n5 + t2.1.1)) (IntKind.wrap .i64 (i6 + (1 : Int))) C0 C1)
  else
   some ((n5, ()), ())
 partial_fixpoint
def run_z99 : vB5 → Option vQ4
 | .start l0 t1_0 t1_1 t1_2 t1_3 =>
  (uD2 (.start t1_0 t1_1 t1_2 t1_3)) >>= fun t1 =>
  if t1.1.1 = true then
   (idx t1_3 (0 : Int)) >>= fun t2 =>
   some ((t2.Value, ()), ())
  else
   (uf4 (.start l0 t1_0 t1_1 t1_2 t1_3)) >>= fun t3 =>
   (uv1 (.start (List.length t3.1.1 : Int))) >>= fun t4 =>
   (run_z100 (.start l0 t1_0 t1_1 t1_2 t1_3)) >>= fun t5 =>
   some ((IntKind.wrap .i64 (t4.1.1 + t5.1.1), ()), ())
 partial_fixpoint
def run_z100 : uL6 → Option uR0
 | .start l0 t1_0 t1_1 t1_2 t1_3 =>
  (uf4 (.start l0 t1_0 t1_1 t1_2 t1_3)) >>= fun t1 =>
  run_z100 (.p116 l0 t1.1.1 (0 : Int) (0 : Int))
 | .p116 l0 all5 most6 i7 =>
  if (decide (i7 < (List.length all5 : Int))) = true then
   (idx all5 i7) >>= fun t1 =>
   (up8 (.start l0 t1.Name t1.Fields)) >>= fun t2 =>
   run_z100 (.p116 l0 all5 (if t2.1.1 > most6 then t2.1.1 else most6) (IntKind.wrap .i64 (i7 + (1 : Int))))
  else
   some ((most6, ()), ())
 partial_fixpoint
end
def xo3 : List (Plc E vk4) := [⟨116, [false, false, true, false, true, true], { slots := [0, 3, 5, 6], rows := [], flat := [], keep := 0 }, _, _, (.cons (Rd.sl 103 false) (.cons (Rd.bp 0 0) (.cons (Rd.int .i64) (.cons (Rd.int .i64) .nil)))), (.cons (.var 56 (.cons Rd.str (.cons (Rd.sl 58 false) .nil))) .nil), fun a b => .p116 a.1 a.2.2.1 a.2.2.2.1 b.1.1 b.1.2.1⟩]
theorem wU0 : All (ub7 25 0 uu5 vi9) xo3 := ⟨⟨rfl, rfl, fun _ _ => rfl, fun _ _ => rfl⟩, trivial⟩
def uw6 : Code := Tryz.f87.body.getD .skip
def vW1 (run' : vk4 → Option vs4) : Con E := ⟨87, ((List ua2) × ((ByteArray × ((List ua6) × Unit)) × Unit)), Unit, (RwL.cons (Rw.sl 103) (RwL.cons (Rw.agg (RwL.cons Rd.str.w (RwL.cons (Rw.sl 58) RwL.nil))) RwL.nil)), RdBL.nil, 0, vs4, fun a b => run' (.start a.1 a.2.1.1 a.2.1.2.1), uj3.av, uj3.bx⟩
theorem vq4 {run' : vk4 → Option vs4} (ih : ∀ pt r, run' pt = some r → Good E Tryz.f87 uw6 0 (uj3.av r) (uj3.bx r) (uu5 pt) (vi9 pt)) : (vW1 run').Ok := fun a b r h => ub2 (fn := Tryz.f87) (code := uw6) E_ok (by kernel_rfl) (by kernel_rfl) (by kernel_rfl) (Nat.le_of_ble_eq_true rfl) (ih (.start a.1 a.2.1.1 a.2.1.2.1) r h)
def xo4 : List (Plc E vB5) := []
theorem wU1 : All (ub7 21 0 uz2 vr9) xo4 := trivial
def uA4 : Code := Tryz.f13.body.getD .skip
def w91 (run' : vB5 → Option vQ4) : Con E := ⟨13, ((List ua2) × ((Int × (Int × (ByteArray × ((List ua1) × Unit)))) × Unit)), Unit, (RwL.cons (Rw.sl 103) (RwL.cons (Rw.agg (RwL.cons (Rd.int .i64).w (RwL.cons (Rd.int .i64).w (RwL.cons Rd.str.w (RwL.cons (Rw.sl 25) RwL.nil))))) RwL.nil)), RdBL.nil, 0, vQ4, fun a b => run' (.start a.1 a.2.1.1 a.2.1.2.1 a.2.1.2.2.1 a.2.1.2.2.2.1), ul4.av, ul4.bx⟩
theorem wJ0 {run' : vB5 → Option vQ4} (ih : ∀ pt r, run' pt = some r → Good E Tryz.f13 uA4 0 (ul4.av r) (ul4.bx r) (uz2 pt) (vr9 pt)) : (w91 run').Ok := fun a b r h => ub2 (fn := Tryz.f13) (code := uA4) E_ok (by kernel_rfl) (by kernel_rfl) (by kernel_rfl) (Nat.le_of_ble_eq_true rfl) (ih (.start a.1 a.2.1.1 a.2.1.2.1 a.2.1.2.2.1 a.2.1.2.2.2.1) r h)
def wu0 : List (Plc E uL6) := [⟨116, [false, false, true, false, true, true], { slots := [0, 5, 6, 7], rows := [], flat := [], keep := 0 }, _, _, (.cons (Rd.sl 103 false) (.cons (Rd.sl 56 false) (.cons (Rd.int .i64) (.cons (Rd.int .i64) .nil)))), .nil, fun a b => .p116 a.1 a.2.1 a.2.2.1 a.2.2.2.1⟩]
theorem wb8 : All (ub7 26 0 un7 uQ5) wu0 := ⟨⟨rfl, rfl, fun _ _ => rfl, fun _ _ => rfl⟩, trivial⟩
def uq2 : Code := Tryz.f45.body.getD .skip
def vx9 (run' : uL6 → Option uR0) : Con E := ⟨45, ((List ua2) × ((Int × (Int × (ByteArray × ((List ua1) × Unit)))) × Unit)), Unit, (RwL.cons (Rw.sl 103) (RwL.cons (Rw.agg (RwL.cons (Rd.int .i64).w (RwL.cons (Rd.int .i64).w (RwL.cons Rd.str.w (RwL.cons (Rw.sl 25) RwL.nil))))) RwL.nil)), RdBL.nil, 0, uR0, fun a b => run' (.start a.1 a.2.1.1 a.2.1.2.1 a.2.1.2.2.1 a.2.1.2.2.2.1), uf8.av, uf8.bx⟩
theorem vb4 {run' : uL6 → Option uR0} (ih : ∀ pt r, run' pt = some r → Good E Tryz.f45 uq2 0 (uf8.av r) (uf8.bx r) (un7 pt) (uQ5 pt)) : (vx9 run').Ok := fun a b r h => ub2 (fn := Tryz.f45) (code := uq2) E_ok (by kernel_rfl) (by kernel_rfl) (by kernel_rfl) (Nat.le_of_ble_eq_true rfl) (ih (.start a.1 a.2.1.1 a.2.1.2.1 a.2.1.2.2.1 a.2.1.2.2.2.1) r h)
def wt6 (r_z98 : vk4 → Option vs4) (r_z99 : vB5 → Option vQ4) : Spec E.S := (Con.add (w91 r_z99) (Con.add (vW1 r_z98) ub0))
theorem wb4 {r_z98 : vk4 → Option vs4} (h_z98 : ∀ pt r, r_z98 pt = some r → Good E Tryz.f87 uw6 0 (uj3.av r) (uj3.bx r) (uu5 pt) (vi9 pt)) {r_z99 : vB5 → Option vQ4} (h_z99 : ∀ pt r, r_z99 pt = some r → Good E Tryz.f13 uA4 0 (ul4.av r) (ul4.bx r) (uz2 pt) (vr9 pt)) : ua9 E (wt6 r_z98 r_z99) := (Con.add_ok (wJ0 h_z99) (Con.add_ok (vq4 h_z98) ua7))
def wt7 (r_z100 : uL6 → Option uR0) : Spec E.S := (Con.add (vx9 r_z100) (Con.add w33 (Con.add u62 (Con.add vw1 ub0))))
theorem wb5 {r_z100 : uL6 → Option uR0} (h_z100 : ∀ pt r, r_z100 pt = some r → Good E Tryz.f45 uq2 0 (uf8.av r) (uf8.bx r) (un7 pt) (uQ5 pt)) : ua9 E (wt7 r_z100) := (Con.add_ok (vb4 h_z100) (Con.add_ok wF2 (Con.add_ok uJ3 (Con.add_ok uX0 ua7))))
def vM9 (r_z98 : vk4 → Option vs4) (r_z100 : uL6 → Option uR0) : Spec E.S := (Con.add (vx9 r_z100) (Con.add (vW1 r_z98) (Con.add u62 ub0)))
theorem vN0 {r_z98 : vk4 → Option vs4} (h_z98 : ∀ pt r, r_z98 pt = some r → Good E Tryz.f87 uw6 0 (uj3.av r) (uj3.bx r) (uu5 pt) (vi9 pt)) {r_z100 : uL6 → Option uR0} (h_z100 : ∀ pt r, r_z100 pt = some r → Good E Tryz.f45 uq2 0 (uf8.av r) (uf8.bx r) (un7 pt) (uQ5 pt)) : ua9 E (vM9 r_z98 r_z100) := (Con.add_ok (vb4 h_z100) (Con.add_ok (vq4 h_z98) (Con.add_ok uJ3 ua7)))
theorem u76 : (∀ pt r, up8 pt = some r → Good E Tryz.f87 uw6 0 (uj3.av r) (uj3.bx r) (uu5 pt) (vi9 pt)) ∧ (∀ pt r, run_z99 pt = some r → Good E Tryz.f13 uA4 0 (ul4.av r) (ul4.bx r) (uz2 pt) (vr9 pt)) ∧ (∀ pt r, run_z100 pt = some r → Good E Tryz.f45 uq2 0 (uf8.av r) (uf8.bx r) (un7 pt) (uQ5 pt)) := by
  refine up8.mutual_partial_correctness (fun pt r => Good E Tryz.f87 uw6 0 (uj3.av r) (uj3.bx r) (uu5 pt) (vi9 pt)) (fun pt r => Good E Tryz.f13 uA4 0 (ul4.av r) (ul4.bx r) (uz2 pt) (vr9 pt)) (fun pt r => Good E Tryz.f45 uq2 0 (uf8.av r) (uf8.bx r) (un7 pt) (uQ5 pt)) ?_ ?_ ?_
  · intro r_z98 r_z99 h_z98 h_z99 pt r hr
    cases pt <;> exact ua8 (spec := (wt6 r_z98 r_z99)) (wr := (mkWr [] [])) (l := xo3) (z := 25) (p := uj3) E_ok wU0.mem rfl (wb4 h_z98 h_z99) h_z98 (Eq.trans (by kernel_rfl) hr)
  · intro r_z100 h_z100 pt r hr
    cases pt <;> exact ua8 (spec := (wt7 r_z100)) (wr := (mkWr [] [])) (l := xo4) (z := 21) (p := ul4) (run' := fun _ => none) E_ok wU1.mem rfl (wb5 h_z100) (fun _ _ h => by cases h) (Eq.trans (by kernel_rfl) hr)
  · intro r_z98 r_z100 h_z98 h_z100 pt r hr
    cases pt <;> exact ua8 (spec := (vM9 r_z98 r_z100)) (wr := (mkWr [] [])) (l := wu0) (z := 26) (p := uf8) E_ok wb8.mem rfl (vN0 h_z98 h_z100) h_z100 (Eq.trans (by kernel_rfl) hr)
theorem xC3 : ∀ pt r, up8 pt = some r → Good E Tryz.f87 uw6 0 (uj3.av r) (uj3.bx r) (uu5 pt) (vi9 pt) := u76.1
theorem xC4 : ∀ pt r, run_z99 pt = some r → Good E Tryz.f13 uA4 0 (ul4.av r) (ul4.bx r) (uz2 pt) (vr9 pt) := u76.2.1
theorem w46 : ∀ pt r, run_z100 pt = some r → Good E Tryz.f45 uq2 0 (uf8.av r) (uf8.bx r) (un7 pt) (uQ5 pt) := u76.2.2
def xS3 : Con E := ⟨87, _, _, (.cons (Rw.sl 103) (.cons (Rw.agg (.cons Rd.str.w (.cons (Rw.sl 58) .nil))) .nil)), .nil, 0, vs4, fun a b => up8 (.start a.1 a.2.1.1 a.2.1.2.1), uj3.av, uj3.bx⟩
theorem xZ3 : xS3.Ok := fun a b r h => ub2 (fn := Tryz.f87) (code := uw6) E_ok (by kernel_rfl) (by kernel_rfl) (by kernel_rfl) (Nat.le_of_ble_eq_true rfl) (xC3 (.start a.1 a.2.1.1 a.2.1.2.1) r h)
def w34 : Con E := ⟨13, _, _, (.cons (Rw.sl 103) (.cons (Rw.agg (.cons (Rd.int .i64).w (.cons (Rd.int .i64).w (.cons Rd.str.w (.cons (Rw.sl 25) .nil))))) .nil)), .nil, 0, vQ4, fun a b => run_z99 (.start a.1 a.2.1.1 a.2.1.2.1 a.2.1.2.2.1 a.2.1.2.2.2.1), ul4.av, ul4.bx⟩
theorem wF3 : w34.Ok := fun a b r h => ub2 (fn := Tryz.f13) (code := uA4) E_ok (by kernel_rfl) (by kernel_rfl) (by kernel_rfl) (Nat.le_of_ble_eq_true rfl) (xC4 (.start a.1 a.2.1.1 a.2.1.2.1 a.2.1.2.2.1 a.2.1.2.2.2.1) r h)
def xs5 : Con E := ⟨45, _, _, (.cons (Rw.sl 103) (.cons (Rw.agg (.cons (Rd.int .i64).w (.cons (Rd.int .i64).w (.cons Rd.str.w (.cons (Rw.sl 25) .nil))))) .nil)), .nil, 0, uR0, fun a b => run_z100 (.start a.1 a.2.1.1 a.2.1.2.1 a.2.1.2.2.1 a.2.1.2.2.2.1), uf8.av, uf8.bx⟩
theorem xR5 : xs5.Ok := fun a b r h => ub2 (fn := Tryz.f45) (code := uq2) E_ok (by kernel_rfl) (by kernel_rfl) (by kernel_rfl) (Nat.le_of_ble_eq_true rfl) (w46 (.start a.1 a.2.1.1 a.2.1.2.1 a.2.1.2.2.1 a.2.1.2.2.2.1) r h)
end
end Go.Proofs.YtaennkkcnhfglaaGreatDoor.Ev.F
