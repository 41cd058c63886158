/- A part of the proof. -/
import Derived.Test.YtaennkkcnhfglaaGreatDoorNF1
set_option linter.unusedVariables false
set_option maxRecDepth 100000
namespace Go.Proofs.YtaennkkcnhfglaaGreatDoor.Ev.F
open Go.Proofs Go.Proofs.YtaennkkcnhfglaaGreatDoor.Ev
noncomputable section
inductive wF1 where
 | start (l0 : (List ua3)) (t1_0 : Int) (t1_1 : Int) (t1_2 : ByteArray) (t1_3 : (List ua0)) (v2_0 : ByteArray) (v2_1 : Int) (v2_2 : (List ua5))
 | p15 (x8 : (Option ua4)) (e10 : Int) (C0 : ByteArray) (C1 : Int) (C2 : (List ua5))
def vc8 : wF1 → List Bool
 | .start .. => []
 | .p15 .. => [true, true, true]
def xj5 : wF1 → St E.S
 | .start l0 t1_0 t1_1 t1_2 t1_3 v2_0 v2_1 v2_2 => st0 29 [.sl 103 l0 false, .agg [.v (.int .i64 t1_0), .v (.int .i64 t1_1), .v (.string t1_2), .sl 25 t1_3 false], .agg [.v (.string v2_0), .v (.int .i64 v2_1), .sl 37 v2_2 false]] []
 | .p15 x8 e10 C0 C1 C2 => mkSt 29 [5, 8, 10] [.bp 0 0, .op 128 x8, .v (.int .i64 e10)] [.var 37 [.v (.string C0), .v (.int .i64 C1), .sl 37 C2 false]]
abbrev xV7 : Type := (((Option ua4) × (Int × Unit)) × Unit)
def uP6 : Res E ((Option ua4) × (Int × Unit)) Unit := { rows := [], flat := [], keep := 0, done := [0, 1], rl := (.cons (Rd.op 128) (.cons (Rd.int .i64) .nil)), rb := .nil }
def uq0 : wF1 → Option xV7
 | .start l0 t1_0 t1_1 t1_2 t1_3 v2_0 v2_1 v2_2 =>
  (uu8 (.start l0 t1_0 t1_1 t1_2 t1_3)) >>= fun t1 =>
  if (t1.1.2.2.1 == (0 : Int)) = true then
   (uH7 (.start v2_0 v2_1 v2_2)) >>= fun t2 =>
   uq0 (.p15 t1.1.1 t2.1.1 v2_0 v2_1 v2_2)
  else
   uq0 (.p15 t1.1.1 t1.1.2.2.1 v2_0 v2_1 v2_2)
 | .p15 x8 e10 C0 C1 C2 =>
  if (e10 == (0 : Int)) = true then
   (run_z53 (.start x8 C0 C1 C2)) >>= fun t1 =>
   some ((x8, (t1.1.1, ())), ())
  else
   some ((x8, (e10, ())), ())
 partial_fixpoint
def xp8 : List (Plc E wF1) := [⟨15, [true, true, true], { slots := [5, 8, 10], rows := [], flat := [], keep := 0 }, _, _, (.cons (Rd.bp 0 0) (.cons (Rd.op 128) (.cons (Rd.int .i64) .nil))), (.cons (.var 37 (.cons Rd.str (.cons (Rd.int .i64) (.cons (Rd.sl 37 false) .nil)))) .nil), fun a b => .p15 a.2.1 a.2.2.1 b.1.1 b.1.2.1 b.1.2.2.1⟩]
theorem wW3 : All (ub7 29 0 vc8 xj5) xp8 := ⟨⟨rfl, rfl, fun _ _ => rfl, fun _ _ => rfl⟩, trivial⟩
def vy3 : Code := Tryz.f73.body.getD .skip
def ww0 : Spec E.S := (Con.add w67 (Con.add vY3 (Con.add uY9 ub0)))
theorem wd1 : ua9 E ww0 := (Con.add_ok wJ4 (Con.add_ok vp9 (Con.add_ok ux9 ua7)))
theorem xD6 : ∀ pt r, uq0 pt = some r → Good E Tryz.f73 vy3 0 (uP6.av r) (uP6.bx r) (vc8 pt) (xj5 pt) := by
 refine uq0.partial_correctness (fun pt r => Good E Tryz.f73 vy3 0 (uP6.av r) (uP6.bx r) (vc8 pt) (xj5 pt)) ?_
 intro run' ih pt r hr
 cases pt <;> exact ua8 (spec := ww0) (wr := (mkWr [] [])) (l := xp8) (z := 29) (p := uP6) E_ok wW3.mem rfl wd1 ih (Eq.trans (by kernel_rfl) hr)
def w68 : Con E := ⟨73, _, _, (.cons (Rw.sl 103) (.cons (Rw.agg (.cons (Rd.int .i64).w (.cons (Rd.int .i64).w (.cons Rd.str.w (.cons (Rw.sl 25) .nil))))) (.cons (Rw.agg (.cons Rd.str.w (.cons (Rd.int .i64).w (.cons (Rw.sl 37) .nil)))) .nil))), .nil, 0, xV7, fun a b => uq0 (.start a.1 a.2.1.1 a.2.1.2.1 a.2.1.2.2.1 a.2.1.2.2.2.1 a.2.2.1.1 a.2.2.1.2.1 a.2.2.1.2.2.1), uP6.av, uP6.bx⟩
theorem wJ5 : w68.Ok := fun a b r h => ub5 (fn := Tryz.f73) (code := vy3) E_ok (by kernel_rfl) (by kernel_rfl) (by kernel_rfl) (Nat.le_of_ble_eq_true rfl) (xD6 (.start a.1 a.2.1.1 a.2.1.2.1 a.2.1.2.2.1 a.2.1.2.2.2.1 a.2.2.1.1 a.2.2.1.2.1 a.2.2.1.2.2.1) r h)
inductive vm8 where
 | start (x0 : (Option ua4)) (v1_0 : ByteArray) (v1_1 : Int) (v1_2 : (List ua5))
 | p500 (x0 : (Option ua4)) (tag5 : Int) (fields6 : Int) (s24 : (Option (List (Option ua4)))) (s25 : Int) (s26 : Int) (C0 : ByteArray) (C1 : Int) (C2 : (List ua5))
def uG1 : vm8 → List Bool
 | .start .. => []
 | .p500 .. => [false, false, true, false, true, true, true, true]
def vT8 : vm8 → St E.S
 | .start x0 v1_0 v1_1 v1_2 => st0 50 [.op 128 x0, .agg [.v (.string v1_0), .v (.int .i64 v1_1), .sl 37 v1_2 false]] []
 | .p500 x0 tag5 fields6 s24 s25 s26 C0 C1 C2 => mkSt 50 [0, 3, 5, 6, 24, 25, 26] [.op 128 x0, .bp 0 0, .v (.int .i64 tag5), .v (.int .i64 fields6), .so 105 s24, .v (.int .i64 s25), .v (.int .i64 s26)] [.var 37 [.v (.string C0), .v (.int .i64 C1), .sl 37 C2 false]]
abbrev vH1 : Type := ((Int × Unit) × Unit)
def uo2 : Res E (Int × Unit) Unit := { rows := [], flat := [], keep := 0, done := [0], rl := (.cons (Rd.int .i64) .nil), rb := .nil }
def uk1 : vm8 → Option vH1
 | .start x0 v1_0 v1_1 v1_2 =>
  (ur6 (.start x0)) >>= fun t1 =>
  if t1.1.1 = true then
   some ((v1_1, ()), ())
  else
   (uH8 (.start x0 v1_0)) >>= fun t2 =>
   x0 >>= fun t3 =>
   (idx (Option.getD t3.constructors []) t2.1.1) >>= fun t4 =>
   uk1 (.p500 x0 t2.1.1 (0 : Int) t4.parts (List.length (Option.getD t4.parts []) : Int) (0 : Int) v1_0 v1_1 v1_2)
 | .p500 x0 tag5 fields6 s24 s25 s26 C0 C1 C2 =>
  if (decide (s26 < s25)) = true then
   (idx (Option.getD s24 []) s26) >>= fun t1 =>
   (run_z41 (.start t1)) >>= fun t2 =>
   if (decide ((0 : Int) ≤ t2.1.1)) = true then
    (idx C2 s26) >>= fun t3 =>
    (uk1 (.start t1 t3.Name t3.Number t3.Parts)) >>= fun t4 =>
    uk1 (.p500 x0 tag5 (bits .or .i64 (shl .i64 fields6 t2.1.1) t4.1.1) s24 s25 (IntKind.wrap .i64 (s26 + (1 : Int))) C0 C1 C2)
   else none
  else
   (run_z42 (.start x0)) >>= fun t5 =>
   if (decide ((0 : Int) ≤ t5.1.1)) = true then
    some ((bits .or .i64 (shl .i64 tag5 t5.1.1) fields6, ()), ())
   else none
 partial_fixpoint
def xp9 : List (Plc E vm8) := [⟨500, [false, false, true, false, true, true, true, true], { slots := [0, 3, 5, 6, 24, 25, 26], rows := [], flat := [], keep := 0 }, _, _, (.cons (Rd.op 128) (.cons (Rd.bp 0 0) (.cons (Rd.int .i64) (.cons (Rd.int .i64) (.cons (Rd.so 105) (.cons (Rd.int .i64) (.cons (Rd.int .i64) .nil))))))), (.cons (.var 37 (.cons Rd.str (.cons (Rd.int .i64) (.cons (Rd.sl 37 false) .nil)))) .nil), fun a b => .p500 a.1 a.2.2.1 a.2.2.2.1 a.2.2.2.2.1 a.2.2.2.2.2.1 a.2.2.2.2.2.2.1 b.1.1 b.1.2.1 b.1.2.2.1⟩]
theorem wW4 : All (ub7 50 0 uG1 vT8) xp9 := ⟨⟨rfl, rfl, fun _ _ => rfl, fun _ _ => rfl⟩, trivial⟩
def uJ3 : Code := Tryz.f74.body.getD .skip
def xe3 (run' : vm8 → Option vH1) : Con E := ⟨74, ((Option ua4) × ((ByteArray × (Int × ((List ua5) × Unit))) × Unit)), Unit, (RwL.cons (Rd.op 128).w (RwL.cons (Rw.agg (RwL.cons Rd.str.w (RwL.cons (Rd.int .i64).w (RwL.cons (Rw.sl 37) RwL.nil)))) RwL.nil)), RdBL.nil, 0, vH1, fun a b => run' (.start a.1 a.2.1.1 a.2.1.2.1 a.2.1.2.2.1), uo2.av, uo2.bx⟩
theorem wO6 {run' : vm8 → Option vH1} (ih : ∀ pt r, run' pt = some r → Good E Tryz.f74 uJ3 0 (uo2.av r) (uo2.bx r) (uG1 pt) (vT8 pt)) : (xe3 run').Ok := fun a b r h => ub5 (fn := Tryz.f74) (code := uJ3) E_ok (by kernel_rfl) (by kernel_rfl) (by kernel_rfl) (Nat.le_of_ble_eq_true rfl) (ih (.start a.1 a.2.1.1 a.2.1.2.1 a.2.1.2.2.1) r h)
def ww1 (run' : vm8 → Option vH1) : Spec E.S := (Con.add (xe3 run') (Con.add vY1 (Con.add uY8 (Con.add vY4 (Con.add uN6 ub0)))))
theorem wd2 {run' : vm8 → Option vH1} (ih : ∀ pt r, run' pt = some r → Good E Tryz.f74 uJ3 0 (uo2.av r) (uo2.bx r) (uG1 pt) (vT8 pt)) : ua9 E (ww1 run') := (Con.add_ok (wO6 ih) (Con.add_ok vp7 (Con.add_ok ux8 (Con.add_ok vq0 (Con.add_ok ut1 ua7)))))
theorem xD7 : ∀ pt r, uk1 pt = some r → Good E Tryz.f74 uJ3 0 (uo2.av r) (uo2.bx r) (uG1 pt) (vT8 pt) := by
 refine uk1.partial_correctness (fun pt r => Good E Tryz.f74 uJ3 0 (uo2.av r) (uo2.bx r) (uG1 pt) (vT8 pt)) ?_
 intro run' ih pt r hr
 cases pt <;> exact ua8 (spec := (ww1 run')) (wr := (mkWr [] [])) (l := xp9) (z := 50) (p := uo2) E_ok wW4.mem rfl (wd2 ih) ih (Eq.trans (by kernel_rfl) hr)
def w69 : Con E := ⟨74, _, _, (.cons (Rd.op 128).w (.cons (Rw.agg (.cons Rd.str.w (.cons (Rd.int .i64).w (.cons (Rw.sl 37) .nil)))) .nil)), .nil, 0, vH1, fun a b => uk1 (.start a.1 a.2.1.1 a.2.1.2.1 a.2.1.2.2.1), uo2.av, uo2.bx⟩
theorem wJ6 : w69.Ok := fun a b r h => ub5 (fn := Tryz.f74) (code := uJ3) E_ok (by kernel_rfl) (by kernel_rfl) (by kernel_rfl) (Nat.le_of_ble_eq_true rfl) (xD7 (.start a.1 a.2.1.1 a.2.1.2.1 a.2.1.2.2.1) r h)
inductive wF2 where
 | start (l0 : (List ua3)) (t1_0 : Int) (t1_1 : Int) (t1_2 : ByteArray) (t1_3 : (List ua0)) (v2_0 : ByteArray) (v2_1 : Int) (v2_2 : (List ua5))
def vO0 : wF2 → List Bool
 | .start .. => []
def xP8 : wF2 → St E.S
 | .start l0 t1_0 t1_1 t1_2 t1_3 v2_0 v2_1 v2_2 => st0 23 [.sl 103 l0 false, .agg [.v (.int .i64 t1_0), .v (.int .i64 t1_1), .v (.string t1_2), .sl 25 t1_3 false], .agg [.v (.string v2_0), .v (.int .i64 v2_1), .sl 37 v2_2 false]] []
abbrev xV8 : Type := ((Int × (Int × Unit)) × Unit)
def vg3 : Res E (Int × (Int × Unit)) Unit := { rows := [], flat := [], keep := 0, done := [0, 1], rl := (.cons (Rd.int .i64) (.cons (Rd.int .i64) .nil)), rb := .nil }
def uH9 : wF2 → Option xV8
 | .start l0 t1_0 t1_1 t1_2 t1_3 v2_0 v2_1 v2_2 =>
  (uq0 (.start l0 t1_0 t1_1 t1_2 t1_3 v2_0 v2_1 v2_2)) >>= fun t1 =>
  if (t1.1.2.1 != (0 : Int)) = true then
   some (((0 : Int), (t1.1.2.1, ())), ())
  else
   (uk1 (.start t1.1.1 v2_0 v2_1 v2_2)) >>= fun t2 =>
   some ((t2.1.1, ((0 : Int), ())), ())
def xq0 : List (Plc E wF2) := []
theorem wW5 : All (ub7 23 0 vO0 xP8) xq0 := trivial
def wm4 : Code := Tryz.f21.body.getD .skip
def ww2 : Spec E.S := (Con.add w69 (Con.add w68 ub0))
theorem wd3 : ua9 E ww2 := (Con.add_ok wJ6 (Con.add_ok wJ5 ua7))
theorem xD8 : ∀ pt r, uH9 pt = some r → Good E Tryz.f21 wm4 0 (vg3.av r) (vg3.bx r) (vO0 pt) (xP8 pt) := by
 intro pt r hr
 cases pt <;> exact ua8 (spec := ww2) (wr := (mkWr [] [])) (l := xq0) (z := 23) (p := vg3) (run' := fun _ => none) E_ok wW5.mem rfl wd3 (fun _ _ h => by cases h) (Eq.trans (by kernel_rfl) hr)
def vY5 : Con E := ⟨21, _, _, (.cons (Rw.sl 103) (.cons (Rw.agg (.cons (Rd.int .i64).w (.cons (Rd.int .i64).w (.cons Rd.str.w (.cons (Rw.sl 25) .nil))))) (.cons (Rw.agg (.cons Rd.str.w (.cons (Rd.int .i64).w (.cons (Rw.sl 37) .nil)))) .nil))), .nil, 0, xV8, fun a b => uH9 (.start a.1 a.2.1.1 a.2.1.2.1 a.2.1.2.2.1 a.2.1.2.2.2.1 a.2.2.1.1 a.2.2.1.2.1 a.2.2.1.2.2.1), vg3.av, vg3.bx⟩
theorem vq1 : vY5.Ok := fun a b r h => ub5 (fn := Tryz.f21) (code := wm4) E_ok (by kernel_rfl) (by kernel_rfl) (by kernel_rfl) (Nat.le_of_ble_eq_true rfl) (xD8 (.start a.1 a.2.1.1 a.2.1.2.1 a.2.1.2.2.1 a.2.1.2.2.2.1 a.2.2.1.1 a.2.2.1.2.1 a.2.2.1.2.2.1) r h)
inductive vm9 where
 | start (x0 : (Option ua4)) (n1 : Int)
 | p8180 (fields7 : Int) (low9 : Int) (s54 : (Option (List (Option ua4)))) (s55 : Int) (s56 : Int) (C0 : ByteArray) (C1 : Int) (B1 : (List ua5))
def uG2 : vm9 → List Bool
 | .start .. => []
 | .p8180 .. => [false, false, true, false, true, true, true, true, true, true, true, true]
def vT9 : vm9 → St E.S
 | .start x0 n1 => st0 88 [.op 128 x0, .v (.int .i64 n1)] []
 | .p8180 fields7 low9 s54 s55 s56 C0 C1 B1 => mkSt 88 [4, 7, 9, 54, 55, 56] [.bp 0 0, .v (.int .i64 fields7), .v (.int .i64 low9), .so 105 s54, .v (.int .i64 s55), .v (.int .i64 s56)] [.var 37 [.v (.string C0), .v (.int .i64 C1), .rw 1], .row 37 B1 false]
abbrev vH2 : Type := (((ByteArray × (Int × ((List ua5) × Unit))) × (Bool × Unit)) × Unit)
def uo3 : Res E ((ByteArray × (Int × ((List ua5) × Unit))) × (Bool × Unit)) Unit := { rows := [], flat := [], keep := 0, deep := [(false, 0, 2, 37)], done := [0, 1], rl := (.cons (Rd.agg (.cons Rd.str (.cons (Rd.int .i64) (.cons (Rd.sl 37 false) .nil)))) (.cons Rd.bool .nil)), rb := .nil }
def uk2 : vm9 → Option vH2
 | .start x0 n1 =>
  (ur6 (.start x0)) >>= fun t1 =>
  if t1.1.1 = true then
   some ((((⟨#[]⟩ : ByteArray), (n1, ([], ()))), (true, ())), ())
  else
   (run_z42 (.start x0)) >>= fun t2 =>
   if (decide ((0 : Int) ≤ t2.1.1)) = true then
    (run_z42 (.start x0)) >>= fun t3 =>
    if (decide ((0 : Int) ≤ t3.1.1)) = true then
     x0 >>= fun t4 =>
     if (decide ((shr .i64 n1 t2.1.1) ≥ (List.length (Option.getD t4.constructors []) : Int))) = true then
      some ((((⟨#[]⟩ : ByteArray), ((0 : Int), ([], ()))), (false, ())), ())
     else
      x0 >>= fun t5 =>
      (idx (Option.getD t5.constructors []) (shr .i64 n1 t2.1.1)) >>= fun t6 =>
      (uj0 (.start t6.name t6.fields t6.parts)) >>= fun t7 =>
      if (decide ((0 : Int) ≤ t7.1.1)) = true then
       if ((shr .i64 (bits .and .i64 n1 (IntKind.wrap .i64 ((shl .i64 (1 : Int) t3.1.1) - (1 : Int)))) t7.1.1) != (0 : Int)) = true then
        some ((((⟨#[]⟩ : ByteArray), ((0 : Int), ([], ()))), (false, ())), ())
       else
        uk2 (.p8180 (bits .and .i64 n1 (IntKind.wrap .i64 ((shl .i64 (1 : Int) t3.1.1) - (1 : Int)))) t7.1.1 t6.parts (List.length (Option.getD t6.parts []) : Int) (0 : Int) t6.name (0 : Int) ([] : List ua5))
      else none
    else none
   else none
 | .p8180 fields7 low9 s54 s55 s56 C0 C1 B1 =>
  if (decide (s56 < s55)) = true then
   (idx (Option.getD s54 []) s56) >>= fun t1 =>
   (run_z41 (.start t1)) >>= fun t2 =>
   if (decide ((0 : Int) ≤ (IntKind.wrap .i64 (low9 - t2.1.1)))) = true then
    (run_z41 (.start t1)) >>= fun t3 =>
    if (decide ((0 : Int) ≤ t3.1.1)) = true then
     (uk2 (.start t1 (bits .and .i64 (shr .i64 fields7 (IntKind.wrap .i64 (low9 - t2.1.1))) (IntKind.wrap .i64 ((shl .i64 (1 : Int) t3.1.1) - (1 : Int)))))) >>= fun t4 =>
     if (!t4.1.2.1) = true then
      some (((C0, (C1, (B1, ()))), (false, ())), ())
     else
      if (fits (List.length B1) (List.length ([(⟨t4.1.1.1, t4.1.1.2.1, t4.1.1.2.2.1⟩ : ua5)] : List ua5)) 48) = true then
       uk2 (.p8180 fields7 (IntKind.wrap .i64 (low9 - t2.1.1)) s54 s55 (IntKind.wrap .i64 (s56 + (1 : Int))) C0 C1 (B1 ++ ([(⟨t4.1.1.1, t4.1.1.2.1, t4.1.1.2.2.1⟩ : ua5)] : List ua5)))
      else none
    else none
   else none
  else
   some (((C0, (C1, (B1, ()))), (true, ())), ())
 partial_fixpoint
def xq1 : List (Plc E vm9) := [⟨8180, [false, false, true, false, true, true, true, true, true, true, true, true], { slots := [4, 7, 9, 54, 55, 56], rows := [], flat := [], keep := 0, up := [(true, 4, 2, 37)] }, _, _, (.cons (Rd.bp 0 0) (.cons (Rd.int .i64) (.cons (Rd.int .i64) (.cons (Rd.so 105) (.cons (Rd.int .i64) (.cons (Rd.int .i64) .nil)))))), (.cons (.var 37 (.cons Rd.str (.cons (Rd.int .i64) (.cons (Rd.rw 1) .nil)))) (.cons (.row 37 false) .nil)), fun a b => .p8180 a.2.1 a.2.2.1 a.2.2.2.1 a.2.2.2.2.1 a.2.2.2.2.2.1 b.1.1 b.1.2.1 b.2.1⟩]
theorem wW6 : All (ub7 88 0 uG2 vT9) xq1 := ⟨⟨rfl, rfl, fun _ _ => rfl, fun _ _ => rfl⟩, trivial⟩
def uJ4 : Code := Tryz.f71.body.getD .skip
def xe4 (run' : vm9 → Option vH2) : Con E := ⟨71, ((Option ua4) × (Int × Unit)), Unit, (RwL.cons (Rd.op 128).w (RwL.cons (Rd.int .i64).w RwL.nil)), RdBL.nil, 0, vH2, fun a b => run' (.start a.1 a.2.1), uo3.av, uo3.bx⟩
theorem wO7 {run' : vm9 → Option vH2} (ih : ∀ pt r, run' pt = some r → Good E Tryz.f71 uJ4 0 (uo3.av r) (uo3.bx r) (uG2 pt) (vT9 pt)) : (xe4 run').Ok := fun a b r h => ub5 (fn := Tryz.f71) (code := uJ4) E_ok (by kernel_rfl) (by kernel_rfl) (by kernel_rfl) (Nat.le_of_ble_eq_true rfl) (ih (.start a.1 a.2.1) r h)
def ww3 (run' : vm9 → Option vH2) : Spec E.S := (Con.add (xe4 run') (Con.add uY8 (Con.add w60 (Con.add vY1 (Con.add uN6 ub0)))))
theorem wd4 {run' : vm9 → Option vH2} (ih : ∀ pt r, run' pt = some r → Good E Tryz.f71 uJ4 0 (uo3.av r) (uo3.bx r) (uG2 pt) (vT9 pt)) : ua9 E (ww3 run') := (Con.add_ok (wO7 ih) (Con.add_ok ux8 (Con.add_ok wI8 (Con.add_ok vp7 (Con.add_ok ut1 ua7)))))
theorem xD9 : ∀ pt r, uk2 pt = some r → Good E Tryz.f71 uJ4 0 (uo3.av r) (uo3.bx r) (uG2 pt) (vT9 pt) := by
 refine uk2.partial_correctness (fun pt r => Good E Tryz.f71 uJ4 0 (uo3.av r) (uo3.bx r) (uG2 pt) (vT9 pt)) ?_
 intro run' ih pt r hr
 cases pt <;> exact ua8 (spec := (ww3 run')) (wr := (mkWr [] [])) (l := xq1) (z := 88) (p := uo3) E_ok wW6.mem rfl (wd4 ih) ih (Eq.trans (by kernel_rfl) hr)
def w70 : Con E := ⟨71, _, _, (.cons (Rd.op 128).w (.cons (Rd.int .i64).w .nil)), .nil, 0, vH2, fun a b => uk2 (.start a.1 a.2.1), uo3.av, uo3.bx⟩
theorem wJ7 : w70.Ok := fun a b r h => ub5 (fn := Tryz.f71) (code := uJ4) E_ok (by kernel_rfl) (by kernel_rfl) (by kernel_rfl) (Nat.le_of_ble_eq_true rfl) (xD9 (.start a.1 a.2.1) r h)
inductive wF3 where
 | start (l0 : (List ua3)) (t1_0 : Int) (t1_1 : Int) (t1_2 : ByteArray) (t1_3 : (List ua0)) (bits2 : Int)
def vO1 : wF3 → List Bool
 | .start .. => []
def xP9 : wF3 → St E.S
 | .start l0 t1_0 t1_1 t1_2 t1_3 bits2 => st0 45 [.sl 103 l0 false, .agg [.v (.int .i64 t1_0), .v (.int .i64 t1_1), .v (.string t1_2), .sl 25 t1_3 false], .v (.int .i64 bits2)] []
abbrev xV9 : Type := (((ByteArray × (Int × ((List ua5) × Unit))) × (Int × Unit)) × Unit)
def vg4 : Res E ((ByteArray × (Int × ((List ua5) × Unit))) × (Int × Unit)) Unit := { rows := [], flat := [], keep := 0, deep := [(false, 0, 2, 37)], done := [0, 1], rl := (.cons (Rd.agg (.cons Rd.str (.cons (Rd.int .i64) (.cons (Rd.sl 37 false) .nil)))) (.cons (Rd.int .i64) .nil)), rb := .nil }
def uI0 : wF3 → Option xV9
 | .start l0 t1_0 t1_1 t1_2 t1_3 bits2 =>
  (uu8 (.start l0 t1_0 t1_1 t1_2 t1_3)) >>= fun t1 =>
  (uc9 (.start ([t1.1.2.2.1] : List Int))) >>= fun t2 =>
  if (t2.1.1 != (0 : Int)) = true then
   some ((((⟨#[]⟩ : ByteArray), ((0 : Int), ([], ()))), (t2.1.1, ())), ())
  else
   (run_z41 (.start t1.1.1)) >>= fun t3 =>
   if (decide ((0 : Int) ≤ t3.1.1)) = true then
    (uj9 (.start bits2 (0 : Int) (IntKind.wrap .i64 ((shl .i64 (1 : Int) t3.1.1) - (1 : Int))))) >>= fun t4 =>
    if (!t4.1.1) = true then
     some ((((⟨#[]⟩ : ByteArray), ((0 : Int), ([], ()))), ((2 : Int), ())), ())
    else
     (uk2 (.start t1.1.1 bits2)) >>= fun t5 =>
     if (!t5.1.2.1) = true then
      some ((((⟨#[]⟩ : ByteArray), ((0 : Int), ([], ()))), ((3 : Int), ())), ())
     else
      some (((t5.1.1.1, (t5.1.1.2.1, (t5.1.1.2.2.1, ()))), ((0 : Int), ())), ())
   else none
def xq2 : List (Plc E wF3) := []
theorem wW7 : All (ub7 45 0 vO1 xP9) xq2 := trivial
def wm5 : Code := Tryz.f19.body.getD .skip
def ww4 : Spec E.S := (Con.add w70 (Con.add uS8 (Con.add uY8 (Con.add uE4 (Con.add uY9 ub0)))))
theorem wd5 : ua9 E ww4 := (Con.add_ok wJ7 (Con.add_ok uq5 (Con.add_ok ux8 (Con.add_ok un3 (Con.add_ok ux9 ua7)))))
theorem xE0 : ∀ pt r, uI0 pt = some r → Good E Tryz.f19 wm5 0 (vg4.av r) (vg4.bx r) (vO1 pt) (xP9 pt) := by
 intro pt r hr
 cases pt <;> exact ua8 (spec := ww4) (wr := (mkWr [] [])) (l := xq2) (z := 45) (p := vg4) (run' := fun _ => none) E_ok wW7.mem rfl wd5 (fun _ _ h => by cases h) (Eq.trans (by kernel_rfl) hr)
def vY6 : Con E := ⟨19, _, _, (.cons (Rw.sl 103) (.cons (Rw.agg (.cons (Rd.int .i64).w (.cons (Rd.int .i64).w (.cons Rd.str.w (.cons (Rw.sl 25) .nil))))) (.cons (Rd.int .i64).w .nil))), .nil, 0, xV9, fun a b => uI0 (.start a.1 a.2.1.1 a.2.1.2.1 a.2.1.2.2.1 a.2.1.2.2.2.1 a.2.2.1), vg4.av, vg4.bx⟩
theorem vq2 : vY6.Ok := fun a b r h => ub5 (fn := Tryz.f19) (code := wm5) E_ok (by kernel_rfl) (by kernel_rfl) (by kernel_rfl) (Nat.le_of_ble_eq_true rfl) (xE0 (.start a.1 a.2.1.1 a.2.1.2.1 a.2.1.2.2.1 a.2.1.2.2.2.1 a.2.2.1) r h)
inductive uY0 where
 | start (v0_0 : ByteArray) (v0_1 : (List ua6)) (v0_2 : (Option (List (Option ua4))))
 | p116 (n3 : Int) (s7 : (Option (List (Option ua4)))) (s8 : Int) (s9 : Int)
def uu1 : uY0 → List Bool
 | .start .. => []
 | .p116 .. => [false, false, true, false, true, true]
def vk5 : uY0 → St E.S
 | .start v0_0 v0_1 v0_2 => st0 19 [.agg [.v (.string v0_0), .sl 58 v0_1 false, .so 105 v0_2]] []
 | .p116 n3 s7 s8 s9 => mkSt 19 [3, 7, 8, 9] [.v (.int .i64 n3), .so 105 s7, .v (.int .i64 s8), .v (.int .i64 s9)] []
abbrev vn9 : Type := ((Int × Unit) × Unit)
def ui5 : Res E (Int × Unit) Unit := { rows := [], flat := [], keep := 0, done := [0], rl := (.cons (Rd.int .i64) .nil), rb := .nil }
inductive uY1 where
 | start (x0 : (Option ua4))
 | p244 (sum3 : Int) (s16 : (Option (List data_variant))) (s17 : Int) (s18 : Int)
def uu2 : uY1 → List Bool
 | .start .. => []
 | .p244 .. => [false, false, true, false, true, true, true]
def vk6 : uY1 → St E.S
 | .start x0 => st0 28 [.op 128 x0] []
 | .p244 sum3 s16 s17 s18 => mkSt 28 [3, 16, 17, 18] [.v (.int .i64 sum3), .so 125 s16, .v (.int .i64 s17), .v (.int .i64 s18)] []
abbrev vo0 : Type := ((Int × Unit) × Unit)
def ui6 : Res E (Int × Unit) Unit := { rows := [], flat := [], keep := 0, done := [0], rl := (.cons (Rd.int .i64) .nil), rb := .nil }
mutual
def uj2 : uY0 → Option vn9
 | .start v0_0 v0_1 v0_2 =>
  uj2 (.p116 (1 : Int) v0_2 (List.length (Option.getD v0_2 []) : Int) (0 : Int))
 | .p116 n3 s7 s8 s9 =>
  if (decide (s9 < s8)) = true then
   (idx (Option.getD s7 []) s9) >>= fun t1 =>
   (run_z61 (.start t1)) >>= fun t2 =>
   uj2 (.p116 (IntKind.wrap .i64 (n3 * t2.1.1)) s7 s8 (IntKind.wrap .i64 (s9 + (1 : Int))))
  else
   some ((n3, ()), ())
 partial_fixpoint
def run_z61 : uY1 → Option vo0
 | .start x0 =>
  (ur6 (.start x0)) >>= fun t1 =>
  if t1.1.1 = true then
   x0 >>= fun t2 =>
   if (decide ((0 : Int) ≤ t2.bits)) = true then
    some ((shl .i64 (1 : Int) t2.bits, ()), ())
   else none
  else
   x0 >>= fun t3 =>
   run_z61 (.p244 (0 : Int) t3.constructors (List.length (Option.getD t3.constructors []) : Int) (0 : Int))
 | .p244 sum3 s16 s17 s18 =>
  if (decide (s18 < s17)) = true then
   (idx (Option.getD s16 []) s18) >>= fun t1 =>
   (uj2 (.start t1.name t1.fields t1.parts)) >>= fun t2 =>
   run_z61 (.p244 (IntKind.wrap .i64 (sum3 + t2.1.1)) s16 s17 (IntKind.wrap .i64 (s18 + (1 : Int))))
  else
   some ((sum3, ()), ())
 partial_fixpoint
end
def xq4 : List (Plc E uY0) := [⟨116, [false, false, true, false, true, true], { slots := [3, 7, 8, 9], rows := [], flat := [], keep := 0 }, _, _, (.cons (Rd.int .i64) (.cons (Rd.so 105) (.cons (Rd.int .i64) (.cons (Rd.int .i64) .nil)))), .nil, fun a b => .p116 a.1 a.2.1 a.2.2.1 a.2.2.2.1⟩]
theorem wW8 : All (ub7 19 0 uu1 vk5) xq4 := ⟨⟨rfl, rfl, fun _ _ => rfl, fun _ _ => rfl⟩, trivial⟩
def uw3 : Code := Tryz.f108.body.getD .skip
def v22 (run' : uY0 → Option vn9) : Con E := ⟨108, ((ByteArray × ((List ua6) × ((Option (List (Option ua4))) × Unit))) × Unit), Unit, (RwL.cons (Rw.agg (RwL.cons Rd.str.w (RwL.cons (Rw.sl 58) (RwL.cons (Rd.so 105).w RwL.nil)))) RwL.nil), RdBL.nil, 0, vn9, fun a b => run' (.start a.1.1 a.1.2.1 a.1.2.2.1), ui5.av, ui5.bx⟩
theorem vs9 {run' : uY0 → Option vn9} (ih : ∀ pt r, run' pt = some r → Good E Tryz.f108 uw3 0 (ui5.av r) (ui5.bx r) (uu1 pt) (vk5 pt)) : (v22 run').Ok := fun a b r h => ub5 (fn := Tryz.f108) (code := uw3) E_ok (by kernel_rfl) (by kernel_rfl) (by kernel_rfl) (Nat.le_of_ble_eq_true rfl) (ih (.start a.1.1 a.1.2.1 a.1.2.2.1) r h)
def xq5 : List (Plc E uY1) := [⟨244, [false, false, true, false, true, true, true], { slots := [3, 16, 17, 18], rows := [], flat := [], keep := 0 }, _, _, (.cons (Rd.int .i64) (.cons (Rd.so 125) (.cons (Rd.int .i64) (.cons (Rd.int .i64) .nil)))), .nil, fun a b => .p244 a.1 a.2.1 a.2.2.1 a.2.2.2.1⟩]
theorem wW9 : All (ub7 28 0 uu2 vk6) xq5 := ⟨⟨rfl, rfl, fun _ _ => rfl, fun _ _ => rfl⟩, trivial⟩
def uw4 : Code := Tryz.f68.body.getD .skip
def v23 (run' : uY1 → Option vo0) : Con E := ⟨68, ((Option ua4) × Unit), Unit, (RwL.cons (Rd.op 128).w RwL.nil), RdBL.nil, 0, vo0, fun a b => run' (.start a.1), ui6.av, ui6.bx⟩
theorem vt0 {run' : uY1 → Option vo0} (ih : ∀ pt r, run' pt = some r → Good E Tryz.f68 uw4 0 (ui6.av r) (ui6.bx r) (uu2 pt) (vk6 pt)) : (v23 run').Ok := fun a b r h => ub5 (fn := Tryz.f68) (code := uw4) E_ok (by kernel_rfl) (by kernel_rfl) (by kernel_rfl) (Nat.le_of_ble_eq_true rfl) (ih (.start a.1) r h)
def ww5 (r_z60 : uY0 → Option vn9) (r_z61 : uY1 → Option vo0) : Spec E.S := (Con.add (v23 r_z61) (Con.add (v22 r_z60) ub0))
theorem wd6 {r_z60 : uY0 → Option vn9} (h_z60 : ∀ pt r, r_z60 pt = some r → Good E Tryz.f108 uw3 0 (ui5.av r) (ui5.bx r) (uu1 pt) (vk5 pt)) {r_z61 : uY1 → Option vo0} (h_z61 : ∀ pt r, r_z61 pt = some r → Good E Tryz.f68 uw4 0 (ui6.av r) (ui6.bx r) (uu2 pt) (vk6 pt)) : ua9 E (ww5 r_z60 r_z61) := (Con.add_ok (vt0 h_z61) (Con.add_ok (vs9 h_z60) ua7))
def ww6 (r_z60 : uY0 → Option vn9) (r_z61 : uY1 → Option vo0) : Spec E.S := (Con.add (v23 r_z61) (Con.add (v22 r_z60) (Con.add uN6 ub0)))
theorem wd7 {r_z60 : uY0 → Option vn9} (h_z60 : ∀ pt r, r_z60 pt = some r → Good E Tryz.f108 uw3 0 (ui5.av r) (ui5.bx r) (uu1 pt) (vk5 pt)) {r_z61 : uY1 → Option vo0} (h_z61 : ∀ pt r, r_z61 pt = some r → Good E Tryz.f68 uw4 0 (ui6.av r) (ui6.bx r) (uu2 pt) (vk6 pt)) : ua9 E (ww6 r_z60 r_z61) := (Con.add_ok (vt0 h_z61) (Con.add_ok (vs9 h_z60) (Con.add_ok ut1 ua7)))
theorem vK0 : (∀ pt r, uj2 pt = some r → Good E Tryz.f108 uw3 0 (ui5.av r) (ui5.bx r) (uu1 pt) (vk5 pt)) ∧ (∀ pt r, run_z61 pt = some r → Good E Tryz.f68 uw4 0 (ui6.av r) (ui6.bx r) (uu2 pt) (vk6 pt)) := by
  refine uj2.mutual_partial_correctness (fun pt r => Good E Tryz.f108 uw3 0 (ui5.av r) (ui5.bx r) (uu1 pt) (vk5 pt)) (fun pt r => Good E Tryz.f68 uw4 0 (ui6.av r) (ui6.bx r) (uu2 pt) (vk6 pt)) ?_ ?_
  · intro r_z60 r_z61 h_z60 h_z61 pt r hr
    cases pt <;> exact ua8 (spec := (ww5 r_z60 r_z61)) (wr := (mkWr [] [])) (l := xq4) (z := 19) (p := ui5) E_ok wW8.mem rfl (wd6 h_z60 h_z61) h_z60 (Eq.trans (by kernel_rfl) hr)
  · intro r_z60 r_z61 h_z60 h_z61 pt r hr
    cases pt <;> exact ua8 (spec := (ww6 r_z60 r_z61)) (wr := (mkWr [] [])) (l := xq5) (z := 28) (p := ui6) E_ok wW9.mem rfl (wd7 h_z60 h_z61) h_z61 (Eq.trans (by kernel_rfl) hr)
theorem xE1 : ∀ pt r, uj2 pt = some r → Good E Tryz.f108 uw3 0 (ui5.av r) (ui5.bx r) (uu1 pt) (vk5 pt) := vK0.1
theorem xE2 : ∀ pt r, run_z61 pt = some r → Good E Tryz.f68 uw4 0 (ui6.av r) (ui6.bx r) (uu2 pt) (vk6 pt) := vK0.2
def w72 : Con E := ⟨108, _, _, (.cons (Rw.agg (.cons Rd.str.w (.cons (Rw.sl 58) (.cons (Rd.so 105).w .nil)))) .nil), .nil, 0, vn9, fun a b => uj2 (.start a.1.1 a.1.2.1 a.1.2.2.1), ui5.av, ui5.bx⟩
theorem wJ8 : w72.Ok := fun a b r h => ub5 (fn := Tryz.f108) (code := uw3) E_ok (by kernel_rfl) (by kernel_rfl) (by kernel_rfl) (Nat.le_of_ble_eq_true rfl) (xE1 (.start a.1.1 a.1.2.1 a.1.2.2.1) r h)
def vz6 : Con E := ⟨68, _, _, (.cons (Rd.op 128).w .nil), .nil, 0, vo0, fun a b => run_z61 (.start a.1), ui6.av, ui6.bx⟩
theorem uZ0 : vz6.Ok := fun a b r h => ub5 (fn := Tryz.f68) (code := uw4) E_ok (by kernel_rfl) (by kernel_rfl) (by kernel_rfl) (Nat.le_of_ble_eq_true rfl) (xE2 (.start a.1) r h)
inductive vn0 where
 | start (x0 : (Option ua4)) (index1 : Int)
 | p116 (index1 : Int) (s18 : (Option (List data_variant))) (s19 : Int) (s20 : Int) (C0 : ByteArray) (C1 : Int)
 | p478452 (index1 : Int) (n7 : Int) (s36 : (Option (List (Option ua4)))) (s37 : Int) (s38 : Int) (C0 : ByteArray) (C1 : Int) (D0 : ByteArray) (D1 : Int) (B2 : (List ua5))
def uG3 : vn0 → List Bool
 | .start .. => []
 | .p116 .. => [false, false, true, false, true, true]
 | .p478452 .. => [false, false, true, false, true, true, true, true, false, false, true, true, false, false, true, false, true, true]
def vU0 : vn0 → St E.S
 | .start x0 index1 => st0 63 [.op 128 x0, .v (.int .i64 index1)] []
 | .p116 index1 s18 s19 s20 C0 C1 => mkSt 63 [1, 4, 18, 19, 20] [.v (.int .i64 index1), .bp 0 0, .so 125 s18, .v (.int .i64 s19), .v (.int .i64 s20)] [.var 37 [.v (.string C0), .v (.int .i64 C1), .nl]]
 | .p478452 index1 n7 s36 s37 s38 C0 C1 D0 D1 B2 => mkSt 63 [1, 4, 7, 8, 36, 37, 38] [.v (.int .i64 index1), .bp 0 0, .v (.int .i64 n7), .bp 1 0, .so 105 s36, .v (.int .i64 s37), .v (.int .i64 s38)] [.var 37 [.v (.string C0), .v (.int .i64 C1), .nl], .var 37 [.v (.string D0), .v (.int .i64 D1), .rw 2], .row 37 B2 false]
abbrev vH3 : Type := (((ByteArray × (Int × ((List ua5) × Unit))) × Unit) × Unit)
def uo4 : Res E ((ByteArray × (Int × ((List ua5) × Unit))) × Unit) Unit := { rows := [], flat := [], keep := 0, deep := [(false, 0, 2, 37)], done := [0], rl := (.cons (Rd.agg (.cons Rd.str (.cons (Rd.int .i64) (.cons (Rd.sl 37 false) .nil)))) .nil), rb := .nil }
def uv0 : vn0 → Option vH3
 | .start x0 index1 =>
  (ur6 (.start x0)) >>= fun t1 =>
  if t1.1.1 = true then
   some ((((⟨#[]⟩ : ByteArray), (index1, ([], ()))), ()), ())
  else
   x0 >>= fun t2 =>
   uv0 (.p116 index1 t2.constructors (List.length (Option.getD t2.constructors []) : Int) (0 : Int) (⟨#[]⟩ : ByteArray) (0 : Int))
 | .p116 index1 s18 s19 s20 C0 C1 =>
  if (decide (s20 < s19)) = true then
   (idx (Option.getD s18 []) s20) >>= fun t1 =>
   (uj2 (.start t1.name t1.fields t1.parts)) >>= fun t2 =>
   if (decide (index1 ≥ t2.1.1)) = true then
    uv0 (.p116 (IntKind.wrap .i64 (index1 - t2.1.1)) s18 s19 (IntKind.wrap .i64 (s20 + (1 : Int))) C0 C1)
   else
    uv0 (.p478452 index1 t2.1.1 t1.parts (List.length (Option.getD t1.parts []) : Int) (0 : Int) C0 C1 t1.name (0 : Int) ([] : List ua5))
  else
   some ((((⟨#[]⟩ : ByteArray), ((0 : Int), ([], ()))), ()), ())
 | .p478452 index1 n7 s36 s37 s38 C0 C1 D0 D1 B2 =>
  if (decide (s38 < s37)) = true then
   (idx (Option.getD s36 []) s38) >>= fun t1 =>
   (run_z61 (.start t1)) >>= fun t2 =>
   if (!(t2.1.1 == (0 : Int))) = true then
    if (!((IntKind.wrap .i64 (Int.tdiv n7 t2.1.1)) == (0 : Int))) = true then
     (uv0 (.start t1 (IntKind.wrap .i64 (Int.tdiv index1 (IntKind.wrap .i64 (Int.tdiv n7 t2.1.1)))))) >>= fun t3 =>
     if (fits (List.length B2) (List.length ([(⟨t3.1.1.1, t3.1.1.2.1, t3.1.1.2.2.1⟩ : ua5)] : List ua5)) 48) = true then
      if (!((IntKind.wrap .i64 (Int.tdiv n7 t2.1.1)) == (0 : Int))) = true then
       uv0 (.p478452 (Int.tmod index1 (IntKind.wrap .i64 (Int.tdiv n7 t2.1.1))) (IntKind.wrap .i64 (Int.tdiv n7 t2.1.1)) s36 s37 (IntKind.wrap .i64 (s38 + (1 : Int))) C0 C1 D0 D1 (B2 ++ ([(⟨t3.1.1.1, t3.1.1.2.1, t3.1.1.2.2.1⟩ : ua5)] : List ua5)))
      else none
     else none
    else none
   else none
  else
   some (((D0, (D1, (B2, ()))), ()), ())
 partial_fixpoint
def xq6 : List (Plc E vn0) := [⟨116, [false, false, true, false, true, true], { slots := [1, 4, 18, 19, 20], rows := [], flat := [], keep := 0 }, _, _, (.cons (Rd.int .i64) (.cons (Rd.bp 0 0) (.cons (Rd.so 125) (.cons (Rd.int .i64) (.cons (Rd.int .i64) .nil))))), (.cons (.var 37 (.cons Rd.str (.cons (Rd.int .i64) (.cons Rd.nl .nil)))) .nil), fun a b => .p116 a.1 a.2.2.1 a.2.2.2.1 a.2.2.2.2.1 b.1.1 b.1.2.1⟩,
 ⟨478452, [false, false, true, false, true, true, true, true, false, false, true, true, false, false, true, false, true, true], { slots := [1, 4, 7, 8, 36, 37, 38], rows := [], flat := [], keep := 0, up := [(true, 8, 2, 37)] }, _, _, (.cons (Rd.int .i64) (.cons (Rd.bp 0 0) (.cons (Rd.int .i64) (.cons (Rd.bp 1 0) (.cons (Rd.so 105) (.cons (Rd.int .i64) (.cons (Rd.int .i64) .nil))))))), (.cons (.var 37 (.cons Rd.str (.cons (Rd.int .i64) (.cons Rd.nl .nil)))) (.cons (.var 37 (.cons Rd.str (.cons (Rd.int .i64) (.cons (Rd.rw 2) .nil)))) (.cons (.row 37 false) .nil))), fun a b => .p478452 a.1 a.2.2.1 a.2.2.2.2.1 a.2.2.2.2.2.1 a.2.2.2.2.2.2.1 b.1.1 b.1.2.1 b.2.1.1 b.2.1.2.1 b.2.2.1⟩]
theorem wX0 : All (ub7 63 0 uG3 vU0) xq6 := ⟨⟨rfl, rfl, fun _ _ => rfl, fun _ _ => rfl⟩, ⟨⟨rfl, rfl, fun _ _ => rfl, fun _ _ => rfl⟩, trivial⟩⟩
def uJ5 : Code := Tryz.f84.body.getD .skip
def xe5 (run' : vn0 → Option vH3) : Con E := ⟨84, ((Option ua4) × (Int × Unit)), Unit, (RwL.cons (Rd.op 128).w (RwL.cons (Rd.int .i64).w RwL.nil)), RdBL.nil, 0, vH3, fun a b => run' (.start a.1 a.2.1), uo4.av, uo4.bx⟩
theorem wO8 {run' : vn0 → Option vH3} (ih : ∀ pt r, run' pt = some r → Good E Tryz.f84 uJ5 0 (uo4.av r) (uo4.bx r) (uG3 pt) (vU0 pt)) : (xe5 run').Ok := fun a b r h => ub5 (fn := Tryz.f84) (code := uJ5) E_ok (by kernel_rfl) (by kernel_rfl) (by kernel_rfl) (Nat.le_of_ble_eq_true rfl) (ih (.start a.1 a.2.1) r h)
def ww7 (run' : vn0 → Option vH3) : Spec E.S := (Con.add (xe5 run') (Con.add vz6 (Con.add w72 (Con.add uN6 ub0))))
theorem wd8 {run' : vn0 → Option vH3} (ih : ∀ pt r, run' pt = some r → Good E Tryz.f84 uJ5 0 (uo4.av r) (uo4.bx r) (uG3 pt) (vU0 pt)) : ua9 E (ww7 run') := (Con.add_ok (wO8 ih) (Con.add_ok uZ0 (Con.add_ok wJ8 (Con.add_ok ut1 ua7))))
theorem xE3 : ∀ pt r, uv0 pt = some r → Good E Tryz.f84 uJ5 0 (uo4.av r) (uo4.bx r) (uG3 pt) (vU0 pt) := by
 refine uv0.partial_correctness (fun pt r => Good E Tryz.f84 uJ5 0 (uo4.av r) (uo4.bx r) (uG3 pt) (vU0 pt)) ?_
 intro run' ih pt r hr
 cases pt <;> exact ua8 (spec := (ww7 run')) (wr := (mkWr [] [])) (l := xq6) (z := 63) (p := uo4) E_ok wX0.mem rfl (wd8 ih) ih (Eq.trans (by kernel_rfl) hr)
def w73 : Con E := ⟨84, _, _, (.cons (Rd.op 128).w (.cons (Rd.int .i64).w .nil)), .nil, 0, vH3, fun a b => uv0 (.start a.1 a.2.1), uo4.av, uo4.bx⟩
theorem wJ9 : w73.Ok := fun a b r h => ub5 (fn := Tryz.f84) (code := uJ5) E_ok (by kernel_rfl) (by kernel_rfl) (by kernel_rfl) (Nat.le_of_ble_eq_true rfl) (xE3 (.start a.1 a.2.1) r h)
inductive wF4 where
 | start (l0 : (List ua3)) (t1_0 : Int) (t1_1 : Int) (t1_2 : ByteArray) (t1_3 : (List ua0)) (index2 : Int)
def vO2 : wF4 → List Bool
 | .start .. => []
def xQ0 : wF4 → St E.S
 | .start l0 t1_0 t1_1 t1_2 t1_3 index2 => st0 32 [.sl 103 l0 false, .agg [.v (.int .i64 t1_0), .v (.int .i64 t1_1), .v (.string t1_2), .sl 25 t1_3 false], .v (.int .i64 index2)] []
abbrev xW0 : Type := (((ByteArray × (Int × ((List ua5) × Unit))) × (Int × Unit)) × Unit)
def vg6 : Res E ((ByteArray × (Int × ((List ua5) × Unit))) × (Int × Unit)) Unit := { rows := [], flat := [], keep := 0, deep := [(false, 0, 2, 37)], done := [0, 1], rl := (.cons (Rd.agg (.cons Rd.str (.cons (Rd.int .i64) (.cons (Rd.sl 37 false) .nil)))) (.cons (Rd.int .i64) .nil)), rb := .nil }
def vi8 : wF4 → Option xW0
 | .start l0 t1_0 t1_1 t1_2 t1_3 index2 =>
  (uu8 (.start l0 t1_0 t1_1 t1_2 t1_3)) >>= fun t1 =>
  if (t1.1.2.2.1 != (0 : Int)) = true then
   some ((((⟨#[]⟩ : ByteArray), ((0 : Int), ([], ()))), (t1.1.2.2.1, ())), ())
  else
   (run_z61 (.start t1.1.1)) >>= fun t2 =>
   (uj9 (.start index2 (0 : Int) (IntKind.wrap .i64 (t2.1.1 - (1 : Int))))) >>= fun t3 =>
   if (!t3.1.1) = true then
    some ((((⟨#[]⟩ : ByteArray), ((0 : Int), ([], ()))), ((6 : Int), ())), ())
   else
    (uv0 (.start t1.1.1 index2)) >>= fun t4 =>
    some (((t4.1.1.1, (t4.1.1.2.1, (t4.1.1.2.2.1, ()))), ((0 : Int), ())), ())
def xq7 : List (Plc E wF4) := []
theorem wX1 : All (ub7 32 0 vO2 xQ0) xq7 := trivial
def wm6 : Code := Tryz.f33.body.getD .skip
def ww8 : Spec E.S := (Con.add w73 (Con.add uS8 (Con.add vz6 (Con.add uY9 ub0))))
theorem wd9 : ua9 E ww8 := (Con.add_ok wJ9 (Con.add_ok uq5 (Con.add_ok uZ0 (Con.add_ok ux9 ua7))))
theorem xE4 : ∀ pt r, vi8 pt = some r → Good E Tryz.f33 wm6 0 (vg6.av r) (vg6.bx r) (vO2 pt) (xQ0 pt) := by
 intro pt r hr
 cases pt <;> exact ua8 (spec := ww8) (wr := (mkWr [] [])) (l := xq7) (z := 32) (p := vg6) (run' := fun _ => none) E_ok wX1.mem rfl wd9 (fun _ _ h => by cases h) (Eq.trans (by kernel_rfl) hr)
def w74 : Con E := ⟨33, _, _, (.cons (Rw.sl 103) (.cons (Rw.agg (.cons (Rd.int .i64).w (.cons (Rd.int .i64).w (.cons Rd.str.w (.cons (Rw.sl 25) .nil))))) (.cons (Rd.int .i64).w .nil))), .nil, 0, xW0, fun a b => vi8 (.start a.1 a.2.1.1 a.2.1.2.1 a.2.1.2.2.1 a.2.1.2.2.2.1 a.2.2.1), vg6.av, vg6.bx⟩
theorem wK0 : w74.Ok := fun a b r h => ub5 (fn := Tryz.f33) (code := wm6) E_ok (by kernel_rfl) (by kernel_rfl) (by kernel_rfl) (Nat.le_of_ble_eq_true rfl) (xE4 (.start a.1 a.2.1.1 a.2.1.2.1 a.2.1.2.2.1 a.2.1.2.2.2.1 a.2.2.1) r h)
inductive vn1 where
 | start (s0 : Int) (x1_0 : ByteArray) (x1_1 : Int) (x1_2 : (List ua5))
def uG4 : vn1 → List Bool
 | .start .. => []
def vU1 : vn1 → St E.S
 | .start s0 x1_0 x1_1 x1_2 => st0 7 [.v (.int .i64 s0), .agg [.v (.string x1_0), .v (.int .i64 x1_1), .sl 37 x1_2 false]] []
abbrev vV6 : Type := ((Int × Unit) × Unit)
def uu6 : Res E (Int × Unit) Unit := { rows := [], flat := [], keep := 0, done := [0], rl := (.cons (Rd.int .i64) .nil), rb := .nil }
inductive uY2 where
 | start (v0_0 : ByteArray) (v0_1 : Int) (v0_2 : (List ua5))
 | p15 (e4 : Int) (C0 : ByteArray) (C1 : Int) (C2 : (List ua5))
def uu3 : uY2 → List Bool
 | .start .. => []
 | .p15 .. => [true, true, true]
def vk7 : uY2 → St E.S
 | .start v0_0 v0_1 v0_2 => st0 47 [.agg [.v (.string v0_0), .v (.int .i64 v0_1), .sl 37 v0_2 false]] []
 | .p15 e4 C0 C1 C2 => mkSt 47 [1, 4] [.bp 0 0, .v (.int .i64 e4)] [.var 37 [.v (.string C0), .v (.int .i64 C1), .sl 37 C2 false]]
abbrev vo1 : Type := ((Int × Unit) × Unit)
def ui7 : Res E (Int × Unit) Unit := { rows := [], flat := [], keep := 0, done := [0], rl := (.cons (Rd.int .i64) .nil), rb := .nil }
inductive u55 where
 | start (l0 : (List ua5))
 | p52 (s9 : (List ua5)) (s10 : Int) (s11 : Int)
def uz2 : u55 → List Bool
 | .start .. => []
 | .p52 .. => [false, false, true, false, true]
def vu9 : u55 → St E.S
 | .start l0 => st0 25 [.sl 37 l0 false, .fn 135 []] []
 | .p52 s9 s10 s11 => mkSt 25 [1, 9, 10, 11] [.fn 135 [], .sl 37 s9 false, .v (.int .i64 s10), .v (.int .i64 s11)] []
abbrev vw0 : Type := ((Int × (Int × Unit)) × Unit)
def uo5 : Res E (Int × (Int × Unit)) Unit := { rows := [], flat := [], keep := 0, done := [0, 1], rl := (.cons (Rd.int .i64) (.cons (Rd.int .i64) .nil)), rb := .nil }
mutual
def vi9 : vn1 → Option vV6
 | .start s0 x1_0 x1_1 x1_2 =>
  (run_z65 (.start x1_0 x1_1 x1_2)) >>= fun t1 =>
  some ((t1.1.1, ()), ())
 partial_fixpoint
def run_z65 : uY2 → Option vo1
 | .start v0_0 v0_1 v0_2 =>
  if (!(seq v0_0 (⟨#[]⟩ : ByteArray))) = true then
   (uc4 (.start true (3 : Int))) >>= fun t1 =>
   if (seq v0_0 (⟨#[]⟩ : ByteArray)) = true then
    (uc4 (.start true (3 : Int))) >>= fun t2 =>
    if (seq v0_0 (⟨#[]⟩ : ByteArray)) = true then
     (uc4 (.start true (4 : Int))) >>= fun t3 =>
     (uj9 (.start v0_1 (0 : Int) (99999 : Int))) >>= fun t4 =>
     (uc4 (.start t4.1.1 (2 : Int))) >>= fun t5 =>
     (uc9 (.start ([t1.1.1, t2.1.1, t3.1.1, t5.1.1] : List Int))) >>= fun t6 =>
     run_z65 (.p15 t6.1.1 v0_0 v0_1 v0_2)
    else
     (ug3 (.start v0_0)) >>= fun t7 =>
     (uc4 (.start t7.1.1 (4 : Int))) >>= fun t8 =>
     (uj9 (.start v0_1 (0 : Int) (99999 : Int))) >>= fun t9 =>
     (uc4 (.start t9.1.1 (2 : Int))) >>= fun t10 =>
     (uc9 (.start ([t1.1.1, t2.1.1, t8.1.1, t10.1.1] : List Int))) >>= fun t11 =>
     run_z65 (.p15 t11.1.1 v0_0 v0_1 v0_2)
   else
    (uc4 (.start (v0_1 == (0 : Int)) (3 : Int))) >>= fun t12 =>
    if (seq v0_0 (⟨#[]⟩ : ByteArray)) = true then
     (uc4 (.start true (4 : Int))) >>= fun t13 =>
     (uj9 (.start v0_1 (0 : Int) (99999 : Int))) >>= fun t14 =>
     (uc4 (.start t14.1.1 (2 : Int))) >>= fun t15 =>
     (uc9 (.start ([t1.1.1, t12.1.1, t13.1.1, t15.1.1] : List Int))) >>= fun t16 =>
     run_z65 (.p15 t16.1.1 v0_0 v0_1 v0_2)
    else
     (ug3 (.start v0_0)) >>= fun t17 =>
     (uc4 (.start t17.1.1 (4 : Int))) >>= fun t18 =>
     (uj9 (.start v0_1 (0 : Int) (99999 : Int))) >>= fun t19 =>
     (uc4 (.start t19.1.1 (2 : Int))) >>= fun t20 =>
     (uc9 (.start ([t1.1.1, t12.1.1, t18.1.1, t20.1.1] : List Int))) >>= fun t21 =>
     run_z65 (.p15 t21.1.1 v0_0 v0_1 v0_2)
  else
   (uc4 (.start ((List.length v0_2 : Int) == (0 : Int)) (3 : Int))) >>= fun t22 =>
   if (seq v0_0 (⟨#[]⟩ : ByteArray)) = true then
    (uc4 (.start true (3 : Int))) >>= fun t23 =>
    if (seq v0_0 (⟨#[]⟩ : ByteArray)) = true then
     (uc4 (.start true (4 : Int))) >>= fun t24 =>
     (uj9 (.start v0_1 (0 : Int) (99999 : Int))) >>= fun t25 =>
     (uc4 (.start t25.1.1 (2 : Int))) >>= fun t26 =>
     (uc9 (.start ([t22.1.1, t23.1.1, t24.1.1, t26.1.1] : List Int))) >>= fun t27 =>
     run_z65 (.p15 t27.1.1 v0_0 v0_1 v0_2)
    else
     (ug3 (.start v0_0)) >>= fun t28 =>
     (uc4 (.start t28.1.1 (4 : Int))) >>= fun t29 =>
     (uj9 (.start v0_1 (0 : Int) (99999 : Int))) >>= fun t30 =>
     (uc4 (.start t30.1.1 (2 : Int))) >>= fun t31 =>
     (uc9 (.start ([t22.1.1, t23.1.1, t29.1.1, t31.1.1] : List Int))) >>= fun t32 =>
     run_z65 (.p15 t32.1.1 v0_0 v0_1 v0_2)
   else
    (uc4 (.start (v0_1 == (0 : Int)) (3 : Int))) >>= fun t33 =>
    if (seq v0_0 (⟨#[]⟩ : ByteArray)) = true then
     (uc4 (.start true (4 : Int))) >>= fun t34 =>
     (uj9 (.start v0_1 (0 : Int) (99999 : Int))) >>= fun t35 =>
     (uc4 (.start t35.1.1 (2 : Int))) >>= fun t36 =>
     (uc9 (.start ([t22.1.1, t33.1.1, t34.1.1, t36.1.1] : List Int))) >>= fun t37 =>
     run_z65 (.p15 t37.1.1 v0_0 v0_1 v0_2)
    else
     (ug3 (.start v0_0)) >>= fun t38 =>
     (uc4 (.start t38.1.1 (4 : Int))) >>= fun t39 =>
     (uj9 (.start v0_1 (0 : Int) (99999 : Int))) >>= fun t40 =>
     (uc4 (.start t40.1.1 (2 : Int))) >>= fun t41 =>
     (uc9 (.start ([t22.1.1, t33.1.1, t39.1.1, t41.1.1] : List Int))) >>= fun t42 =>
     run_z65 (.p15 t42.1.1 v0_0 v0_1 v0_2)
 | .p15 e4 C0 C1 C2 =>
  if (e4 != (0 : Int)) = true then
   some ((e4, ()), ())
  else
   (run_z66 (.start C2)) >>= fun t1 =>
   some ((t1.1.2.1, ()), ())
 partial_fixpoint
def run_z66 : u55 → Option vw0
 | .start l0 =>
  run_z66 (.p52 l0 (List.length l0 : Int) (0 : Int))
 | .p52 s9 s10 s11 =>
  if (decide (s11 < s10)) = true then
   (idx s9 s11) >>= fun t1 =>
   (vi9 (.start s11 t1.Name t1.Number t1.Parts)) >>= fun t2 =>
   if (t2.1.1 != (0 : Int)) = true then
    some ((s11, (t2.1.1, ())), ())
   else
    run_z66 (.p52 s9 s10 (IntKind.wrap .i64 (s11 + (1 : Int))))
  else
   some (((0 : Int), ((0 : Int), ())), ())
 partial_fixpoint
end
def xq8 : List (Plc E vn1) := []
theorem wX2 : All (ub7 7 0 uG4 vU1) xq8 := trivial
def uS6 : Code := Tryz.f135.body.getD .skip
def xe6 (run' : vn1 → Option vV6) : Con E := ⟨135, (Int × ((ByteArray × (Int × ((List ua5) × Unit))) × Unit)), Unit, (RwL.cons (Rd.int .i64).w (RwL.cons (Rw.agg (RwL.cons Rd.str.w (RwL.cons (Rd.int .i64).w (RwL.cons (Rw.sl 37) RwL.nil)))) RwL.nil)), RdBL.nil, 0, vV6, fun a b => run' (.start a.1 a.2.1.1 a.2.1.2.1 a.2.1.2.2.1), uu6.av, uu6.bx⟩
theorem wO9 {run' : vn1 → Option vV6} (ih : ∀ pt r, run' pt = some r → Good E Tryz.f135 uS6 0 (uu6.av r) (uu6.bx r) (uG4 pt) (vU1 pt)) : (xe6 run').Ok := fun a b r h => ub5 (fn := Tryz.f135) (code := uS6) E_ok (by kernel_rfl) (by kernel_rfl) (by kernel_rfl) (Nat.le_of_ble_eq_true rfl) (ih (.start a.1 a.2.1.1 a.2.1.2.1 a.2.1.2.2.1) r h)
def xq9 : List (Plc E uY2) := [⟨15, [true, true, true], { slots := [1, 4], rows := [], flat := [], keep := 0 }, _, _, (.cons (Rd.bp 0 0) (.cons (Rd.int .i64) .nil)), (.cons (.var 37 (.cons Rd.str (.cons (Rd.int .i64) (.cons (Rd.sl 37 false) .nil)))) .nil), fun a b => .p15 a.2.1 b.1.1 b.1.2.1 b.1.2.2.1⟩]
theorem wX3 : All (ub7 47 0 uu3 vk7) xq9 := ⟨⟨rfl, rfl, fun _ _ => rfl, fun _ _ => rfl⟩, trivial⟩
def uw5 : Code := Tryz.f97.body.getD .skip
def v24 (run' : uY2 → Option vo1) : Con E := ⟨97, ((ByteArray × (Int × ((List ua5) × Unit))) × Unit), Unit, (RwL.cons (Rw.agg (RwL.cons Rd.str.w (RwL.cons (Rd.int .i64).w (RwL.cons (Rw.sl 37) RwL.nil)))) RwL.nil), RdBL.nil, 0, vo1, fun a b => run' (.start a.1.1 a.1.2.1 a.1.2.2.1), ui7.av, ui7.bx⟩
theorem vt1 {run' : uY2 → Option vo1} (ih : ∀ pt r, run' pt = some r → Good E Tryz.f97 uw5 0 (ui7.av r) (ui7.bx r) (uu3 pt) (vk7 pt)) : (v24 run').Ok := fun a b r h => ub5 (fn := Tryz.f97) (code := uw5) E_ok (by kernel_rfl) (by kernel_rfl) (by kernel_rfl) (Nat.le_of_ble_eq_true rfl) (ih (.start a.1.1 a.1.2.1 a.1.2.2.1) r h)
def xr0 : List (Plc E u55) := [⟨52, [false, false, true, false, true], { slots := [1, 9, 10, 11], rows := [], flat := [], keep := 0 }, _, _, (.cons (Rd.fn 135 .nil) (.cons (Rd.sl 37 false) (.cons (Rd.int .i64) (.cons (Rd.int .i64) .nil)))), .nil, fun a b => .p52 a.2.1 a.2.2.1 a.2.2.2.1⟩]
theorem wX4 : All (ub7 25 0 uz2 vu9) xr0 := ⟨⟨rfl, rfl, fun _ _ => rfl, fun _ _ => rfl⟩, trivial⟩
def uJ6 : Code := Tryz.f134.body.getD .skip
def v25 (run' : u55 → Option vw0) : Con E := ⟨134, ((List ua5) × (Unit × Unit)), Unit, (RwL.cons (Rw.sl 37) (RwL.cons (Rd.fn 135 RdL.nil).w RwL.nil)), RdBL.nil, 0, vw0, fun a b => run' (.start a.1), uo5.av, uo5.bx⟩
theorem vt2 {run' : u55 → Option vw0} (ih : ∀ pt r, run' pt = some r → Good E Tryz.f134 uJ6 0 (uo5.av r) (uo5.bx r) (uz2 pt) (vu9 pt)) : (v25 run').Ok := fun a b r h => ub5 (fn := Tryz.f134) (code := uJ6) E_ok (by kernel_rfl) (by kernel_rfl) (by kernel_rfl) (Nat.le_of_ble_eq_true rfl) (ih (.start a.1) r h)
def ww9 (r_z65 : uY2 → Option vo1) : Spec E.S := (Con.add (v24 r_z65) ub0)
theorem we0 {r_z65 : uY2 → Option vo1} (h_z65 : ∀ pt r, r_z65 pt = some r → Good E Tryz.f97 uw5 0 (ui7.av r) (ui7.bx r) (uu3 pt) (vk7 pt)) : ua9 E (ww9 r_z65) := (Con.add_ok (vt1 h_z65) ua7)
def wx0 (r_z65 : uY2 → Option vo1) (r_z66 : u55 → Option vw0) : Spec E.S := (Con.add (v25 r_z66) (Con.add (v24 r_z65) (Con.add w71 (Con.add uE4 (Con.add uS8 (Con.add uS9 ub0))))))
theorem we1 {r_z65 : uY2 → Option vo1} (h_z65 : ∀ pt r, r_z65 pt = some r → Good E Tryz.f97 uw5 0 (ui7.av r) (ui7.bx r) (uu3 pt) (vk7 pt)) {r_z66 : u55 → Option vw0} (h_z66 : ∀ pt r, r_z66 pt = some r → Good E Tryz.f134 uJ6 0 (uo5.av r) (uo5.bx r) (uz2 pt) (vu9 pt)) : ua9 E (wx0 r_z65 r_z66) := (Con.add_ok (vt2 h_z66) (Con.add_ok (vt1 h_z65) (Con.add_ok vJ5 (Con.add_ok un3 (Con.add_ok uq5 (Con.add_ok uq6 ua7))))))
def wx1 (r_z64 : vn1 → Option vV6) (r_z66 : u55 → Option vw0) : Spec E.S := (Con.add (v25 r_z66) (Con.add (xe6 r_z64) ub0))
theorem we2 {r_z64 : vn1 → Option vV6} (h_z64 : ∀ pt r, r_z64 pt = some r → Good E Tryz.f135 uS6 0 (uu6.av r) (uu6.bx r) (uG4 pt) (vU1 pt)) {r_z66 : u55 → Option vw0} (h_z66 : ∀ pt r, r_z66 pt = some r → Good E Tryz.f134 uJ6 0 (uo5.av r) (uo5.bx r) (uz2 pt) (vu9 pt)) : ua9 E (wx1 r_z64 r_z66) := (Con.add_ok (vt2 h_z66) (Con.add_ok (wO9 h_z64) ua7))
theorem xb5 : (∀ pt r, vi9 pt = some r → Good E Tryz.f135 uS6 0 (uu6.av r) (uu6.bx r) (uG4 pt) (vU1 pt)) ∧ (∀ pt r, run_z65 pt = some r → Good E Tryz.f97 uw5 0 (ui7.av r) (ui7.bx r) (uu3 pt) (vk7 pt)) ∧ (∀ pt r, run_z66 pt = some r → Good E Tryz.f134 uJ6 0 (uo5.av r) (uo5.bx r) (uz2 pt) (vu9 pt)) := by
  refine vi9.mutual_partial_correctness (fun pt r => Good E Tryz.f135 uS6 0 (uu6.av r) (uu6.bx r) (uG4 pt) (vU1 pt)) (fun pt r => Good E Tryz.f97 uw5 0 (ui7.av r) (ui7.bx r) (uu3 pt) (vk7 pt)) (fun pt r => Good E Tryz.f134 uJ6 0 (uo5.av r) (uo5.bx r) (uz2 pt) (vu9 pt)) ?_ ?_ ?_
  · intro r_z65 h_z65 pt r hr
    cases pt <;> exact ua8 (spec := (ww9 r_z65)) (wr := (mkWr [] [])) (l := xq8) (z := 7) (p := uu6) (run' := fun _ => none) E_ok wX2.mem rfl (we0 h_z65) (fun _ _ h => by cases h) (Eq.trans (by kernel_rfl) hr)
  · intro r_z65 r_z66 h_z65 h_z66 pt r hr
    cases pt <;> exact ua8 (spec := (wx0 r_z65 r_z66)) (wr := (mkWr [] [])) (l := xq9) (z := 47) (p := ui7) E_ok wX3.mem rfl (we1 h_z65 h_z66) h_z65 (Eq.trans (by kernel_rfl) hr)
  · intro r_z64 r_z66 h_z64 h_z66 pt r hr
    cases pt <;> exact ua8 (spec := (wx1 r_z64 r_z66)) (wr := (mkWr [] [])) (l := xr0) (z := 25) (p := uo5) E_ok wX4.mem rfl (we2 h_z64 h_z66) h_z66 (Eq.trans (by kernel_rfl) hr)
theorem xE5 : ∀ pt r, run_z65 pt = some r → Good E Tryz.f97 uw5 0 (ui7.av r) (ui7.bx r) (uu3 pt) (vk7 pt) := xb5.2.1
def w75 : Con E := ⟨97, _, _, (.cons (Rw.agg (.cons Rd.str.w (.cons (Rd.int .i64).w (.cons (Rw.sl 37) .nil)))) .nil), .nil, 0, vo1, fun a b => run_z65 (.start a.1.1 a.1.2.1 a.1.2.2.1), ui7.av, ui7.bx⟩
theorem wK1 : w75.Ok := fun a b r h => ub5 (fn := Tryz.f97) (code := uw5) E_ok (by kernel_rfl) (by kernel_rfl) (by kernel_rfl) (Nat.le_of_ble_eq_true rfl) (xE5 (.start a.1.1 a.1.2.1 a.1.2.2.1) r h)
inductive vn2 where
 | start (v0_0 : ByteArray) (v0_1 : Int) (v0_2 : (List ua5))
 | p500 (s19 : (List ua5)) (s20 : Int) (s21 : Int) (C0 : ByteArray) (C1 : Int) (C2 : (List ua5)) (B1 : (List ByteArray))
def uG5 : vn2 → List Bool
 | .start .. => []
 | .p500 .. => [false, false, true, false, true, true, true, true]
def vU2 : vn2 → St E.S
 | .start v0_0 v0_1 v0_2 => st0 38 [.agg [.v (.string v0_0), .v (.int .i64 v0_1), .sl 37 v0_2 false]] []
 | .p500 s19 s20 s21 C0 C1 C2 B1 => mkSt 38 [1, 3, 19, 20, 21] [.bp 0 0, .rw 1, .sl 37 s19 false, .v (.int .i64 s20), .v (.int .i64 s21)] [.var 37 [.v (.string C0), .v (.int .i64 C1), .sl 37 C2 false], .row 9 B1 false]
abbrev vH4 : Type := ((ByteArray × Unit) × Unit)
def uo6 : Res E (ByteArray × Unit) Unit := { rows := [], flat := [], keep := 0, done := [0], rl := (.cons Rd.str .nil), rb := .nil }
def uD2 : vn2 → Option vH4
 | .start v0_0 v0_1 v0_2 =>
  if (seq v0_0 (⟨#[]⟩ : ByteArray)) = true then
   (v04 (v0_1, ()) ()) >>= fun t1 =>
   some ((t1.1.1, ()), ())
  else
   if ((List.length v0_2 : Int) == (0 : Int)) = true then
    some ((v0_0, ()), ())
   else
    uD2 (.p500 v0_2 (List.length v0_2 : Int) (0 : Int) v0_0 v0_1 v0_2 ([] : List ByteArray))
 | .p500 s19 s20 s21 C0 C1 C2 B1 =>
  if (decide (s21 < s20)) = true then
   (idx s19 s21) >>= fun t1 =>
   (uD2 (.start t1.Name t1.Number t1.Parts)) >>= fun t2 =>
   if (fits (List.length B1) (List.length ([t2.1.1] : List ByteArray)) 16) = true then
    uD2 (.p500 s19 s20 (IntKind.wrap .i64 (s21 + (1 : Int))) C0 C1 C2 (B1 ++ ([t2.1.1] : List ByteArray)))
   else none
  else
   if (Nat.ble (C0.size + (⟨#[40]⟩ : ByteArray).size) 9223372036854775807) = true then
    (uO0 (B1, (⟨#[44, 32]⟩ : ByteArray), ()) ()) >>= fun t3 =>
    if (Nat.ble ((C0 ++ (⟨#[40]⟩ : ByteArray)).size + t3.1.1.size) 9223372036854775807) = true then
     if (Nat.ble (((C0 ++ (⟨#[40]⟩ : ByteArray)) ++ t3.1.1).size + (⟨#[41]⟩ : ByteArray).size) 9223372036854775807) = true then
      some ((((C0 ++ (⟨#[40]⟩ : ByteArray)) ++ t3.1.1) ++ (⟨#[41]⟩ : ByteArray), ()), ())
     else none
    else none
   else none
 partial_fixpoint
def xr1 : List (Plc E vn2) := [⟨500, [false, false, true, false, true, true, true, true], { slots := [1, 3, 19, 20, 21], rows := [(3, 9)], flat := [], keep := 0 }, _, _, (.cons (Rd.bp 0 0) (.cons (Rd.rw 1) (.cons (Rd.sl 37 false) (.cons (Rd.int .i64) (.cons (Rd.int .i64) .nil))))), (.cons (.var 37 (.cons Rd.str (.cons (Rd.int .i64) (.cons (Rd.sl 37 false) .nil)))) (.cons (.row 9 false) .nil)), fun a b => .p500 a.2.2.1 a.2.2.2.1 a.2.2.2.2.1 b.1.1 b.1.2.1 b.1.2.2.1 b.2.1⟩]
theorem wX5 : All (ub7 38 0 uG5 vU2) xr1 := ⟨⟨rfl, rfl, fun _ _ => rfl, fun _ _ => rfl⟩, trivial⟩
def uJ7 : Code := Tryz.f98.body.getD .skip
def xe7 (run' : vn2 → Option vH4) : Con E := ⟨98, ((ByteArray × (Int × ((List ua5) × Unit))) × Unit), Unit, (RwL.cons (Rw.agg (RwL.cons Rd.str.w (RwL.cons (Rd.int .i64).w (RwL.cons (Rw.sl 37) RwL.nil)))) RwL.nil), RdBL.nil, 0, vH4, fun a b => run' (.start a.1.1 a.1.2.1 a.1.2.2.1), uo6.av, uo6.bx⟩
theorem wP0 {run' : vn2 → Option vH4} (ih : ∀ pt r, run' pt = some r → Good E Tryz.f98 uJ7 0 (uo6.av r) (uo6.bx r) (uG5 pt) (vU2 pt)) : (xe7 run').Ok := fun a b r h => ub5 (fn := Tryz.f98) (code := uJ7) E_ok (by kernel_rfl) (by kernel_rfl) (by kernel_rfl) (Nat.le_of_ble_eq_true rfl) (ih (.start a.1.1 a.1.2.1 a.1.2.2.1) r h)
def wx2 (run' : vn2 → Option vH4) : Spec E.S := (Con.add (xe7 run') (Con.add ur3 (Con.add ur2 ub0)))
theorem we3 {run' : vn2 → Option vH4} (ih : ∀ pt r, run' pt = some r → Good E Tryz.f98 uJ7 0 (uo6.av r) (uo6.bx r) (uG5 pt) (vU2 pt)) : ua9 E (wx2 run') := (Con.add_ok (wP0 ih) (Con.add_ok uN5 (Con.add_ok uN4 ua7)))
theorem xE6 : ∀ pt r, uD2 pt = some r → Good E Tryz.f98 uJ7 0 (uo6.av r) (uo6.bx r) (uG5 pt) (vU2 pt) := by
 refine uD2.partial_correctness (fun pt r => Good E Tryz.f98 uJ7 0 (uo6.av r) (uo6.bx r) (uG5 pt) (vU2 pt)) ?_
 intro run' ih pt r hr
 cases pt <;> exact ua8 (spec := (wx2 run')) (wr := (mkWr [] [])) (l := xr1) (z := 38) (p := uo6) E_ok wX5.mem rfl (we3 ih) ih (Eq.trans (by kernel_rfl) hr)
def w76 : Con E := ⟨98, _, _, (.cons (Rw.agg (.cons Rd.str.w (.cons (Rd.int .i64).w (.cons (Rw.sl 37) .nil)))) .nil), .nil, 0, vH4, fun a b => uD2 (.start a.1.1 a.1.2.1 a.1.2.2.1), uo6.av, uo6.bx⟩
theorem wK2 : w76.Ok := fun a b r h => ub5 (fn := Tryz.f98) (code := uJ7) E_ok (by kernel_rfl) (by kernel_rfl) (by kernel_rfl) (Nat.le_of_ble_eq_true rfl) (xE6 (.start a.1.1 a.1.2.1 a.1.2.2.1) r h)
inductive wF5 where
 | start (v0_0 : ByteArray) (v0_1 : Int) (v0_2 : (List ua5))
def vO3 : wF5 → List Bool
 | .start .. => []
def xQ1 : wF5 → St E.S
 | .start v0_0 v0_1 v0_2 => st0 18 [.agg [.v (.string v0_0), .v (.int .i64 v0_1), .sl 37 v0_2 false]] []
abbrev xW1 : Type := ((ByteArray × (Int × Unit)) × Unit)
def vg7 : Res E (ByteArray × (Int × Unit)) Unit := { rows := [], flat := [], keep := 0, done := [0, 1], rl := (.cons Rd.str (.cons (Rd.int .i64) .nil)), rb := .nil }
def vj0 : wF5 → Option xW1
 | .start v0_0 v0_1 v0_2 =>
  (uH7 (.start v0_0 v0_1 v0_2)) >>= fun t1 =>
  if (t1.1.1 != (0 : Int)) = true then
   some (((⟨#[]⟩ : ByteArray), (t1.1.1, ())), ())
  else
   (run_z65 (.start v0_0 v0_1 v0_2)) >>= fun t2 =>
   if (t2.1.1 != (0 : Int)) = true then
    some (((⟨#[]⟩ : ByteArray), (t2.1.1, ())), ())
   else
    (uD2 (.start v0_0 v0_1 v0_2)) >>= fun t3 =>
    some ((t3.1.1, ((0 : Int), ())), ())
def xr2 : List (Plc E wF5) := []
theorem wX6 : All (ub7 18 0 vO3 xQ1) xr2 := trivial
def wm7 : Code := Tryz.f54.body.getD .skip
def wx3 : Spec E.S := (Con.add w76 (Con.add w75 (Con.add vY3 ub0)))
theorem we4 : ua9 E wx3 := (Con.add_ok wK2 (Con.add_ok wK1 (Con.add_ok vp9 ua7)))
theorem xE7 : ∀ pt r, vj0 pt = some r → Good E Tryz.f54 wm7 0 (vg7.av r) (vg7.bx r) (vO3 pt) (xQ1 pt) := by
 intro pt r hr
 cases pt <;> exact ua8 (spec := wx3) (wr := (mkWr [] [])) (l := xr2) (z := 18) (p := vg7) (run' := fun _ => none) E_ok wX6.mem rfl we4 (fun _ _ h => by cases h) (Eq.trans (by kernel_rfl) hr)
def w77 : Con E := ⟨54, _, _, (.cons (Rw.agg (.cons Rd.str.w (.cons (Rd.int .i64).w (.cons (Rw.sl 37) .nil)))) .nil), .nil, 0, xW1, fun a b => vj0 (.start a.1.1 a.1.2.1 a.1.2.2.1), vg7.av, vg7.bx⟩
theorem wK3 : w77.Ok := fun a b r h => ub5 (fn := Tryz.f54) (code := wm7) E_ok (by kernel_rfl) (by kernel_rfl) (by kernel_rfl) (Nat.le_of_ble_eq_true rfl) (xE7 (.start a.1.1 a.1.2.1 a.1.2.2.1) r h)
inductive vn3 where
 | start (a0_0 : ByteArray) (a0_1 : Int) (a0_2 : (List ua5)) (b1_0 : ByteArray) (b1_1 : Int) (b1_2 : (List ua5))
 | p7 (C0 : ByteArray) (C1 : Int) (C2 : (List ua5)) (D0 : ByteArray) (D1 : Int) (D2 : (List ua5))
 | p116 (i5 : Int) (C0 : ByteArray) (C1 : Int) (C2 : (List ua5)) (D0 : ByteArray) (D1 : Int) (D2 : (List ua5))
def uG6 : vn3 → List Bool
 | .start .. => []
 | .p7 .. => [true, true]
 | .p116 .. => [false, false, true, false, true, true]
def vU3 : vn3 → St E.S
 | .start a0_0 a0_1 a0_2 b1_0 b1_1 b1_2 => st0 46 [.agg [.v (.string a0_0), .v (.int .i64 a0_1), .sl 37 a0_2 false], .agg [.v (.string b1_0), .v (.int .i64 b1_1), .sl 37 b1_2 false]] []
 | .p7 C0 C1 C2 D0 D1 D2 => mkSt 46 [2, 3] [.bp 0 0, .bp 1 0] [.var 37 [.v (.string C0), .v (.int .i64 C1), .sl 37 C2 false], .var 37 [.v (.string D0), .v (.int .i64 D1), .sl 37 D2 false]]
 | .p116 i5 C0 C1 C2 D0 D1 D2 => mkSt 46 [2, 3, 5] [.bp 0 0, .bp 1 0, .v (.int .i64 i5)] [.var 37 [.v (.string C0), .v (.int .i64 C1), .sl 37 C2 false], .var 37 [.v (.string D0), .v (.int .i64 D1), .sl 37 D2 false]]
abbrev vH5 : Type := ((Bool × Unit) × Unit)
def uo7 : Res E (Bool × Unit) Unit := { rows := [], flat := [], keep := 0, done := [0], rl := (.cons Rd.bool .nil), rb := .nil }
def ux5 : vn3 → Option vH5
 | .start a0_0 a0_1 a0_2 b1_0 b1_1 b1_2 =>
  if (!(seq a0_0 b1_0)) = true then
   some ((false, ()), ())
  else
   if (a0_1 != b1_1) = true then
    some ((false, ()), ())
   else
    if ((List.length a0_2 : Int) != (List.length b1_2 : Int)) = true then
     some ((false, ()), ())
    else
     ux5 (.p7 a0_0 a0_1 a0_2 b1_0 b1_1 b1_2)
 | .p7 C0 C1 C2 D0 D1 D2 =>
  ux5 (.p116 (0 : Int) C0 C1 C2 D0 D1 D2)
 | .p116 i5 C0 C1 C2 D0 D1 D2 =>
  if (decide (i5 < (List.length C2 : Int))) = true then
   (idx C2 i5) >>= fun t1 =>
   (idx D2 i5) >>= fun t2 =>
   (ux5 (.start t1.Name t1.Number t1.Parts t2.Name t2.Number t2.Parts)) >>= fun t3 =>
   if (!t3.1.1) = true then
    some ((false, ()), ())
   else
    ux5 (.p116 (IntKind.wrap .i64 (i5 + (1 : Int))) C0 C1 C2 D0 D1 D2)
  else
   some ((true, ()), ())
 partial_fixpoint
def xr3 : List (Plc E vn3) := [⟨7, [true, true], { slots := [2, 3], rows := [], flat := [], keep := 0 }, _, _, (.cons (Rd.bp 0 0) (.cons (Rd.bp 1 0) .nil)), (.cons (.var 37 (.cons Rd.str (.cons (Rd.int .i64) (.cons (Rd.sl 37 false) .nil)))) (.cons (.var 37 (.cons Rd.str (.cons (Rd.int .i64) (.cons (Rd.sl 37 false) .nil)))) .nil)), fun a b => .p7 b.1.1 b.1.2.1 b.1.2.2.1 b.2.1.1 b.2.1.2.1 b.2.1.2.2.1⟩,
 ⟨116, [false, false, true, false, true, true], { slots := [2, 3, 5], rows := [], flat := [], keep := 0 }, _, _, (.cons (Rd.bp 0 0) (.cons (Rd.bp 1 0) (.cons (Rd.int .i64) .nil))), (.cons (.var 37 (.cons Rd.str (.cons (Rd.int .i64) (.cons (Rd.sl 37 false) .nil)))) (.cons (.var 37 (.cons Rd.str (.cons (Rd.int .i64) (.cons (Rd.sl 37 false) .nil)))) .nil)), fun a b => .p116 a.2.2.1 b.1.1 b.1.2.1 b.1.2.2.1 b.2.1.1 b.2.1.2.1 b.2.1.2.2.1⟩]
theorem wX7 : All (ub7 46 0 uG6 vU3) xr3 := ⟨⟨rfl, rfl, fun _ _ => rfl, fun _ _ => rfl⟩, ⟨⟨rfl, rfl, fun _ _ => rfl, fun _ _ => rfl⟩, trivial⟩⟩
def uJ8 : Code := Tryz.f34.body.getD .skip
def xe8 (run' : vn3 → Option vH5) : Con E := ⟨34, ((ByteArray × (Int × ((List ua5) × Unit))) × ((ByteArray × (Int × ((List ua5) × Unit))) × Unit)), Unit, (RwL.cons (Rw.agg (RwL.cons Rd.str.w (RwL.cons (Rd.int .i64).w (RwL.cons (Rw.sl 37) RwL.nil)))) (RwL.cons (Rw.agg (RwL.cons Rd.str.w (RwL.cons (Rd.int .i64).w (RwL.cons (Rw.sl 37) RwL.nil)))) RwL.nil)), RdBL.nil, 0, vH5, fun a b => run' (.start a.1.1 a.1.2.1 a.1.2.2.1 a.2.1.1 a.2.1.2.1 a.2.1.2.2.1), uo7.av, uo7.bx⟩
theorem wP1 {run' : vn3 → Option vH5} (ih : ∀ pt r, run' pt = some r → Good E Tryz.f34 uJ8 0 (uo7.av r) (uo7.bx r) (uG6 pt) (vU3 pt)) : (xe8 run').Ok := fun a b r h => ub5 (fn := Tryz.f34) (code := uJ8) E_ok (by kernel_rfl) (by kernel_rfl) (by kernel_rfl) (Nat.le_of_ble_eq_true rfl) (ih (.start a.1.1 a.1.2.1 a.1.2.2.1 a.2.1.1 a.2.1.2.1 a.2.1.2.2.1) r h)
def wx4 (run' : vn3 → Option vH5) : Spec E.S := (Con.add (xe8 run') ub0)
theorem we5 {run' : vn3 → Option vH5} (ih : ∀ pt r, run' pt = some r → Good E Tryz.f34 uJ8 0 (uo7.av r) (uo7.bx r) (uG6 pt) (vU3 pt)) : ua9 E (wx4 run') := (Con.add_ok (wP1 ih) ua7)
theorem xE8 : ∀ pt r, ux5 pt = some r → Good E Tryz.f34 uJ8 0 (uo7.av r) (uo7.bx r) (uG6 pt) (vU3 pt) := by
 refine ux5.partial_correctness (fun pt r => Good E Tryz.f34 uJ8 0 (uo7.av r) (uo7.bx r) (uG6 pt) (vU3 pt)) ?_
 intro run' ih pt r hr
 cases pt <;> exact ua8 (spec := (wx4 run')) (wr := (mkWr [] [])) (l := xr3) (z := 46) (p := uo7) E_ok wX7.mem rfl (we5 ih) ih (Eq.trans (by kernel_rfl) hr)
def w78 : Con E := ⟨34, _, _, (.cons (Rw.agg (.cons Rd.str.w (.cons (Rd.int .i64).w (.cons (Rw.sl 37) .nil)))) (.cons (Rw.agg (.cons Rd.str.w (.cons (Rd.int .i64).w (.cons (Rw.sl 37) .nil)))) .nil)), .nil, 0, vH5, fun a b => ux5 (.start a.1.1 a.1.2.1 a.1.2.2.1 a.2.1.1 a.2.1.2.1 a.2.1.2.2.1), uo7.av, uo7.bx⟩
theorem wK4 : w78.Ok := fun a b r h => ub5 (fn := Tryz.f34) (code := uJ8) E_ok (by kernel_rfl) (by kernel_rfl) (by kernel_rfl) (Nat.le_of_ble_eq_true rfl) (xE8 (.start a.1.1 a.1.2.1 a.1.2.2.1 a.2.1.1 a.2.1.2.1 a.2.1.2.2.1) r h)
inductive wF6 where
 | start
def vO4 : wF6 → List Bool
 | .start => []
def xQ2 : wF6 → St E.S
 | .start => st0 95 [] []
abbrev xW2 : Type := ((Bool × Unit) × Unit)
def vg8 : Res E (Bool × Unit) Unit := { rows := [], flat := [], keep := 0, done := [0], rl := (.cons Rd.bool .nil), rb := .nil }
def u26 : wF6 → Option xW2
 | .start =>
  (u45 .start) >>= fun t1 =>
  (vi7 (.start (3 : Int))) >>= fun t2 =>
  (uD9 (.start (⟨#[77, 97, 121, 98, 101]⟩ : ByteArray) ([(⟨t2.1.1.1, t2.1.1.2.1, t2.1.1.2.2.1, t2.1.1.2.2.2.1⟩ : ua0)] : List ua0))) >>= fun t3 =>
  (uH6 (.start t1.1.1 t3.1.1.1 t3.1.1.2.1 t3.1.1.2.2.1 t3.1.1.2.2.2.1)) >>= fun t4 =>
  (u45 .start) >>= fun t5 =>
  (vi7 (.start (2 : Int))) >>= fun t6 =>
  (uD9 (.start (⟨#[67, 111, 108, 111, 114]⟩ : ByteArray) ([]))) >>= fun t7 =>
  (uD9 (.start (⟨#[80, 97, 105, 114]⟩ : ByteArray) ([(⟨t6.1.1.1, t6.1.1.2.1, t6.1.1.2.2.1, t6.1.1.2.2.2.1⟩ : ua0), (⟨t7.1.1.1, t7.1.1.2.1, t7.1.1.2.2.1, t7.1.1.2.2.2.1⟩ : ua0)] : List ua0))) >>= fun t8 =>
  (uu9 (.start (⟨#[66, 108, 117, 101]⟩ : ByteArray) ([]))) >>= fun t9 =>
  (uu9 (.start (⟨#[80, 97, 105, 114]⟩ : ByteArray) ([(⟨(⟨#[]⟩ : ByteArray), (3 : Int), []⟩ : ua5), (⟨t9.1.1.1, t9.1.1.2.1, t9.1.1.2.2.1⟩ : ua5)] : List ua5))) >>= fun t10 =>
  (uH9 (.start t5.1.1 t8.1.1.1 t8.1.1.2.1 t8.1.1.2.2.1 t8.1.1.2.2.2.1 t10.1.1.1 t10.1.1.2.1 t10.1.1.2.2.1)) >>= fun t11 =>
  (u45 .start) >>= fun t12 =>
  (vi7 (.start (3 : Int))) >>= fun t13 =>
  (uD9 (.start (⟨#[77, 97, 121, 98, 101]⟩ : ByteArray) ([(⟨t13.1.1.1, t13.1.1.2.1, t13.1.1.2.2.1, t13.1.1.2.2.2.1⟩ : ua0)] : List ua0))) >>= fun t14 =>
  (uI0 (.start t12.1.1 t14.1.1.1 t14.1.1.2.1 t14.1.1.2.2.1 t14.1.1.2.2.2.1 (5 : Int))) >>= fun t15 =>
  (u45 .start) >>= fun t16 =>
  (uD9 (.start (⟨#[67, 111, 108, 111, 114]⟩ : ByteArray) ([]))) >>= fun t17 =>
  (uD9 (.start (⟨#[66, 111, 111, 108]⟩ : ByteArray) ([]))) >>= fun t18 =>
  (uD9 (.start (⟨#[80, 97, 105, 114]⟩ : ByteArray) ([(⟨t17.1.1.1, t17.1.1.2.1, t17.1.1.2.2.1, t17.1.1.2.2.2.1⟩ : ua0), (⟨t18.1.1.1, t18.1.1.2.1, t18.1.1.2.2.1, t18.1.1.2.2.2.1⟩ : ua0)] : List ua0))) >>= fun t19 =>
  (vi8 (.start t16.1.1 t19.1.1.1 t19.1.1.2.1 t19.1.1.2.2.1 t19.1.1.2.2.2.1 (3 : Int))) >>= fun t20 =>
  (uu9 (.start (⟨#[66, 108, 117, 101]⟩ : ByteArray) ([]))) >>= fun t21 =>
  (uu9 (.start (⟨#[80, 97, 105, 114]⟩ : ByteArray) ([(⟨(⟨#[]⟩ : ByteArray), (3 : Int), []⟩ : ua5), (⟨t21.1.1.1, t21.1.1.2.1, t21.1.1.2.2.1⟩ : ua5)] : List ua5))) >>= fun t22 =>
  (vj0 (.start t22.1.1.1 t22.1.1.2.1 t22.1.1.2.2.1)) >>= fun t23 =>
  if (t4.1.2.1 == (0 : Int)) = true then
   if (t4.1.1 == (4 : Int)) = true then
    if (t11.1.2.1 == (0 : Int)) = true then
     if (t11.1.1 == (14 : Int)) = true then
      if (t15.1.2.1 == (3 : Int)) = true then
       if (t20.1.2.1 == (0 : Int)) = true then
        (uu9 (.start (⟨#[71, 114, 101, 101, 110]⟩ : ByteArray) ([]))) >>= fun t24 =>
        (uu9 (.start (⟨#[84, 114, 117, 101]⟩ : ByteArray) ([]))) >>= fun t25 =>
        (uu9 (.start (⟨#[80, 97, 105, 114]⟩ : ByteArray) ([(⟨t24.1.1.1, t24.1.1.2.1, t24.1.1.2.2.1⟩ : ua5), (⟨t25.1.1.1, t25.1.1.2.1, t25.1.1.2.2.1⟩ : ua5)] : List ua5))) >>= fun t26 =>
        (ux5 (.start t20.1.1.1 t20.1.1.2.1 t20.1.1.2.2.1 t26.1.1.1 t26.1.1.2.1 t26.1.1.2.2.1)) >>= fun t27 =>
        if t27.1.1 = true then
         if (t23.1.2.1 == (0 : Int)) = true then
          some ((seq t23.1.1 (⟨#[80, 97, 105, 114, 40, 51, 44, 32, 66, 108, 117, 101, 41]⟩ : ByteArray), ()), ())
         else
          some ((false, ()), ())
        else
         some ((false, ()), ())
       else
        some ((false, ()), ())
      else
       some ((false, ()), ())
     else
      some ((false, ()), ())
    else
     some ((false, ()), ())
   else
    some ((false, ()), ())
  else
   some ((false, ()), ())
def xr5 : List (Plc E wF6) := []
theorem wX8 : All (ub7 95 0 vO4 xQ2) xr5 := trivial
def wm8 : Code := Tryz.f10.body.getD .skip
def wx5 : Spec E.S := (Con.add w78 (Con.add w77 (Con.add w74 (Con.add vY6 (Con.add vY5 (Con.add w61 (Con.add vY2 (Con.add w43 (Con.add xM1 (Con.add xL9 ub0))))))))))
theorem we6 : ua9 E wx5 := (Con.add_ok wK4 (Con.add_ok wK3 (Con.add_ok wK0 (Con.add_ok vq2 (Con.add_ok vq1 (Con.add_ok wI9 (Con.add_ok vp8 (Con.add_ok vJ4 (Con.add_ok w59 (Con.add_ok w35 ua7))))))))))
theorem xE9 : ∀ pt r, u26 pt = some r → Good E Tryz.f10 wm8 0 (vg8.av r) (vg8.bx r) (vO4 pt) (xQ2 pt) := by
 intro pt r hr
 cases pt <;> exact ua8 (spec := wx5) (wr := (mkWr [] [])) (l := xr5) (z := 95) (p := vg8) (run' := fun _ => none) E_ok wX8.mem rfl we6 (fun _ _ h => by cases h) (Eq.trans (by kernel_rfl) hr)
def w79 : Con E := ⟨10, _, _, .nil, .nil, 0, xW2, fun a b => u26 (.start), vg8.av, vg8.bx⟩
theorem wK5 : w79.Ok := fun a b r h => ub5 (fn := Tryz.f10) (code := wm8) E_ok (by kernel_rfl) (by kernel_rfl) (by kernel_rfl) (Nat.le_of_ble_eq_true rfl) (xE9 (.start) r h)
inductive vF9 where
 | start (t0_0 : Int) (t0_1 : Int) (t0_2 : ByteArray) (t0_3 : (List ua0)) (depth1 : Int) (count2 : Int)
 | p15 (depth1 : Int) (count2 : Int) (C0 : Int) (C1 : Int) (C2 : ByteArray) (C3 : (List ua0))
 | p244 (depth1 : Int) (count2 : Int) (i7 : Int) (C0 : Int) (C1 : Int) (C2 : ByteArray) (C3 : (List ua0))
 | p489 (depth1 : Int) (count2 : Int) (i7 : Int) (C0 : Int) (C1 : Int) (C2 : ByteArray) (C3 : (List ua0))
def uG7 : vF9 → List Bool
 | .start .. => []
 | .p15 .. => [true, true, true]
 | .p244 .. => [false, false, true, false, true, true, true]
 | .p489 .. => [true, false, false, true, false, true, true, true]
def vU4 : vF9 → St E.S
 | .start t0_0 t0_1 t0_2 t0_3 depth1 count2 => st0 43 [.agg [.v (.int .i64 t0_0), .v (.int .i64 t0_1), .v (.string t0_2), .sl 25 t0_3 false], .v (.int .i64 depth1), .v (.int .i64 count2)] []
 | .p15 depth1 count2 C0 C1 C2 C3 => mkSt 43 [1, 2, 3] [.v (.int .i64 depth1), .v (.int .i64 count2), .bp 0 0] [.var 25 [.v (.int .i64 C0), .v (.int .i64 C1), .v (.string C2), .sl 25 C3 false]]
 | .p244 depth1 count2 i7 C0 C1 C2 C3 => mkSt 43 [1, 2, 3, 7] [.v (.int .i64 depth1), .v (.int .i64 count2), .bp 0 0, .v (.int .i64 i7)] [.var 25 [.v (.int .i64 C0), .v (.int .i64 C1), .v (.string C2), .sl 25 C3 false]]
 | .p489 depth1 count2 i7 C0 C1 C2 C3 => mkSt 43 [1, 2, 3, 7] [.v (.int .i64 depth1), .v (.int .i64 count2), .bp 0 0, .v (.int .i64 i7)] [.var 25 [.v (.int .i64 C0), .v (.int .i64 C1), .v (.string C2), .sl 25 C3 false]]
abbrev vV7 : Type := ((Int × Unit) × Unit)
def uo8 : Res E (Int × Unit) Unit := { rows := [], flat := [], keep := 0, done := [0], rl := (.cons (Rd.int .i64) .nil), rb := .nil }
def uh7 : vF9 → Option vV7
 | .start t0_0 t0_1 t0_2 t0_3 depth1 count2 =>
  if (decide (depth1 > (40 : Int))) = true then
   some (((201 : Int), ()), ())
  else
   if (decide ((IntKind.wrap .i64 (count2 + (1 : Int))) > (200 : Int))) = true then
    some (((201 : Int), ()), ())
   else
    if (decide ((List.length t0_3 : Int) > (200 : Int))) = true then
     some (((201 : Int), ()), ())
    else
     uh7 (.p15 depth1 (IntKind.wrap .i64 (count2 + (1 : Int))) t0_0 t0_1 t0_2 t0_3)
 | .p15 depth1 count2 C0 C1 C2 C3 =>
  uh7 (.p244 depth1 count2 (0 : Int) C0 C1 C2 C3)
 | .p244 depth1 count2 i7 C0 C1 C2 C3 =>
  if (decide (i7 < (List.length C3 : Int))) = true then
   if (decide (count2 ≤ (200 : Int))) = true then
    uh7 (.p489 depth1 count2 i7 C0 C1 C2 C3)
   else
    some ((count2, ()), ())
  else
   some ((count2, ()), ())
 | .p489 depth1 count2 i7 C0 C1 C2 C3 =>
  (idx C3 i7) >>= fun t1 =>
  (uh7 (.start t1.Kind t1.Value t1.Name t1.Parts (IntKind.wrap .i64 (depth1 + (1 : Int))) count2)) >>= fun t2 =>
  uh7 (.p244 depth1 t2.1.1 (IntKind.wrap .i64 (i7 + (1 : Int))) C0 C1 C2 C3)
 partial_fixpoint
def xr6 : List (Plc E vF9) := [⟨15, [true, true, true], { slots := [1, 2, 3], rows := [], flat := [], keep := 0 }, _, _, (.cons (Rd.int .i64) (.cons (Rd.int .i64) (.cons (Rd.bp 0 0) .nil))), (.cons (.var 25 (.cons (Rd.int .i64) (.cons (Rd.int .i64) (.cons Rd.str (.cons (Rd.sl 25 false) .nil))))) .nil), fun a b => .p15 a.1 a.2.1 b.1.1 b.1.2.1 b.1.2.2.1 b.1.2.2.2.1⟩,
 ⟨244, [false, false, true, false, true, true, true], { slots := [1, 2, 3, 7], rows := [], flat := [], keep := 0 }, _, _, (.cons (Rd.int .i64) (.cons (Rd.int .i64) (.cons (Rd.bp 0 0) (.cons (Rd.int .i64) .nil)))), (.cons (.var 25 (.cons (Rd.int .i64) (.cons (Rd.int .i64) (.cons Rd.str (.cons (Rd.sl 25 false) .nil))))) .nil), fun a b => .p244 a.1 a.2.1 a.2.2.2.1 b.1.1 b.1.2.1 b.1.2.2.1 b.1.2.2.2.1⟩,
 ⟨489, [true, false, false, true, false, true, true, true], { slots := [1, 2, 3, 7], rows := [], flat := [], keep := 0 }, _, _, (.cons (Rd.int .i64) (.cons (Rd.int .i64) (.cons (Rd.bp 0 0) (.cons (Rd.int .i64) .nil)))), (.cons (.var 25 (.cons (Rd.int .i64) (.cons (Rd.int .i64) (.cons Rd.str (.cons (Rd.sl 25 false) .nil))))) .nil), fun a b => .p489 a.1 a.2.1 a.2.2.2.1 b.1.1 b.1.2.1 b.1.2.2.1 b.1.2.2.2.1⟩]
theorem wX9 : All (ub7 43 0 uG7 vU4) xr6 := ⟨⟨rfl, rfl, fun _ _ => rfl, fun _ _ => rfl⟩, ⟨⟨rfl, rfl, fun _ _ => rfl, fun _ _ => rfl⟩, ⟨⟨rfl, rfl, fun _ _ => rfl, fun _ _ => rfl⟩, trivial⟩⟩⟩
def uJ9 : Code := Tryz.f102.body.getD .skip
def xe9 (run' : vF9 → Option vV7) : Con E := ⟨102, ((Int × (Int × (ByteArray × ((List ua0) × Unit)))) × (Int × (Int × Unit))), Unit, (RwL.cons (Rw.agg (RwL.cons (Rd.int .i64).w (RwL.cons (Rd.int .i64).w (RwL.cons Rd.str.w (RwL.cons (Rw.sl 25) RwL.nil))))) (RwL.cons (Rd.int .i64).w (RwL.cons (Rd.int .i64).w RwL.nil))), RdBL.nil, 0, vV7, fun a b => run' (.start a.1.1 a.1.2.1 a.1.2.2.1 a.1.2.2.2.1 a.2.1 a.2.2.1), uo8.av, uo8.bx⟩
theorem wP2 {run' : vF9 → Option vV7} (ih : ∀ pt r, run' pt = some r → Good E Tryz.f102 uJ9 0 (uo8.av r) (uo8.bx r) (uG7 pt) (vU4 pt)) : (xe9 run').Ok := fun a b r h => ub5 (fn := Tryz.f102) (code := uJ9) E_ok (by kernel_rfl) (by kernel_rfl) (by kernel_rfl) (Nat.le_of_ble_eq_true rfl) (ih (.start a.1.1 a.1.2.1 a.1.2.2.1 a.1.2.2.2.1 a.2.1 a.2.2.1) r h)
def wx6 (run' : vF9 → Option vV7) : Spec E.S := (Con.add (xe9 run') ub0)
theorem we7 {run' : vF9 → Option vV7} (ih : ∀ pt r, run' pt = some r → Good E Tryz.f102 uJ9 0 (uo8.av r) (uo8.bx r) (uG7 pt) (vU4 pt)) : ua9 E (wx6 run') := (Con.add_ok (wP2 ih) ua7)
theorem xF0 : ∀ pt r, uh7 pt = some r → Good E Tryz.f102 uJ9 0 (uo8.av r) (uo8.bx r) (uG7 pt) (vU4 pt) := by
 refine uh7.partial_correctness (fun pt r => Good E Tryz.f102 uJ9 0 (uo8.av r) (uo8.bx r) (uG7 pt) (vU4 pt)) ?_
 intro run' ih pt r hr
 cases pt <;> exact ua8 (spec := (wx6 run')) (wr := (mkWr [] [])) (l := xr6) (z := 43) (p := uo8) E_ok wX9.mem rfl (we7 ih) ih (Eq.trans (by kernel_rfl) hr)
def w80 : Con E := ⟨102, _, _, (.cons (Rw.agg (.cons (Rd.int .i64).w (.cons (Rd.int .i64).w (.cons Rd.str.w (.cons (Rw.sl 25) .nil))))) (.cons (Rd.int .i64).w (.cons (Rd.int .i64).w .nil))), .nil, 0, vV7, fun a b => uh7 (.start a.1.1 a.1.2.1 a.1.2.2.1 a.1.2.2.2.1 a.2.1 a.2.2.1), uo8.av, uo8.bx⟩
theorem wK6 : w80.Ok := fun a b r h => ub5 (fn := Tryz.f102) (code := uJ9) E_ok (by kernel_rfl) (by kernel_rfl) (by kernel_rfl) (Nat.le_of_ble_eq_true rfl) (xF0 (.start a.1.1 a.1.2.1 a.1.2.2.1 a.1.2.2.2.1 a.2.1 a.2.2.1) r h)
inductive xv7 where
 | start (t0_0 : Int) (t0_1 : Int) (t0_2 : ByteArray) (t0_3 : (List ua0))
def vO5 : xv7 → List Bool
 | .start .. => []
def xQ3 : xv7 → St E.S
 | .start t0_0 t0_1 t0_2 t0_3 => st0 6 [.agg [.v (.int .i64 t0_0), .v (.int .i64 t0_1), .v (.string t0_2), .sl 25 t0_3 false]] []
abbrev x20 : Type := ((Bool × Unit) × Unit)
def vg9 : Res E (Bool × Unit) Unit := { rows := [], flat := [], keep := 0, done := [0], rl := (.cons Rd.bool .nil), rb := .nil }
def uR1 : xv7 → Option x20
 | .start t0_0 t0_1 t0_2 t0_3 =>
  (uh7 (.start t0_0 t0_1 t0_2 t0_3 (1 : Int) (0 : Int))) >>= fun t1 =>
  some ((decide (t1.1.1 ≤ (200 : Int)), ()), ())
def xr7 : List (Plc E xv7) := []
theorem wY0 : All (ub7 6 0 vO5 xQ3) xr7 := trivial
def wm9 : Code := Tryz.f61.body.getD .skip
def wx7 : Spec E.S := (Con.add w80 ub0)
theorem we8 : ua9 E wx7 := (Con.add_ok wK6 ua7)
theorem xF1 : ∀ pt r, uR1 pt = some r → Good E Tryz.f61 wm9 0 (vg9.av r) (vg9.bx r) (vO5 pt) (xQ3 pt) := by
 intro pt r hr
 cases pt <;> exact ua8 (spec := wx7) (wr := (mkWr [] [])) (l := xr7) (z := 6) (p := vg9) (run' := fun _ => none) E_ok wY0.mem rfl we8 (fun _ _ h => by cases h) (Eq.trans (by kernel_rfl) hr)
def vz7 : Con E := ⟨61, _, _, (.cons (Rw.agg (.cons (Rd.int .i64).w (.cons (Rd.int .i64).w (.cons Rd.str.w (.cons (Rw.sl 25) .nil))))) .nil), .nil, 0, x20, fun a b => uR1 (.start a.1.1 a.1.2.1 a.1.2.2.1 a.1.2.2.2.1), vg9.av, vg9.bx⟩
theorem uZ1 : vz7.Ok := fun a b r h => ub5 (fn := Tryz.f61) (code := wm9) E_ok (by kernel_rfl) (by kernel_rfl) (by kernel_rfl) (Nat.le_of_ble_eq_true rfl) (xF1 (.start a.1.1 a.1.2.1 a.1.2.2.1 a.1.2.2.2.1) r h)
inductive xv8 where
 | start (l0 : (List ua3))
 | p116 (l0 : (List ua3)) (i3 : Int)
 | p1865 (l0 : (List ua3)) (i3 : Int)
 | p14924 (l0 : (List ua3)) (i3 : Int) (k4 : Int)
 | p3820700 (l0 : (List ua3)) (i3 : Int) (k4 : Int) (fields5 : (List ua6)) (j6 : Int)
def vc9 : xv8 → List Bool
 | .start .. => []
 | .p116 .. => [false, false, true, false, true, true]
 | .p1865 .. => [true, false, false, true, false, false, true, false, true, true]
 | .p14924 .. => [false, false, true, true, false, false, true, false, false, true, false, true, true]
 | .p3820700 .. => [false, false, true, true, true, false, false, true, false, false, true, true, false, false, true, false, false, true, false, true, true]
def xj6 : xv8 → St E.S
 | .start l0 => st0 67 [.sl 103 l0 false] []
 | .p116 l0 i3 => mkSt 67 [0, 3] [.sl 103 l0 false, .v (.int .i64 i3)] []
 | .p1865 l0 i3 => mkSt 67 [0, 3] [.sl 103 l0 false, .v (.int .i64 i3)] []
 | .p14924 l0 i3 k4 => mkSt 67 [0, 3, 4] [.sl 103 l0 false, .v (.int .i64 i3), .v (.int .i64 k4)] []
 | .p3820700 l0 i3 k4 fields5 j6 => mkSt 67 [0, 3, 4, 5, 6] [.sl 103 l0 false, .v (.int .i64 i3), .v (.int .i64 k4), .sl 58 fields5 false, .v (.int .i64 j6)] []
abbrev x21 : Type := ((Bool × Unit) × Unit)
def uP7 : Res E (Bool × Unit) Unit := { rows := [], flat := [], keep := 0, done := [0], rl := (.cons Rd.bool .nil), rb := .nil }
def ue2 : xv8 → Option x21
 | .start l0 =>
  if (decide ((List.length l0 : Int) > (24 : Int))) = true then
   some ((false, ()), ())
  else
   ue2 (.p116 l0 (0 : Int))
 | .p116 l0 i3 =>
  if (decide (i3 < (List.length l0 : Int))) = true then
   (idx l0 i3) >>= fun t1 =>
   if (decide ((List.length t1.Constructors : Int) > (20 : Int))) = true then
    some ((false, ()), ())
   else
    (idx l0 i3) >>= fun t2 =>
    if (decide ((List.length t2.Params : Int) > (12 : Int))) = true then
     some ((false, ()), ())
    else
     ue2 (.p1865 l0 i3)
  else
   some ((true, ()), ())
 | .p1865 l0 i3 =>
  ue2 (.p14924 l0 i3 (0 : Int))
 | .p14924 l0 i3 k4 =>
  (idx l0 i3) >>= fun t1 =>
  if (decide (k4 < (List.length t1.Constructors : Int))) = true then
   (idx l0 i3) >>= fun t2 =>
   (idx t2.Constructors k4) >>= fun t3 =>
   if (decide ((List.length t3.Fields : Int) > (12 : Int))) = true then
    some ((false, ()), ())
   else
    ue2 (.p3820700 l0 i3 k4 t3.Fields (0 : Int))
  else
   ue2 (.p116 l0 (IntKind.wrap .i64 (i3 + (1 : Int))))
 | .p3820700 l0 i3 k4 fields5 j6 =>
  if (decide (j6 < (List.length fields5 : Int))) = true then
   (idx fields5 j6) >>= fun t1 =>
   (uR1 (.start t1.Type_.Kind t1.Type_.Value t1.Type_.Name t1.Type_.Parts)) >>= fun t2 =>
   if (!t2.1.1) = true then
    some ((false, ()), ())
   else
    ue2 (.p3820700 l0 i3 k4 fields5 (IntKind.wrap .i64 (j6 + (1 : Int))))
  else
   ue2 (.p14924 l0 i3 (IntKind.wrap .i64 (k4 + (1 : Int))))
 partial_fixpoint
def xr8 : List (Plc E xv8) := [⟨116, [false, false, true, false, true, true], { slots := [0, 3], rows := [], flat := [], keep := 0 }, _, _, (.cons (Rd.sl 103 false) (.cons (Rd.int .i64) .nil)), .nil, fun a b => .p116 a.1 a.2.1⟩,
 ⟨1865, [true, false, false, true, false, false, true, false, true, true], { slots := [0, 3], rows := [], flat := [], keep := 0 }, _, _, (.cons (Rd.sl 103 false) (.cons (Rd.int .i64) .nil)), .nil, fun a b => .p1865 a.1 a.2.1⟩,
 ⟨14924, [false, false, true, true, false, false, true, false, false, true, false, true, true], { slots := [0, 3, 4], rows := [], flat := [], keep := 0 }, _, _, (.cons (Rd.sl 103 false) (.cons (Rd.int .i64) (.cons (Rd.int .i64) .nil))), .nil, fun a b => .p14924 a.1 a.2.1 a.2.2.1⟩,
 ⟨3820700, [false, false, true, true, true, false, false, true, false, false, true, true, false, false, true, false, false, true, false, true, true], { slots := [0, 3, 4, 5, 6], rows := [], flat := [], keep := 0 }, _, _, (.cons (Rd.sl 103 false) (.cons (Rd.int .i64) (.cons (Rd.int .i64) (.cons (Rd.sl 58 false) (.cons (Rd.int .i64) .nil))))), .nil, fun a b => .p3820700 a.1 a.2.1 a.2.2.1 a.2.2.2.1 a.2.2.2.2.1⟩]
theorem wY1 : All (ub7 67 0 vc9 xj6) xr8 := ⟨⟨rfl, rfl, fun _ _ => rfl, fun _ _ => rfl⟩, ⟨⟨rfl, rfl, fun _ _ => rfl, fun _ _ => rfl⟩, ⟨⟨rfl, rfl, fun _ _ => rfl, fun _ _ => rfl⟩, ⟨⟨rfl, rfl, fun _ _ => rfl, fun _ _ => rfl⟩, trivial⟩⟩⟩⟩
def vy4 : Code := Tryz.f11.body.getD .skip
def wx8 : Spec E.S := (Con.add vz7 ub0)
theorem we9 : ua9 E wx8 := (Con.add_ok uZ1 ua7)
theorem xF2 : ∀ pt r, ue2 pt = some r → Good E Tryz.f11 vy4 0 (uP7.av r) (uP7.bx r) (vc9 pt) (xj6 pt) := by
 refine ue2.partial_correctness (fun pt r => Good E Tryz.f11 vy4 0 (uP7.av r) (uP7.bx r) (vc9 pt) (xj6 pt)) ?_
 intro run' ih pt r hr
 cases pt <;> exact ua8 (spec := wx8) (wr := (mkWr [] [])) (l := xr8) (z := 67) (p := uP7) E_ok wY1.mem rfl we9 ih (Eq.trans (by kernel_rfl) hr)
def w81 : Con E := ⟨11, _, _, (.cons (Rw.sl 103) .nil), .nil, 0, x21, fun a b => ue2 (.start a.1), uP7.av, uP7.bx⟩
theorem wK7 : w81.Ok := fun a b r h => ub5 (fn := Tryz.f11) (code := vy4) E_ok (by kernel_rfl) (by kernel_rfl) (by kernel_rfl) (Nat.le_of_ble_eq_true rfl) (xF2 (.start a.1) r h)
inductive xv9 where
 | start (s0 : ByteArray)
 | p7 (s0 : ByteArray)
 | p116 (s0 : ByteArray) (i3 : Int)
 | p3731 (s0 : ByteArray) (i3 : Int) (c4 : Int) (letter5 : Bool)
def vd0 : xv9 → List Bool
 | .start .. => []
 | .p7 .. => [true, true]
 | .p116 .. => [false, false, true, false, true, true]
 | .p3731 .. => [true, true, false, false, true, false, false, true, false, true, true]
def xj7 : xv9 → St E.S
 | .start s0 => st0 55 [.v (.string s0)] []
 | .p7 s0 => mkSt 55 [0] [.v (.string s0)] []
 | .p116 s0 i3 => mkSt 55 [0, 3] [.v (.string s0), .v (.int .i64 i3)] []
 | .p3731 s0 i3 c4 letter5 => mkSt 55 [0, 3, 4, 5] [.v (.string s0), .v (.int .i64 i3), .v (.int .u8 c4), .v (.bool letter5)] []
abbrev x22 : Type := ((Bool × Unit) × Unit)
def uP8 : Res E (Bool × Unit) Unit := { rows := [], flat := [], keep := 0, done := [0], rl := (.cons Rd.bool .nil), rb := .nil }
def ud6 : xv9 → Option x22
 | .start s0 =>
  if (decide ((s0.size : Int) < (1 : Int))) = true then
   some ((false, ()), ())
  else
   if (decide ((s0.size : Int) > (16 : Int))) = true then
    some ((false, ()), ())
   else
    ud6 (.p7 s0)
 | .p7 s0 =>
  ud6 (.p116 s0 (0 : Int))
 | .p116 s0 i3 =>
  if (decide (i3 < (s0.size : Int))) = true then
   (sidx s0 i3) >>= fun t1 =>
   if (decide (t1 ≥ (97 : Int))) = true then
    if (decide (t1 ≤ (122 : Int))) = true then
     ud6 (.p3731 s0 i3 t1 true)
    else
     if (decide (t1 ≥ (65 : Int))) = true then
      ud6 (.p3731 s0 i3 t1 (decide (t1 ≤ (90 : Int))))
     else
      ud6 (.p3731 s0 i3 t1 false)
   else
    if (decide (t1 ≥ (65 : Int))) = true then
     ud6 (.p3731 s0 i3 t1 (decide (t1 ≤ (90 : Int))))
    else
     ud6 (.p3731 s0 i3 t1 false)
  else
   some ((true, ()), ())
 | .p3731 s0 i3 c4 letter5 =>
  if (!letter5) = true then
   if (i3 == (0 : Int)) = true then
    some ((false, ()), ())
   else
    if (c4 != (95 : Int)) = true then
     if (decide (c4 < (48 : Int))) = true then
      some ((false, ()), ())
     else
      if (decide (c4 > (57 : Int))) = true then
       some ((false, ()), ())
      else
       ud6 (.p116 s0 (IntKind.wrap .i64 (i3 + (1 : Int))))
    else
     ud6 (.p116 s0 (IntKind.wrap .i64 (i3 + (1 : Int))))
  else
   ud6 (.p116 s0 (IntKind.wrap .i64 (i3 + (1 : Int))))
 partial_fixpoint
def xr9 : List (Plc E xv9) := [⟨7, [true, true], { slots := [0], rows := [], flat := [], keep := 0 }, _, _, (.cons Rd.str .nil), .nil, fun a b => .p7 a.1⟩,
 ⟨116, [false, false, true, false, true, true], { slots := [0, 3], rows := [], flat := [], keep := 0 }, _, _, (.cons Rd.str (.cons (Rd.int .i64) .nil)), .nil, fun a b => .p116 a.1 a.2.1⟩,
 ⟨3731, [true, true, false, false, true, false, false, true, false, true, true], { slots := [0, 3, 4, 5], rows := [], flat := [], keep := 0 }, _, _, (.cons Rd.str (.cons (Rd.int .i64) (.cons (Rd.int .u8) (.cons Rd.bool .nil)))), .nil, fun a b => .p3731 a.1 a.2.1 a.2.2.1 a.2.2.2.1⟩]
theorem wY2 : All (ub7 55 0 vd0 xj7) xr9 := ⟨⟨rfl, rfl, fun _ _ => rfl, fun _ _ => rfl⟩, ⟨⟨rfl, rfl, fun _ _ => rfl, fun _ _ => rfl⟩, ⟨⟨rfl, rfl, fun _ _ => rfl, fun _ _ => rfl⟩, trivial⟩⟩⟩
def vy5 : Code := Tryz.f118.body.getD .skip
def wx9 : Spec E.S := ub0
theorem wf0 : ua9 E wx9 := ua7
theorem xF3 : ∀ pt r, ud6 pt = some r → Good E Tryz.f118 vy5 0 (uP8.av r) (uP8.bx r) (vd0 pt) (xj7 pt) := by
 refine ud6.partial_correctness (fun pt r => Good E Tryz.f118 vy5 0 (uP8.av r) (uP8.bx r) (vd0 pt) (xj7 pt)) ?_
 intro run' ih pt r hr
 cases pt <;> exact ua8 (spec := wx9) (wr := (mkWr [] [])) (l := xr9) (z := 55) (p := uP8) E_ok wY2.mem rfl wf0 ih (Eq.trans (by kernel_rfl) hr)
def vY7 : Con E := ⟨118, _, _, (.cons Rd.str.w .nil), .nil, 0, x22, fun a b => ud6 (.start a.1), uP8.av, uP8.bx⟩
theorem vq3 : vY7.Ok := fun a b r h => ub5 (fn := Tryz.f118) (code := vy5) E_ok (by kernel_rfl) (by kernel_rfl) (by kernel_rfl) (Nat.le_of_ble_eq_true rfl) (xF3 (.start a.1) r h)
inductive xw0 where
 | start (l0 : (List ua3)) (name1 : ByteArray)
 | p52 (l0 : (List ua3)) (name1 : ByteArray) (i5 : Int)
def vd1 : xw0 → List Bool
 | .start .. => []
 | .p52 .. => [false, false, true, false, true]
def xj8 : xw0 → St E.S
 | .start l0 name1 => st0 20 [.sl 103 l0 false, .v (.string name1)] []
 | .p52 l0 name1 i5 => mkSt 20 [0, 1, 5] [.sl 103 l0 false, .v (.string name1), .v (.int .i64 i5)] []
abbrev x23 : Type := ((Int × Unit) × Unit)
def uP9 : Res E (Int × Unit) Unit := { rows := [], flat := [], keep := 0, done := [0], rl := (.cons (Rd.int .i64) .nil), rb := .nil }
def um9 : xw0 → Option x23
 | .start l0 name1 =>
  um9 (.p52 l0 name1 (0 : Int))
 | .p52 l0 name1 i5 =>
  if (decide (i5 < (List.length l0 : Int))) = true then
   (idx l0 i5) >>= fun t1 =>
   if (seq t1.Name name1) = true then
    some ((i5, ()), ())
   else
    um9 (.p52 l0 name1 (IntKind.wrap .i64 (i5 + (1 : Int))))
  else
   some (((-1 : Int), ()), ())
 partial_fixpoint
def xs0 : List (Plc E xw0) := [⟨52, [false, false, true, false, true], { slots := [0, 1, 5], rows := [], flat := [], keep := 0 }, _, _, (.cons (Rd.sl 103 false) (.cons Rd.str (.cons (Rd.int .i64) .nil))), .nil, fun a b => .p52 a.1 a.2.1 a.2.2.1⟩]
theorem wY3 : All (ub7 20 0 vd1 xj8) xs0 := ⟨⟨rfl, rfl, fun _ _ => rfl, fun _ _ => rfl⟩, trivial⟩
def vy6 : Code := Tryz.f81.body.getD .skip
def wy0 : Spec E.S := ub0
theorem wf1 : ua9 E wy0 := ua7
theorem xF4 : ∀ pt r, um9 pt = some r → Good E Tryz.f81 vy6 0 (uP9.av r) (uP9.bx r) (vd1 pt) (xj8 pt) := by
 refine um9.partial_correctness (fun pt r => Good E Tryz.f81 vy6 0 (uP9.av r) (uP9.bx r) (vd1 pt) (xj8 pt)) ?_
 intro run' ih pt r hr
 cases pt <;> exact ua8 (spec := wy0) (wr := (mkWr [] [])) (l := xs0) (z := 20) (p := uP9) E_ok wY3.mem rfl wf1 ih (Eq.trans (by kernel_rfl) hr)
def vz8 : Con E := ⟨81, _, _, (.cons (Rw.sl 103) (.cons Rd.str.w .nil)), .nil, 0, x23, fun a b => um9 (.start a.1 a.2.1), uP9.av, uP9.bx⟩
theorem uZ2 : vz8.Ok := fun a b r h => ub5 (fn := Tryz.f81) (code := vy6) E_ok (by kernel_rfl) (by kernel_rfl) (by kernel_rfl) (Nat.le_of_ble_eq_true rfl) (xF4 (.start a.1 a.2.1) r h)
inductive xw1 where
 | start (l0 : (List ByteArray)) (s1 : ByteArray)
 | p52 (l0 : (List ByteArray)) (s1 : ByteArray) (i5 : Int)
def vd2 : xw1 → List Bool
 | .start .. => []
 | .p52 .. => [false, false, true, false, true]
def xj9 : xw1 → St E.S
 | .start l0 s1 => st0 18 [.sl 9 l0 false, .v (.string s1)] []
 | .p52 l0 s1 i5 => mkSt 18 [0, 1, 5] [.sl 9 l0 false, .v (.string s1), .v (.int .i64 i5)] []
abbrev x24 : Type := ((Bool × Unit) × Unit)
def uQ0 : Res E (Bool × Unit) Unit := { rows := [], flat := [], keep := 0, done := [0], rl := (.cons Rd.bool .nil), rb := .nil }
def uq1 : xw1 → Option x24
 | .start l0 s1 =>
  uq1 (.p52 l0 s1 (0 : Int))
 | .p52 l0 s1 i5 =>
  if (decide (i5 < (List.length l0 : Int))) = true then
   (idx l0 i5) >>= fun t1 =>
   if (seq t1 s1) = true then
    some ((true, ()), ())
   else
    uq1 (.p52 l0 s1 (IntKind.wrap .i64 (i5 + (1 : Int))))
  else
   some ((false, ()), ())
 partial_fixpoint
def xs2 : List (Plc E xw1) := [⟨52, [false, false, true, false, true], { slots := [0, 1, 5], rows := [], flat := [], keep := 0 }, _, _, (.cons (Rd.sl 9 false) (.cons Rd.str (.cons (Rd.int .i64) .nil))), .nil, fun a b => .p52 a.1 a.2.1 a.2.2.1⟩]
theorem wY4 : All (ub7 18 0 vd2 xj9) xs2 := ⟨⟨rfl, rfl, fun _ _ => rfl, fun _ _ => rfl⟩, trivial⟩
def vy7 : Code := Tryz.f119.body.getD .skip
def wy1 : Spec E.S := ub0
theorem wf2 : ua9 E wy1 := ua7
theorem xF5 : ∀ pt r, uq1 pt = some r → Good E Tryz.f119 vy7 0 (uQ0.av r) (uQ0.bx r) (vd2 pt) (xj9 pt) := by
 refine uq1.partial_correctness (fun pt r => Good E Tryz.f119 vy7 0 (uQ0.av r) (uQ0.bx r) (vd2 pt) (xj9 pt)) ?_
 intro run' ih pt r hr
 cases pt <;> exact ua8 (spec := wy1) (wr := (mkWr [] [])) (l := xs2) (z := 18) (p := uQ0) E_ok wY4.mem rfl wf2 ih (Eq.trans (by kernel_rfl) hr)
def vY8 : Con E := ⟨119, _, _, (.cons (Rw.sl 9) (.cons Rd.str.w .nil)), .nil, 0, x24, fun a b => uq1 (.start a.1 a.2.1), uQ0.av, uQ0.bx⟩
theorem vq4 : vY8.Ok := fun a b r h => ub5 (fn := Tryz.f119) (code := vy7) E_ok (by kernel_rfl) (by kernel_rfl) (by kernel_rfl) (Nat.le_of_ble_eq_true rfl) (xF5 (.start a.1 a.2.1) r h)
inductive xw2 where
 | start (l0 : (List ua3)) (name1 : ByteArray)
 | p52 (l0 : (List ua3)) (name1 : ByteArray) (i5 : Int)
 | p3364 (l0 : (List ua3)) (name1 : ByteArray) (i5 : Int) (k6 : Int)
def vd3 : xw2 → List Bool
 | .start .. => []
 | .p52 .. => [false, false, true, false, true]
 | .p3364 .. => [false, false, true, false, false, true, false, false, true, false, true]
def xk0 : xw2 → St E.S
 | .start l0 name1 => st0 34 [.sl 103 l0 false, .v (.string name1)] []
 | .p52 l0 name1 i5 => mkSt 34 [0, 1, 5] [.sl 103 l0 false, .v (.string name1), .v (.int .i64 i5)] []
 | .p3364 l0 name1 i5 k6 => mkSt 34 [0, 1, 5, 6] [.sl 103 l0 false, .v (.string name1), .v (.int .i64 i5), .v (.int .i64 k6)] []
abbrev x25 : Type := ((Bool × Unit) × Unit)
def uQ1 : Res E (Bool × Unit) Unit := { rows := [], flat := [], keep := 0, done := [0], rl := (.cons Rd.bool .nil), rb := .nil }
def uh1 : xw2 → Option x25
 | .start l0 name1 =>
  uh1 (.p52 l0 name1 (0 : Int))
 | .p52 l0 name1 i5 =>
  if (decide (i5 < (List.length l0 : Int))) = true then
   uh1 (.p3364 l0 name1 i5 (0 : Int))
  else
   some ((false, ()), ())
 | .p3364 l0 name1 i5 k6 =>
  (idx l0 i5) >>= fun t1 =>
  if (decide (k6 < (List.length t1.Constructors : Int))) = true then
   (idx l0 i5) >>= fun t2 =>
   (idx t2.Constructors k6) >>= fun t3 =>
   if (seq t3.Name name1) = true then
    some ((true, ()), ())
   else
    uh1 (.p3364 l0 name1 i5 (IntKind.wrap .i64 (k6 + (1 : Int))))
  else
   uh1 (.p52 l0 name1 (IntKind.wrap .i64 (i5 + (1 : Int))))
 partial_fixpoint
def xs3 : List (Plc E xw2) := [⟨52, [false, false, true, false, true], { slots := [0, 1, 5], rows := [], flat := [], keep := 0 }, _, _, (.cons (Rd.sl 103 false) (.cons Rd.str (.cons (Rd.int .i64) .nil))), .nil, fun a b => .p52 a.1 a.2.1 a.2.2.1⟩,
 ⟨3364, [false, false, true, false, false, true, false, false, true, false, true], { slots := [0, 1, 5, 6], rows := [], flat := [], keep := 0 }, _, _, (.cons (Rd.sl 103 false) (.cons Rd.str (.cons (Rd.int .i64) (.cons (Rd.int .i64) .nil)))), .nil, fun a b => .p3364 a.1 a.2.1 a.2.2.1 a.2.2.2.1⟩]
theorem wY5 : All (ub7 34 0 vd3 xk0) xs3 := ⟨⟨rfl, rfl, fun _ _ => rfl, fun _ _ => rfl⟩, ⟨⟨rfl, rfl, fun _ _ => rfl, fun _ _ => rfl⟩, trivial⟩⟩
def vy8 : Code := Tryz.f120.body.getD .skip
def wy2 : Spec E.S := ub0
theorem wf3 : ua9 E wy2 := ua7
theorem xF6 : ∀ pt r, uh1 pt = some r → Good E Tryz.f120 vy8 0 (uQ1.av r) (uQ1.bx r) (vd3 pt) (xk0 pt) := by
 refine uh1.partial_correctness (fun pt r => Good E Tryz.f120 vy8 0 (uQ1.av r) (uQ1.bx r) (vd3 pt) (xk0 pt)) ?_
 intro run' ih pt r hr
 cases pt <;> exact ua8 (spec := wy2) (wr := (mkWr [] [])) (l := xs3) (z := 34) (p := uQ1) E_ok wY5.mem rfl wf3 ih (Eq.trans (by kernel_rfl) hr)
def w82 : Con E := ⟨120, _, _, (.cons (Rw.sl 103) (.cons Rd.str.w .nil)), .nil, 0, x25, fun a b => uh1 (.start a.1 a.2.1), uQ1.av, uQ1.bx⟩
theorem wK8 : w82.Ok := fun a b r h => ub5 (fn := Tryz.f120) (code := vy8) E_ok (by kernel_rfl) (by kernel_rfl) (by kernel_rfl) (Nat.le_of_ble_eq_true rfl) (xF6 (.start a.1 a.2.1) r h)
inductive xw3 where
 | start (n0 : Int) (lo1 : Int) (hi2 : Int)
def vO6 : xw3 → List Bool
 | .start .. => []
def xQ4 : xw3 → St E.S
 | .start n0 lo1 hi2 => st0 15 [.v (.int .i64 n0), .v (.int .i64 lo1), .v (.int .i64 hi2)] []
abbrev x26 : Type := ((Bool × Unit) × Unit)
def vh0 : Res E (Bool × Unit) Unit := { rows := [], flat := [], keep := 0, done := [0], rl := (.cons Rd.bool .nil), rb := .nil }
def uI1 : xw3 → Option x26
 | .start n0 lo1 hi2 =>
  if (decide (lo1 ≤ n0)) = true then
   some ((decide (n0 ≤ hi2), ()), ())
  else
   some ((false, ()), ())
def xs4 : List (Plc E xw3) := []
theorem wY6 : All (ub7 15 0 vO6 xQ4) xs4 := trivial
def wn0 : Code := Tryz.f17.body.getD .skip
def wy3 : Spec E.S := ub0
theorem wf4 : ua9 E wy3 := ua7
theorem xF7 : ∀ pt r, uI1 pt = some r → Good E Tryz.f17 wn0 0 (vh0.av r) (vh0.bx r) (vO6 pt) (xQ4 pt) := by
 intro pt r hr
 cases pt <;> exact ua8 (spec := wy3) (wr := (mkWr [] [])) (l := xs4) (z := 15) (p := vh0) (run' := fun _ => none) E_ok wY6.mem rfl wf4 (fun _ _ h => by cases h) (Eq.trans (by kernel_rfl) hr)
def vz9 : Con E := ⟨17, _, _, (.cons (Rd.int .i64).w (.cons (Rd.int .i64).w (.cons (Rd.int .i64).w .nil))), .nil, 0, x26, fun a b => uI1 (.start a.1 a.2.1 a.2.2.1), vh0.av, vh0.bx⟩
theorem uZ3 : vz9.Ok := fun a b r h => ub5 (fn := Tryz.f17) (code := wn0) E_ok (by kernel_rfl) (by kernel_rfl) (by kernel_rfl) (Nat.le_of_ble_eq_true rfl) (xF7 (.start a.1 a.2.1 a.2.2.1) r h)
inductive vG0 where
 | start (l0 : (List ua3)) (params1 : (List ByteArray)) (t2_0 : Int) (t2_1 : Int) (t2_2 : ByteArray) (t2_3 : (List ua0))
 | p31 (l0 : (List ua3)) (params1 : (List ByteArray)) (parts7 : Int) (C0 : Int) (C1 : Int) (C2 : ByteArray) (C3 : (List ua0))
 | p63 (l0 : (List ua3)) (params1 : (List ByteArray)) (parts7 : Int) (C0 : Int) (C1 : Int) (C2 : ByteArray) (C3 : (List ua0))
 | p255 (l0 : (List ua3)) (params1 : (List ByteArray)) (C0 : Int) (C1 : Int) (C2 : ByteArray) (C3 : (List ua0))
 | p4084 (l0 : (List ua3)) (params1 : (List ByteArray)) (i9 : Int) (C0 : Int) (C1 : Int) (C2 : ByteArray) (C3 : (List ua0))
def uG8 : vG0 → List Bool
 | .start .. => []
 | .p31 .. => [true, true, true, true]
 | .p63 .. => [true, true, true, true, true]
 | .p255 .. => [true, true, true, true, true, true, true]
 | .p4084 .. => [false, false, true, false, true, true, true, true, true, true, true]
def vU5 : vG0 → St E.S
 | .start l0 params1 t2_0 t2_1 t2_2 t2_3 => st0 81 [.sl 103 l0 false, .sl 9 params1 false, .agg [.v (.int .i64 t2_0), .v (.int .i64 t2_1), .v (.string t2_2), .sl 25 t2_3 false]] []
 | .p31 l0 params1 parts7 C0 C1 C2 C3 => mkSt 81 [0, 1, 5, 7] [.sl 103 l0 false, .sl 9 params1 false, .bp 0 0, .v (.int .i64 parts7)] [.var 25 [.v (.int .i64 C0), .v (.int .i64 C1), .v (.string C2), .sl 25 C3 false]]
 | .p63 l0 params1 parts7 C0 C1 C2 C3 => mkSt 81 [0, 1, 5, 7] [.sl 103 l0 false, .sl 9 params1 false, .bp 0 0, .v (.int .i64 parts7)] [.var 25 [.v (.int .i64 C0), .v (.int .i64 C1), .v (.string C2), .sl 25 C3 false]]
 | .p255 l0 params1 C0 C1 C2 C3 => mkSt 81 [0, 1, 5] [.sl 103 l0 false, .sl 9 params1 false, .bp 0 0] [.var 25 [.v (.int .i64 C0), .v (.int .i64 C1), .v (.string C2), .sl 25 C3 false]]
 | .p4084 l0 params1 i9 C0 C1 C2 C3 => mkSt 81 [0, 1, 5, 9] [.sl 103 l0 false, .sl 9 params1 false, .bp 0 0, .v (.int .i64 i9)] [.var 25 [.v (.int .i64 C0), .v (.int .i64 C1), .v (.string C2), .sl 25 C3 false]]
abbrev vV8 : Type := ((Int × Unit) × Unit)
def uo9 : Res E (Int × Unit) Unit := { rows := [], flat := [], keep := 0, done := [0], rl := (.cons (Rd.int .i64) .nil), rb := .nil }
def ud3 : vG0 → Option vV8
 | .start l0 params1 t2_0 t2_1 t2_2 t2_3 =>
  (uI1 (.start t2_0 (0 : Int) (2 : Int))) >>= fun t1 =>
  if (!t1.1.1) = true then
   some (((15 : Int), ()), ())
  else
   if (t2_0 == (0 : Int)) = true then
    (uq1 (.start params1 t2_2)) >>= fun t2 =>
    if (!t2.1.1) = true then
     some (((6 : Int), ()), ())
    else
     ud3 (.p31 l0 params1 (0 : Int) t2_0 t2_1 t2_2 t2_3)
   else
    ud3 (.p31 l0 params1 (0 : Int) t2_0 t2_1 t2_2 t2_3)
 | .p31 l0 params1 parts7 C0 C1 C2 C3 =>
  if (C0 == (1 : Int)) = true then
   (um9 (.start l0 C2)) >>= fun t1 =>
   if (seq C2 (⟨#[66, 105, 116]⟩ : ByteArray)) = true then
    ud3 (.p63 l0 params1 (1 : Int) C0 C1 C2 C3)
   else
    if (seq C2 (⟨#[66, 111, 111, 108]⟩ : ByteArray)) = true then
     ud3 (.p63 l0 params1 parts7 C0 C1 C2 C3)
    else
     if (decide (t1.1.1 ≥ (0 : Int))) = true then
      (idx l0 t1.1.1) >>= fun t2 =>
      ud3 (.p63 l0 params1 (List.length t2.Params : Int) C0 C1 C2 C3)
     else
      some (((6 : Int), ()), ())
  else
   ud3 (.p63 l0 params1 parts7 C0 C1 C2 C3)
 | .p63 l0 params1 parts7 C0 C1 C2 C3 =>
  if ((List.length C3 : Int) != parts7) = true then
   some (((10 : Int), ()), ())
  else
   if (C0 == (2 : Int)) = true then
    (uI1 (.start C1 (0 : Int) (1000000000 : Int))) >>= fun t1 =>
    if (!t1.1.1) = true then
     some (((2 : Int), ()), ())
    else
     ud3 (.p255 l0 params1 C0 C1 C2 C3)
   else
    ud3 (.p255 l0 params1 C0 C1 C2 C3)
 | .p255 l0 params1 C0 C1 C2 C3 =>
  ud3 (.p4084 l0 params1 (0 : Int) C0 C1 C2 C3)
 | .p4084 l0 params1 i9 C0 C1 C2 C3 =>
  if (decide (i9 < (List.length C3 : Int))) = true then
   (idx C3 i9) >>= fun t1 =>
   (ud3 (.start l0 params1 t1.Kind t1.Value t1.Name t1.Parts)) >>= fun t2 =>
   if (t2.1.1 != (0 : Int)) = true then
    some ((t2.1.1, ()), ())
   else
    ud3 (.p4084 l0 params1 (IntKind.wrap .i64 (i9 + (1 : Int))) C0 C1 C2 C3)
  else
   some (((0 : Int), ()), ())
 partial_fixpoint
def xs5 : List (Plc E vG0) := [⟨31, [true, true, true, true], { slots := [0, 1, 5, 7], rows := [], flat := [], keep := 0 }, _, _, (.cons (Rd.sl 103 false) (.cons (Rd.sl 9 false) (.cons (Rd.bp 0 0) (.cons (Rd.int .i64) .nil)))), (.cons (.var 25 (.cons (Rd.int .i64) (.cons (Rd.int .i64) (.cons Rd.str (.cons (Rd.sl 25 false) .nil))))) .nil), fun a b => .p31 a.1 a.2.1 a.2.2.2.1 b.1.1 b.1.2.1 b.1.2.2.1 b.1.2.2.2.1⟩,
 ⟨63, [true, true, true, true, true], { slots := [0, 1, 5, 7], rows := [], flat := [], keep := 0 }, _, _, (.cons (Rd.sl 103 false) (.cons (Rd.sl 9 false) (.cons (Rd.bp 0 0) (.cons (Rd.int .i64) .nil)))), (.cons (.var 25 (.cons (Rd.int .i64) (.cons (Rd.int .i64) (.cons Rd.str (.cons (Rd.sl 25 false) .nil))))) .nil), fun a b => .p63 a.1 a.2.1 a.2.2.2.1 b.1.1 b.1.2.1 b.1.2.2.1 b.1.2.2.2.1⟩,
 ⟨255, [true, true, true, true, true, true, true], { slots := [0, 1, 5], rows := [], flat := [], keep := 0 }, _, _, (.cons (Rd.sl 103 false) (.cons (Rd.sl 9 false) (.cons (Rd.bp 0 0) .nil))), (.cons (.var 25 (.cons (Rd.int .i64) (.cons (Rd.int .i64) (.cons Rd.str (.cons (Rd.sl 25 false) .nil))))) .nil), fun a b => .p255 a.1 a.2.1 b.1.1 b.1.2.1 b.1.2.2.1 b.1.2.2.2.1⟩,
 ⟨4084, [false, false, true, false, true, true, true, true, true, true, true], { slots := [0, 1, 5, 9], rows := [], flat := [], keep := 0 }, _, _, (.cons (Rd.sl 103 false) (.cons (Rd.sl 9 false) (.cons (Rd.bp 0 0) (.cons (Rd.int .i64) .nil)))), (.cons (.var 25 (.cons (Rd.int .i64) (.cons (Rd.int .i64) (.cons Rd.str (.cons (Rd.sl 25 false) .nil))))) .nil), fun a b => .p4084 a.1 a.2.1 a.2.2.2.1 b.1.1 b.1.2.1 b.1.2.2.1 b.1.2.2.2.1⟩]
theorem wY7 : All (ub7 81 0 uG8 vU5) xs5 := ⟨⟨rfl, rfl, fun _ _ => rfl, fun _ _ => rfl⟩, ⟨⟨rfl, rfl, fun _ _ => rfl, fun _ _ => rfl⟩, ⟨⟨rfl, rfl, fun _ _ => rfl, fun _ _ => rfl⟩, ⟨⟨rfl, rfl, fun _ _ => rfl, fun _ _ => rfl⟩, trivial⟩⟩⟩⟩
def uK0 : Code := Tryz.f138.body.getD .skip
def xf0 (run' : vG0 → Option vV8) : Con E := ⟨138, ((List ua3) × ((List ByteArray) × ((Int × (Int × (ByteArray × ((List ua0) × Unit)))) × Unit))), Unit, (RwL.cons (Rw.sl 103) (RwL.cons (Rw.sl 9) (RwL.cons (Rw.agg (RwL.cons (Rd.int .i64).w (RwL.cons (Rd.int .i64).w (RwL.cons Rd.str.w (RwL.cons (Rw.sl 25) RwL.nil))))) RwL.nil))), RdBL.nil, 0, vV8, fun a b => run' (.start a.1 a.2.1 a.2.2.1.1 a.2.2.1.2.1 a.2.2.1.2.2.1 a.2.2.1.2.2.2.1), uo9.av, uo9.bx⟩
theorem wP3 {run' : vG0 → Option vV8} (ih : ∀ pt r, run' pt = some r → Good E Tryz.f138 uK0 0 (uo9.av r) (uo9.bx r) (uG8 pt) (vU5 pt)) : (xf0 run').Ok := fun a b r h => ub5 (fn := Tryz.f138) (code := uK0) E_ok (by kernel_rfl) (by kernel_rfl) (by kernel_rfl) (Nat.le_of_ble_eq_true rfl) (ih (.start a.1 a.2.1 a.2.2.1.1 a.2.2.1.2.1 a.2.2.1.2.2.1 a.2.2.1.2.2.2.1) r h)
def wy4 (run' : vG0 → Option vV8) : Spec E.S := (Con.add (xf0 run') (Con.add vz8 (Con.add vY8 (Con.add vz9 ub0))))
theorem wf5 {run' : vG0 → Option vV8} (ih : ∀ pt r, run' pt = some r → Good E Tryz.f138 uK0 0 (uo9.av r) (uo9.bx r) (uG8 pt) (vU5 pt)) : ua9 E (wy4 run') := (Con.add_ok (wP3 ih) (Con.add_ok uZ2 (Con.add_ok vq4 (Con.add_ok uZ3 ua7))))
theorem xF8 : ∀ pt r, ud3 pt = some r → Good E Tryz.f138 uK0 0 (uo9.av r) (uo9.bx r) (uG8 pt) (vU5 pt) := by
 refine ud3.partial_correctness (fun pt r => Good E Tryz.f138 uK0 0 (uo9.av r) (uo9.bx r) (uG8 pt) (vU5 pt)) ?_
 intro run' ih pt r hr
 cases pt <;> exact ua8 (spec := (wy4 run')) (wr := (mkWr [] [])) (l := xs5) (z := 81) (p := uo9) E_ok wY7.mem rfl (wf5 ih) ih (Eq.trans (by kernel_rfl) hr)
def w83 : Con E := ⟨138, _, _, (.cons (Rw.sl 103) (.cons (Rw.sl 9) (.cons (Rw.agg (.cons (Rd.int .i64).w (.cons (Rd.int .i64).w (.cons Rd.str.w (.cons (Rw.sl 25) .nil))))) .nil))), .nil, 0, vV8, fun a b => ud3 (.start a.1 a.2.1 a.2.2.1.1 a.2.2.1.2.1 a.2.2.1.2.2.1 a.2.2.1.2.2.2.1), uo9.av, uo9.bx⟩
theorem wK9 : w83.Ok := fun a b r h => ub5 (fn := Tryz.f138) (code := uK0) E_ok (by kernel_rfl) (by kernel_rfl) (by kernel_rfl) (Nat.le_of_ble_eq_true rfl) (xF8 (.start a.1 a.2.1 a.2.2.1.1 a.2.2.1.2.1 a.2.2.1.2.2.1 a.2.2.1.2.2.2.1) r h)
inductive xw4 where
 | start (l0 : (List ua3)) (params1 : (List ByteArray)) (t2_0 : Int) (t2_1 : Int) (t2_2 : ByteArray) (t2_3 : (List ua0))
def vO7 : xw4 → List Bool
 | .start .. => []
def xQ5 : xw4 → St E.S
 | .start l0 params1 t2_0 t2_1 t2_2 t2_3 => st0 14 [.sl 103 l0 false, .sl 9 params1 false, .agg [.v (.int .i64 t2_0), .v (.int .i64 t2_1), .v (.string t2_2), .sl 25 t2_3 false]] []
abbrev x27 : Type := ((Int × Unit) × Unit)
def vh2 : Res E (Int × Unit) Unit := { rows := [], flat := [], keep := 0, done := [0], rl := (.cons (Rd.int .i64) .nil), rb := .nil }
def u27 : xw4 → Option x27
 | .start l0 params1 t2_0 t2_1 t2_2 t2_3 =>
  (uR1 (.start t2_0 t2_1 t2_2 t2_3)) >>= fun t1 =>
  if (!t1.1.1) = true then
   some (((8 : Int), ()), ())
  else
   (ud3 (.start l0 params1 t2_0 t2_1 t2_2 t2_3)) >>= fun t2 =>
   some ((t2.1.1, ()), ())
def xs7 : List (Plc E xw4) := []
theorem wY8 : All (ub7 14 0 vO7 xQ5) xs7 := trivial
def wn1 : Code := Tryz.f103.body.getD .skip
def wy5 : Spec E.S := (Con.add w83 (Con.add vz7 ub0))
theorem wf6 : ua9 E wy5 := (Con.add_ok wK9 (Con.add_ok uZ1 ua7))
theorem xF9 : ∀ pt r, u27 pt = some r → Good E Tryz.f103 wn1 0 (vh2.av r) (vh2.bx r) (vO7 pt) (xQ5 pt) := by
 intro pt r hr
 cases pt <;> exact ua8 (spec := wy5) (wr := (mkWr [] [])) (l := xs7) (z := 14) (p := vh2) (run' := fun _ => none) E_ok wY8.mem rfl wf6 (fun _ _ h => by cases h) (Eq.trans (by kernel_rfl) hr)
def vY9 : Con E := ⟨103, _, _, (.cons (Rw.sl 103) (.cons (Rw.sl 9) (.cons (Rw.agg (.cons (Rd.int .i64).w (.cons (Rd.int .i64).w (.cons Rd.str.w (.cons (Rw.sl 25) .nil))))) .nil))), .nil, 0, x27, fun a b => u27 (.start a.1 a.2.1 a.2.2.1.1 a.2.2.1.2.1 a.2.2.1.2.2.1 a.2.2.1.2.2.2.1), vh2.av, vh2.bx⟩
theorem vq5 : vY9.Ok := fun a b r h => ub5 (fn := Tryz.f103) (code := wn1) E_ok (by kernel_rfl) (by kernel_rfl) (by kernel_rfl) (Nat.le_of_ble_eq_true rfl) (xF9 (.start a.1 a.2.1 a.2.2.1.1 a.2.2.1.2.1 a.2.2.1.2.2.1 a.2.2.1.2.2.2.1) r h)
inductive xw5 where
 | start (d0_0 : ByteArray) (d0_1 : (List ByteArray)) (d0_2 : (List ua1)) (c1_0 : ByteArray) (c1_1 : (List ua6)) (before2 : (List ua3))
 | p116 (before2 : (List ua3)) (i7 : Int) (C0 : ByteArray) (C1 : (List ByteArray)) (C2 : (List ua1)) (D0 : ByteArray) (D1 : (List ua6))
 | p59700 (before2 : (List ua3)) (i7 : Int) (k9 : Int) (C0 : ByteArray) (C1 : (List ByteArray)) (C2 : (List ua1)) (D0 : ByteArray) (D1 : (List ua6)) (G0 : ByteArray) (G1 : Int) (G2 : Int) (G3 : ByteArray) (G4 : (List ua0))
def vd4 : xw5 → List Bool
 | .start .. => []
 | .p116 .. => [false, false, true, false, true, true]
 | .p59700 .. => [false, false, true, false, true, true, false, false, true, false, false, true, false, true, true]
def xk1 : xw5 → St E.S
 | .start d0_0 d0_1 d0_2 c1_0 c1_1 before2 => st0 54 [.agg [.v (.string d0_0), .sl 9 d0_1 false, .sl 56 d0_2 false], .agg [.v (.string c1_0), .sl 58 c1_1 false], .sl 103 before2 false] []
 | .p116 before2 i7 C0 C1 C2 D0 D1 => mkSt 54 [2, 3, 4, 7] [.sl 103 before2 false, .bp 0 0, .bp 1 0, .v (.int .i64 i7)] [.var 103 [.v (.string C0), .sl 9 C1 false, .sl 56 C2 false], .var 56 [.v (.string D0), .sl 58 D1 false]]
 | .p59700 before2 i7 k9 C0 C1 C2 D0 D1 G0 G1 G2 G3 G4 => mkSt 54 [2, 3, 4, 7, 8, 9] [.sl 103 before2 false, .bp 0 0, .bp 1 0, .v (.int .i64 i7), .bp 2 0, .v (.int .i64 k9)] [.var 103 [.v (.string C0), .sl 9 C1 false, .sl 56 C2 false], .var 56 [.v (.string D0), .sl 58 D1 false], .var 58 [.v (.string G0), .v (.int .i64 G1), .v (.int .i64 G2), .v (.string G3), .sl 25 G4 false]]
abbrev x28 : Type := ((Int × Unit) × Unit)
def uQ2 : Res E (Int × Unit) Unit := { rows := [], flat := [], keep := 0, done := [0], rl := (.cons (Rd.int .i64) .nil), rb := .nil }
def uh8 : xw5 → Option x28
 | .start d0_0 d0_1 d0_2 c1_0 c1_1 before2 =>
  if (decide ((List.length c1_1 : Int) > (8 : Int))) = true then
   some (((8 : Int), ()), ())
  else
   uh8 (.p116 before2 (0 : Int) d0_0 d0_1 d0_2 c1_0 c1_1)
 | .p116 before2 i7 C0 C1 C2 D0 D1 =>
  if (decide (i7 < (List.length D1 : Int))) = true then
   (idx D1 i7) >>= fun t1 =>
   (ud6 (.start t1.Name)) >>= fun t2 =>
   if (!t2.1.1) = true then
    some (((4 : Int), ()), ())
   else
    uh8 (.p59700 before2 i7 (0 : Int) C0 C1 C2 D0 D1 t1.Name t1.Type_.Kind t1.Type_.Value t1.Type_.Name t1.Type_.Parts)
  else
   some (((0 : Int), ()), ())
 | .p59700 before2 i7 k9 C0 C1 C2 D0 D1 G0 G1 G2 G3 G4 =>
  if (decide (k9 < i7)) = true then
   (idx D1 k9) >>= fun t1 =>
   if (seq t1.Name G0) = true then
    some (((5 : Int), ()), ())
   else
    uh8 (.p59700 before2 i7 (IntKind.wrap .i64 (k9 + (1 : Int))) C0 C1 C2 D0 D1 G0 G1 G2 G3 G4)
  else
   (u27 (.start before2 C1 G1 G2 G3 G4)) >>= fun t2 =>
   if (t2.1.1 != (0 : Int)) = true then
    some ((t2.1.1, ()), ())
   else
    uh8 (.p116 before2 (IntKind.wrap .i64 (i7 + (1 : Int))) C0 C1 C2 D0 D1)
 partial_fixpoint
def xs8 : List (Plc E xw5) := [⟨116, [false, false, true, false, true, true], { slots := [2, 3, 4, 7], rows := [], flat := [], keep := 0 }, _, _, (.cons (Rd.sl 103 false) (.cons (Rd.bp 0 0) (.cons (Rd.bp 1 0) (.cons (Rd.int .i64) .nil)))), (.cons (.var 103 (.cons Rd.str (.cons (Rd.sl 9 false) (.cons (Rd.sl 56 false) .nil)))) (.cons (.var 56 (.cons Rd.str (.cons (Rd.sl 58 false) .nil))) .nil)), fun a b => .p116 a.1 a.2.2.2.1 b.1.1 b.1.2.1 b.1.2.2.1 b.2.1.1 b.2.1.2.1⟩,
 ⟨59700, [false, false, true, false, true, true, false, false, true, false, false, true, false, true, true], { slots := [2, 3, 4, 7, 8, 9], rows := [], flat := [], keep := 0 }, _, _, (.cons (Rd.sl 103 false) (.cons (Rd.bp 0 0) (.cons (Rd.bp 1 0) (.cons (Rd.int .i64) (.cons (Rd.bp 2 0) (.cons (Rd.int .i64) .nil)))))), (.cons (.var 103 (.cons Rd.str (.cons (Rd.sl 9 false) (.cons (Rd.sl 56 false) .nil)))) (.cons (.var 56 (.cons Rd.str (.cons (Rd.sl 58 false) .nil))) (.cons (.var 58 (.cons Rd.str (.cons (Rd.int .i64) (.cons (Rd.int .i64) (.cons Rd.str (.cons (Rd.sl 25 false) .nil)))))) .nil))), fun a b => .p59700 a.1 a.2.2.2.1 a.2.2.2.2.2.1 b.1.1 b.1.2.1 b.1.2.2.1 b.2.1.1 b.2.1.2.1 b.2.2.1.1 b.2.2.1.2.1 b.2.2.1.2.2.1 b.2.2.1.2.2.2.1 b.2.2.1.2.2.2.2.1⟩]
theorem wY9 : All (ub7 54 0 vd4 xk1) xs8 := ⟨⟨rfl, rfl, fun _ _ => rfl, fun _ _ => rfl⟩, ⟨⟨rfl, rfl, fun _ _ => rfl, fun _ _ => rfl⟩, trivial⟩⟩
def vy9 : Code := Tryz.f121.body.getD .skip
def wy6 : Spec E.S := (Con.add vY9 (Con.add vY7 ub0))
theorem wf7 : ua9 E wy6 := (Con.add_ok vq5 (Con.add_ok vq3 ua7))
theorem xG0 : ∀ pt r, uh8 pt = some r → Good E Tryz.f121 vy9 0 (uQ2.av r) (uQ2.bx r) (vd4 pt) (xk1 pt) := by
 refine uh8.partial_correctness (fun pt r => Good E Tryz.f121 vy9 0 (uQ2.av r) (uQ2.bx r) (vd4 pt) (xk1 pt)) ?_
 intro run' ih pt r hr
 cases pt <;> exact ua8 (spec := wy6) (wr := (mkWr [] [])) (l := xs8) (z := 54) (p := uQ2) E_ok wY9.mem rfl wf7 ih (Eq.trans (by kernel_rfl) hr)
def w85 : Con E := ⟨121, _, _, (.cons (Rw.agg (.cons Rd.str.w (.cons (Rw.sl 9) (.cons (Rw.sl 56) .nil)))) (.cons (Rw.agg (.cons Rd.str.w (.cons (Rw.sl 58) .nil))) (.cons (Rw.sl 103) .nil))), .nil, 0, x28, fun a b => uh8 (.start a.1.1 a.1.2.1 a.1.2.2.1 a.2.1.1 a.2.1.2.1 a.2.2.1), uQ2.av, uQ2.bx⟩
theorem wL0 : w85.Ok := fun a b r h => ub5 (fn := Tryz.f121) (code := vy9) E_ok (by kernel_rfl) (by kernel_rfl) (by kernel_rfl) (Nat.le_of_ble_eq_true rfl) (xG0 (.start a.1.1 a.1.2.1 a.1.2.2.1 a.2.1.1 a.2.1.2.1 a.2.2.1) r h)
inductive xw6 where
 | start (d0_0 : ByteArray) (d0_1 : (List ByteArray)) (d0_2 : (List ua1)) (before1 : (List ua3))
 | p15 (before1 : (List ua3)) (C0 : ByteArray) (C1 : (List ByteArray)) (C2 : (List ua1))
 | p31 (before1 : (List ua3)) (C0 : ByteArray) (C1 : (List ByteArray)) (C2 : (List ua1))
 | p1012 (before1 : (List ua3)) (i5 : Int) (C0 : ByteArray) (C1 : (List ByteArray)) (C2 : (List ua1))
 | p2036 (before1 : (List ua3)) (i6 : Int) (C0 : ByteArray) (C1 : (List ByteArray)) (C2 : (List ua1))
 | p130343 (before1 : (List ua3)) (i6 : Int) (C0 : ByteArray) (C1 : (List ByteArray)) (C2 : (List ua1)) (D0 : ByteArray) (D1 : (List ua6))
def vd5 : xw6 → List Bool
 | .start .. => []
 | .p15 .. => [true, true, true]
 | .p31 .. => [true, true, true, true]
 | .p1012 .. => [false, false, true, false, true, true, true, true, true]
 | .p2036 .. => [false, false, true, false, true, true, true, true, true, true]
 | .p130343 .. => [true, true, true, false, false, true, false, false, true, false, true, true, true, true, true, true]
def xk2 : xw6 → St E.S
 | .start d0_0 d0_1 d0_2 before1 => st0 119 [.agg [.v (.string d0_0), .sl 9 d0_1 false, .sl 56 d0_2 false], .sl 103 before1 false] []
 | .p15 before1 C0 C1 C2 => mkSt 119 [1, 2] [.sl 103 before1 false, .bp 0 0] [.var 103 [.v (.string C0), .sl 9 C1 false, .sl 56 C2 false]]
 | .p31 before1 C0 C1 C2 => mkSt 119 [1, 2] [.sl 103 before1 false, .bp 0 0] [.var 103 [.v (.string C0), .sl 9 C1 false, .sl 56 C2 false]]
 | .p1012 before1 i5 C0 C1 C2 => mkSt 119 [1, 2, 5] [.sl 103 before1 false, .bp 0 0, .v (.int .i64 i5)] [.var 103 [.v (.string C0), .sl 9 C1 false, .sl 56 C2 false]]
 | .p2036 before1 i6 C0 C1 C2 => mkSt 119 [1, 2, 6] [.sl 103 before1 false, .bp 0 0, .v (.int .i64 i6)] [.var 103 [.v (.string C0), .sl 9 C1 false, .sl 56 C2 false]]
 | .p130343 before1 i6 C0 C1 C2 D0 D1 => mkSt 119 [1, 2, 6, 7] [.sl 103 before1 false, .bp 0 0, .v (.int .i64 i6), .bp 1 0] [.var 103 [.v (.string C0), .sl 9 C1 false, .sl 56 C2 false], .var 56 [.v (.string D0), .sl 58 D1 false]]
abbrev x29 : Type := ((Int × Unit) × Unit)
def uQ3 : Res E (Int × Unit) Unit := { rows := [], flat := [], keep := 0, done := [0], rl := (.cons (Rd.int .i64) .nil), rb := .nil }
def ud7 : xw6 → Option x29
 | .start d0_0 d0_1 d0_2 before1 =>
  (ud6 (.start d0_0)) >>= fun t1 =>
  if (!t1.1.1) = true then
   some (((4 : Int), ()), ())
  else
   (um9 (.start before1 d0_0)) >>= fun t2 =>
   if (decide (t2.1.1 ≥ (0 : Int))) = true then
    some (((5 : Int), ()), ())
   else
    if (seq d0_0 (⟨#[66, 105, 116]⟩ : ByteArray)) = true then
     some (((5 : Int), ()), ())
    else
     if (seq d0_0 (⟨#[66, 111, 111, 108]⟩ : ByteArray)) = true then
      some (((5 : Int), ()), ())
     else
      if (seq d0_0 (⟨#[73, 110, 116, 101, 103, 101, 114]⟩ : ByteArray)) = true then
       some (((5 : Int), ()), ())
      else
       ud7 (.p15 before1 d0_0 d0_1 d0_2)
 | .p15 before1 C0 C1 C2 =>
  if (decide ((List.length C1 : Int) > (4 : Int))) = true then
   some (((8 : Int), ()), ())
  else
   if (decide ((List.length C2 : Int) > (16 : Int))) = true then
    some (((8 : Int), ()), ())
   else
    ud7 (.p31 before1 C0 C1 C2)
 | .p31 before1 C0 C1 C2 =>
  if ((List.length C2 : Int) == (0 : Int)) = true then
   some (((10 : Int), ()), ())
  else
   ud7 (.p1012 before1 (0 : Int) C0 C1 C2)
 | .p1012 before1 i5 C0 C1 C2 =>
  if (decide (i5 < (List.length C1 : Int))) = true then
   (idx C1 i5) >>= fun t1 =>
   (ud6 (.start t1)) >>= fun t2 =>
   if (!t2.1.1) = true then
    some (((4 : Int), ()), ())
   else
    (span (List.length C1) (0 : Int) i5) >>= fun t3 =>
    (idx C1 i5) >>= fun t4 =>
    (uq1 (.start (cut C1 t3) t4)) >>= fun t5 =>
    if t5.1.1 = true then
     some (((5 : Int), ()), ())
    else
     ud7 (.p1012 before1 (IntKind.wrap .i64 (i5 + (1 : Int))) C0 C1 C2)
  else
   ud7 (.p2036 before1 (0 : Int) C0 C1 C2)
 | .p2036 before1 i6 C0 C1 C2 =>
  if (decide (i6 < (List.length C2 : Int))) = true then
   (idx C2 i6) >>= fun t1 =>
   (ud6 (.start t1.Name)) >>= fun t2 =>
   if (!t2.1.1) = true then
    some (((4 : Int), ()), ())
   else
    (uh1 (.start before1 t1.Name)) >>= fun t3 =>
    if t3.1.1 = true then
     some (((5 : Int), ()), ())
    else
     (span (List.length C2) (0 : Int) i6) >>= fun t4 =>
     (uh1 (.start ([(⟨(⟨#[]⟩ : ByteArray), [], cut C2 t4⟩ : ua3)] : List ua3) t1.Name)) >>= fun t5 =>
     if t5.1.1 = true then
      some (((5 : Int), ()), ())
     else
      if (seq t1.Name (⟨#[70, 97, 108, 115, 101]⟩ : ByteArray)) = true then
       some (((5 : Int), ()), ())
      else
       if (seq t1.Name (⟨#[84, 114, 117, 101]⟩ : ByteArray)) = true then
        some (((5 : Int), ()), ())
       else
        ud7 (.p130343 before1 i6 C0 C1 C2 t1.Name t1.Fields)
  else
   some (((0 : Int), ()), ())
 | .p130343 before1 i6 C0 C1 C2 D0 D1 =>
  (uh8 (.start C0 C1 C2 D0 D1 before1)) >>= fun t1 =>
  if (t1.1.1 != (0 : Int)) = true then
   some ((t1.1.1, ()), ())
  else
   ud7 (.p2036 before1 (IntKind.wrap .i64 (i6 + (1 : Int))) C0 C1 C2)
 partial_fixpoint
def xs9 : List (Plc E xw6) := [⟨15, [true, true, true], { slots := [1, 2], rows := [], flat := [], keep := 0 }, _, _, (.cons (Rd.sl 103 false) (.cons (Rd.bp 0 0) .nil)), (.cons (.var 103 (.cons Rd.str (.cons (Rd.sl 9 false) (.cons (Rd.sl 56 false) .nil)))) .nil), fun a b => .p15 a.1 b.1.1 b.1.2.1 b.1.2.2.1⟩,
 ⟨31, [true, true, true, true], { slots := [1, 2], rows := [], flat := [], keep := 0 }, _, _, (.cons (Rd.sl 103 false) (.cons (Rd.bp 0 0) .nil)), (.cons (.var 103 (.cons Rd.str (.cons (Rd.sl 9 false) (.cons (Rd.sl 56 false) .nil)))) .nil), fun a b => .p31 a.1 b.1.1 b.1.2.1 b.1.2.2.1⟩,
 ⟨1012, [false, false, true, false, true, true, true, true, true], { slots := [1, 2, 5], rows := [], flat := [], keep := 0 }, _, _, (.cons (Rd.sl 103 false) (.cons (Rd.bp 0 0) (.cons (Rd.int .i64) .nil))), (.cons (.var 103 (.cons Rd.str (.cons (Rd.sl 9 false) (.cons (Rd.sl 56 false) .nil)))) .nil), fun a b => .p1012 a.1 a.2.2.1 b.1.1 b.1.2.1 b.1.2.2.1⟩,
 ⟨2036, [false, false, true, false, true, true, true, true, true, true], { slots := [1, 2, 6], rows := [], flat := [], keep := 0 }, _, _, (.cons (Rd.sl 103 false) (.cons (Rd.bp 0 0) (.cons (Rd.int .i64) .nil))), (.cons (.var 103 (.cons Rd.str (.cons (Rd.sl 9 false) (.cons (Rd.sl 56 false) .nil)))) .nil), fun a b => .p2036 a.1 a.2.2.1 b.1.1 b.1.2.1 b.1.2.2.1⟩,
 ⟨130343, [true, true, true, false, false, true, false, false, true, false, true, true, true, true, true, true], { slots := [1, 2, 6, 7], rows := [], flat := [], keep := 0 }, _, _, (.cons (Rd.sl 103 false) (.cons (Rd.bp 0 0) (.cons (Rd.int .i64) (.cons (Rd.bp 1 0) .nil)))), (.cons (.var 103 (.cons Rd.str (.cons (Rd.sl 9 false) (.cons (Rd.sl 56 false) .nil)))) (.cons (.var 56 (.cons Rd.str (.cons (Rd.sl 58 false) .nil))) .nil)), fun a b => .p130343 a.1 a.2.2.1 b.1.1 b.1.2.1 b.1.2.2.1 b.2.1.1 b.2.1.2.1⟩]
theorem wZ0 : All (ub7 119 0 vd5 xk2) xs9 := ⟨⟨rfl, rfl, fun _ _ => rfl, fun _ _ => rfl⟩, ⟨⟨rfl, rfl, fun _ _ => rfl, fun _ _ => rfl⟩, ⟨⟨rfl, rfl, fun _ _ => rfl, fun _ _ => rfl⟩, ⟨⟨rfl, rfl, fun _ _ => rfl, fun _ _ => rfl⟩, ⟨⟨rfl, rfl, fun _ _ => rfl, fun _ _ => rfl⟩, trivial⟩⟩⟩⟩⟩
def vz0 : Code := Tryz.f79.body.getD .skip
def wy7 : Spec E.S := (Con.add w85 (Con.add w82 (Con.add vY8 (Con.add vz8 (Con.add vY7 ub0)))))
theorem wf8 : ua9 E wy7 := (Con.add_ok wL0 (Con.add_ok wK8 (Con.add_ok vq4 (Con.add_ok uZ2 (Con.add_ok vq3 ua7)))))
theorem xG1 : ∀ pt r, ud7 pt = some r → Good E Tryz.f79 vz0 0 (uQ3.av r) (uQ3.bx r) (vd5 pt) (xk2 pt) := by
 refine ud7.partial_correctness (fun pt r => Good E Tryz.f79 vz0 0 (uQ3.av r) (uQ3.bx r) (vd5 pt) (xk2 pt)) ?_
 intro run' ih pt r hr
 cases pt <;> exact ua8 (spec := wy7) (wr := (mkWr [] [])) (l := xs9) (z := 119) (p := uQ3) E_ok wZ0.mem rfl wf8 ih (Eq.trans (by kernel_rfl) hr)
def w86 : Con E := ⟨79, _, _, (.cons (Rw.agg (.cons Rd.str.w (.cons (Rw.sl 9) (.cons (Rw.sl 56) .nil)))) (.cons (Rw.sl 103) .nil)), .nil, 0, x29, fun a b => ud7 (.start a.1.1 a.1.2.1 a.1.2.2.1 a.2.1), uQ3.av, uQ3.bx⟩
theorem wL1 : w86.Ok := fun a b r h => ub5 (fn := Tryz.f79) (code := vz0) E_ok (by kernel_rfl) (by kernel_rfl) (by kernel_rfl) (Nat.le_of_ble_eq_true rfl) (xG1 (.start a.1.1 a.1.2.1 a.1.2.2.1 a.2.1) r h)
inductive xw7 where
 | start (l0 : (List ua3))
 | p116 (l0 : (List ua3)) (i4 : Int)
def vd6 : xw7 → List Bool
 | .start .. => []
 | .p116 .. => [false, false, true, false, true, true]
def xk3 : xw7 → St E.S
 | .start l0 => st0 27 [.sl 103 l0 false] []
 | .p116 l0 i4 => mkSt 27 [0, 4] [.sl 103 l0 false, .v (.int .i64 i4)] []
abbrev x30 : Type := ((Int × (Int × Unit)) × Unit)
def uQ4 : Res E (Int × (Int × Unit)) Unit := { rows := [], flat := [], keep := 0, done := [0, 1], rl := (.cons (Rd.int .i64) (.cons (Rd.int .i64) .nil)), rb := .nil }
def ur7 : xw7 → Option x30
 | .start l0 =>
  if (decide ((List.length l0 : Int) > (20 : Int))) = true then
   some (((0 : Int), ((8 : Int), ())), ())
  else
   ur7 (.p116 l0 (0 : Int))
 | .p116 l0 i4 =>
  if (decide (i4 < (List.length l0 : Int))) = true then
   (idx l0 i4) >>= fun t1 =>
   (span (List.length l0) (0 : Int) i4) >>= fun t2 =>
   (ud7 (.start t1.Name t1.Params t1.Constructors (cut l0 t2))) >>= fun t3 =>
   if (t3.1.1 != (0 : Int)) = true then
    some ((i4, (t3.1.1, ())), ())
   else
    ur7 (.p116 l0 (IntKind.wrap .i64 (i4 + (1 : Int))))
  else
   some (((0 : Int), ((0 : Int), ())), ())
 partial_fixpoint
def xt0 : List (Plc E xw7) := [⟨116, [false, false, true, false, true, true], { slots := [0, 4], rows := [], flat := [], keep := 0 }, _, _, (.cons (Rd.sl 103 false) (.cons (Rd.int .i64) .nil)), .nil, fun a b => .p116 a.1 a.2.1⟩]
theorem wZ1 : All (ub7 27 0 vd6 xk3) xt0 := ⟨⟨rfl, rfl, fun _ _ => rfl, fun _ _ => rfl⟩, trivial⟩
def vz1 : Code := Tryz.f24.body.getD .skip
def wy8 : Spec E.S := (Con.add w86 ub0)
theorem wf9 : ua9 E wy8 := (Con.add_ok wL1 ua7)
theorem xG2 : ∀ pt r, ur7 pt = some r → Good E Tryz.f24 vz1 0 (uQ4.av r) (uQ4.bx r) (vd6 pt) (xk3 pt) := by
 refine ur7.partial_correctness (fun pt r => Good E Tryz.f24 vz1 0 (uQ4.av r) (uQ4.bx r) (vd6 pt) (xk3 pt)) ?_
 intro run' ih pt r hr
 cases pt <;> exact ua8 (spec := wy8) (wr := (mkWr [] [])) (l := xt0) (z := 27) (p := uQ4) E_ok wZ1.mem rfl wf9 ih (Eq.trans (by kernel_rfl) hr)
def w87 : Con E := ⟨24, _, _, (.cons (Rw.sl 103) .nil), .nil, 0, x30, fun a b => ur7 (.start a.1), uQ4.av, uQ4.bx⟩
theorem wL2 : w87.Ok := fun a b r h => ub5 (fn := Tryz.f24) (code := vz1) E_ok (by kernel_rfl) (by kernel_rfl) (by kernel_rfl) (Nat.le_of_ble_eq_true rfl) (xG2 (.start a.1) r h)
inductive xw8 where
 | start (l0 : (List ua3))
def vO8 : xw8 → List Bool
 | .start .. => []
def xQ6 : xw8 → St E.S
 | .start l0 => st0 11 [.sl 103 l0 false] []
abbrev x31 : Type := ((Int × Unit) × Unit)
def vh3 : Res E (Int × Unit) Unit := { rows := [], flat := [], keep := 0, done := [0], rl := (.cons (Rd.int .i64) .nil), rb := .nil }
def vE1 : xw8 → Option x31
 | .start l0 =>
  (ur7 (.start l0)) >>= fun t1 =>
  some ((t1.1.2.1, ()), ())
def xt1 : List (Plc E xw8) := []
theorem wZ2 : All (ub7 11 0 vO8 xQ6) xt1 := trivial
def wn2 : Code := Tryz.f62.body.getD .skip
def wy9 : Spec E.S := (Con.add w87 ub0)
theorem wg0 : ua9 E wy9 := (Con.add_ok wL2 ua7)
theorem xG3 : ∀ pt r, vE1 pt = some r → Good E Tryz.f62 wn2 0 (vh3.av r) (vh3.bx r) (vO8 pt) (xQ6 pt) := by
 intro pt r hr
 cases pt <;> exact ua8 (spec := wy9) (wr := (mkWr [] [])) (l := xt1) (z := 11) (p := vh3) (run' := fun _ => none) E_ok wZ2.mem rfl wg0 (fun _ _ h => by cases h) (Eq.trans (by kernel_rfl) hr)
def w88 : Con E := ⟨62, _, _, (.cons (Rw.sl 103) .nil), .nil, 0, x31, fun a b => vE1 (.start a.1), vh3.av, vh3.bx⟩
theorem wL3 : w88.Ok := fun a b r h => ub5 (fn := Tryz.f62) (code := wn2) E_ok (by kernel_rfl) (by kernel_rfl) (by kernel_rfl) (Nat.le_of_ble_eq_true rfl) (xG3 (.start a.1) r h)
inductive xw9 where
 | start (t0_0 : Int) (t0_1 : Int) (t0_2 : ByteArray) (t0_3 : (List ua0))
def vO9 : xw9 → List Bool
 | .start .. => []
def xQ7 : xw9 → St E.S
 | .start t0_0 t0_1 t0_2 t0_3 => st0 11 [.agg [.v (.int .i64 t0_0), .v (.int .i64 t0_1), .v (.string t0_2), .sl 25 t0_3 false]] []
abbrev x32 : Type := ((Bool × Unit) × Unit)
def vh4 : Res E (Bool × Unit) Unit := { rows := [], flat := [], keep := 0, done := [0], rl := (.cons Rd.bool .nil), rb := .nil }
def uI2 : xw9 → Option x32
 | .start t0_0 t0_1 t0_2 t0_3 =>
  if (t0_0 == (1 : Int)) = true then
   some ((seq t0_2 (⟨#[66, 105, 116]⟩ : ByteArray), ()), ())
  else
   some ((false, ()), ())
def xt2 : List (Plc E xw9) := []
theorem wZ3 : All (ub7 11 0 vO9 xQ7) xt2 := trivial
def wn3 : Code := Tryz.f27.body.getD .skip
def wz0 : Spec E.S := ub0
theorem wg1 : ua9 E wz0 := ua7
theorem xG4 : ∀ pt r, uI2 pt = some r → Good E Tryz.f27 wn3 0 (vh4.av r) (vh4.bx r) (vO9 pt) (xQ7 pt) := by
 intro pt r hr
 cases pt <;> exact ua8 (spec := wz0) (wr := (mkWr [] [])) (l := xt2) (z := 11) (p := vh4) (run' := fun _ => none) E_ok wZ3.mem rfl wg1 (fun _ _ h => by cases h) (Eq.trans (by kernel_rfl) hr)
def vZ0 : Con E := ⟨27, _, _, (.cons (Rw.agg (.cons (Rd.int .i64).w (.cons (Rd.int .i64).w (.cons Rd.str.w (.cons (Rw.sl 25) .nil))))) .nil), .nil, 0, x32, fun a b => uI2 (.start a.1.1 a.1.2.1 a.1.2.2.1 a.1.2.2.2.1), vh4.av, vh4.bx⟩
theorem vq6 : vZ0.Ok := fun a b r h => ub5 (fn := Tryz.f27) (code := wn3) E_ok (by kernel_rfl) (by kernel_rfl) (by kernel_rfl) (Nat.le_of_ble_eq_true rfl) (xG4 (.start a.1.1 a.1.2.1 a.1.2.2.1 a.1.2.2.2.1) r h)
inductive xx0 where
 | start (n0 : Int)
def vP0 : xx0 → List Bool
 | .start .. => []
def xQ8 : xx0 → St E.S
 | .start n0 => st0 5 [.v (.int .i64 n0)] []
abbrev x33 : Type := ((Bool × Unit) × Unit)
def vh5 : Res E (Bool × Unit) Unit := { rows := [], flat := [], keep := 0, done := [0], rl := (.cons Rd.bool .nil), rb := .nil }
def u28 : xx0 → Option x33
 | .start n0 =>
  (uI1 (.start n0 (1 : Int) (16 : Int))) >>= fun t1 =>
  some ((t1.1.1, ()), ())
def xt3 : List (Plc E xx0) := []
theorem wZ4 : All (ub7 5 0 vP0 xQ8) xt3 := trivial
def wn4 : Code := Tryz.f44.body.getD .skip
def wz1 : Spec E.S := (Con.add vz9 ub0)
theorem wg2 : ua9 E wz1 := (Con.add_ok uZ3 ua7)
theorem xG5 : ∀ pt r, u28 pt = some r → Good E Tryz.f44 wn4 0 (vh5.av r) (vh5.bx r) (vP0 pt) (xQ8 pt) := by
 intro pt r hr
 cases pt <;> exact ua8 (spec := wz1) (wr := (mkWr [] [])) (l := xt3) (z := 5) (p := vh5) (run' := fun _ => none) E_ok wZ4.mem rfl wg2 (fun _ _ h => by cases h) (Eq.trans (by kernel_rfl) hr)
def vZ1 : Con E := ⟨44, _, _, (.cons (Rd.int .i64).w .nil), .nil, 0, x33, fun a b => u28 (.start a.1), vh5.av, vh5.bx⟩
theorem vq7 : vZ1.Ok := fun a b r h => ub5 (fn := Tryz.f44) (code := wn4) E_ok (by kernel_rfl) (by kernel_rfl) (by kernel_rfl) (Nat.le_of_ble_eq_true rfl) (xG5 (.start a.1) r h)
inductive vG1 where
 | start (t0_0 : Int) (t0_1 : Int) (t0_2 : ByteArray) (t0_3 : (List ua0))
 | p244 (i4 : Int) (C0 : Int) (C1 : Int) (C2 : ByteArray) (C3 : (List ua0)) (D0 : Int) (D1 : Int) (D2 : ByteArray) (G0 : Int) (G1 : Int) (G2 : ByteArray) (B3 : (List ua0))
def uG9 : vG1 → List Bool
 | .start .. => []
 | .p244 .. => [false, false, true, false, true, true, true]
def vU6 : vG1 → St E.S
 | .start t0_0 t0_1 t0_2 t0_3 => st0 26 [.agg [.v (.int .i64 t0_0), .v (.int .i64 t0_1), .v (.string t0_2), .sl 25 t0_3 false]] []
 | .p244 i4 C0 C1 C2 C3 D0 D1 D2 G0 G1 G2 B3 => mkSt 26 [1, 2, 3, 4] [.bp 0 0, .bp 1 0, .bp 2 0, .v (.int .i64 i4)] [.var 25 [.v (.int .i64 C0), .v (.int .i64 C1), .v (.string C2), .sl 25 C3 false], .var 25 [.v (.int .i64 D0), .v (.int .i64 D1), .v (.string D2), .nl], .var 25 [.v (.int .i64 G0), .v (.int .i64 G1), .v (.string G2), .rw 3], .row 25 B3 false]
abbrev vV9 : Type := (((Int × (Int × (ByteArray × ((List ua0) × Unit)))) × Unit) × Unit)
def up0 : Res E ((Int × (Int × (ByteArray × ((List ua0) × Unit)))) × Unit) Unit := { rows := [], flat := [], keep := 0, deep := [(false, 0, 3, 25)], done := [0], rl := (.cons (Rd.agg (.cons (Rd.int .i64) (.cons (Rd.int .i64) (.cons Rd.str (.cons (Rd.sl 25 false) .nil))))) .nil), rb := .nil }
def un0 : vG1 → Option vV9
 | .start t0_0 t0_1 t0_2 t0_3 =>
  un0 (.p244 (0 : Int) t0_0 t0_1 t0_2 t0_3 (0 : Int) (0 : Int) (⟨#[]⟩ : ByteArray) t0_0 t0_1 t0_2 ([] : List ua0))
 | .p244 i4 C0 C1 C2 C3 D0 D1 D2 G0 G1 G2 B3 =>
  if (decide (i4 < (List.length C3 : Int))) = true then
   (idx C3 i4) >>= fun t1 =>
   (un0 (.start t1.Kind t1.Value t1.Name t1.Parts)) >>= fun t2 =>
   if (fits (List.length B3) (List.length ([(⟨t2.1.1.1, t2.1.1.2.1, t2.1.1.2.2.1, t2.1.1.2.2.2.1⟩ : ua0)] : List ua0)) 56) = true then
    un0 (.p244 (IntKind.wrap .i64 (i4 + (1 : Int))) C0 C1 C2 C3 D0 D1 D2 G0 G1 G2 (B3 ++ ([(⟨t2.1.1.1, t2.1.1.2.1, t2.1.1.2.2.1, t2.1.1.2.2.2.1⟩ : ua0)] : List ua0)))
   else none
  else
   some (((G0, (G1, (G2, (B3, ())))), ()), ())
 partial_fixpoint
def xt4 : List (Plc E vG1) := [⟨244, [false, false, true, false, true, true, true], { slots := [1, 2, 3, 4], rows := [], flat := [], keep := 0, up := [(true, 3, 3, 25)] }, _, _, (.cons (Rd.bp 0 0) (.cons (Rd.bp 1 0) (.cons (Rd.bp 2 0) (.cons (Rd.int .i64) .nil)))), (.cons (.var 25 (.cons (Rd.int .i64) (.cons (Rd.int .i64) (.cons Rd.str (.cons (Rd.sl 25 false) .nil))))) (.cons (.var 25 (.cons (Rd.int .i64) (.cons (Rd.int .i64) (.cons Rd.str (.cons Rd.nl .nil))))) (.cons (.var 25 (.cons (Rd.int .i64) (.cons (Rd.int .i64) (.cons Rd.str (.cons (Rd.rw 3) .nil))))) (.cons (.row 25 false) .nil)))), fun a b => .p244 a.2.2.2.1 b.1.1 b.1.2.1 b.1.2.2.1 b.1.2.2.2.1 b.2.1.1 b.2.1.2.1 b.2.1.2.2.1 b.2.2.1.1 b.2.2.1.2.1 b.2.2.1.2.2.1 b.2.2.2.1⟩]
theorem wZ5 : All (ub7 26 0 uG9 vU6) xt4 := ⟨⟨rfl, rfl, fun _ _ => rfl, fun _ _ => rfl⟩, trivial⟩
def uK1 : Code := Tryz.f107.body.getD .skip
def xf1 (run' : vG1 → Option vV9) : Con E := ⟨107, ((Int × (Int × (ByteArray × ((List ua0) × Unit)))) × Unit), Unit, (RwL.cons (Rw.agg (RwL.cons (Rd.int .i64).w (RwL.cons (Rd.int .i64).w (RwL.cons Rd.str.w (RwL.cons (Rw.sl 25) RwL.nil))))) RwL.nil), RdBL.nil, 0, vV9, fun a b => run' (.start a.1.1 a.1.2.1 a.1.2.2.1 a.1.2.2.2.1), up0.av, up0.bx⟩
theorem wP4 {run' : vG1 → Option vV9} (ih : ∀ pt r, run' pt = some r → Good E Tryz.f107 uK1 0 (up0.av r) (up0.bx r) (uG9 pt) (vU6 pt)) : (xf1 run').Ok := fun a b r h => ub5 (fn := Tryz.f107) (code := uK1) E_ok (by kernel_rfl) (by kernel_rfl) (by kernel_rfl) (Nat.le_of_ble_eq_true rfl) (ih (.start a.1.1 a.1.2.1 a.1.2.2.1 a.1.2.2.2.1) r h)
def wz2 (run' : vG1 → Option vV9) : Spec E.S := (Con.add (xf1 run') ub0)
theorem wg3 {run' : vG1 → Option vV9} (ih : ∀ pt r, run' pt = some r → Good E Tryz.f107 uK1 0 (up0.av r) (up0.bx r) (uG9 pt) (vU6 pt)) : ua9 E (wz2 run') := (Con.add_ok (wP4 ih) ua7)
theorem xG6 : ∀ pt r, un0 pt = some r → Good E Tryz.f107 uK1 0 (up0.av r) (up0.bx r) (uG9 pt) (vU6 pt) := by
 refine un0.partial_correctness (fun pt r => Good E Tryz.f107 uK1 0 (up0.av r) (up0.bx r) (uG9 pt) (vU6 pt)) ?_
 intro run' ih pt r hr
 cases pt <;> exact ua8 (spec := (wz2 run')) (wr := (mkWr [] [])) (l := xt4) (z := 26) (p := up0) E_ok wZ5.mem rfl (wg3 ih) ih (Eq.trans (by kernel_rfl) hr)
def vZ2 : Con E := ⟨107, _, _, (.cons (Rw.agg (.cons (Rd.int .i64).w (.cons (Rd.int .i64).w (.cons Rd.str.w (.cons (Rw.sl 25) .nil))))) .nil), .nil, 0, vV9, fun a b => un0 (.start a.1.1 a.1.2.1 a.1.2.2.1 a.1.2.2.2.1), up0.av, up0.bx⟩
theorem vq8 : vZ2.Ok := fun a b r h => ub5 (fn := Tryz.f107) (code := uK1) E_ok (by kernel_rfl) (by kernel_rfl) (by kernel_rfl) (Nat.le_of_ble_eq_true rfl) (xG6 (.start a.1.1 a.1.2.1 a.1.2.2.1 a.1.2.2.2.1) r h)
inductive vG2 where
 | start (t0_0 : Int) (t0_1 : Int) (t0_2 : ByteArray) (t0_3 : (List ua0)) (params1 : (List ByteArray)) (args2 : (List ua0))
 | p7 (params1 : (List ByteArray)) (args2 : (List ua0)) (C0 : Int) (C1 : Int) (C2 : ByteArray) (C3 : (List ua0)) (D0 : Int) (D1 : Int) (D2 : ByteArray)
 | p212 (params1 : (List ByteArray)) (args2 : (List ua0)) (i7 : Int) (C0 : Int) (C1 : Int) (C2 : ByteArray) (C3 : (List ua0)) (D0 : Int) (D1 : Int) (D2 : ByteArray)
 | p500 (params1 : (List ByteArray)) (args2 : (List ua0)) (i9 : Int) (C0 : Int) (C1 : Int) (C2 : ByteArray) (C3 : (List ua0)) (D0 : Int) (D1 : Int) (D2 : ByteArray) (G0 : Int) (G1 : Int) (G2 : ByteArray) (B3 : (List ua0))
def uH0 : vG2 → List Bool
 | .start .. => []
 | .p7 .. => [true, true]
 | .p212 .. => [false, false, true, false, true, false, true]
 | .p500 .. => [false, false, true, false, true, true, true, true]
def vU7 : vG2 → St E.S
 | .start t0_0 t0_1 t0_2 t0_3 params1 args2 => st0 54 [.agg [.v (.int .i64 t0_0), .v (.int .i64 t0_1), .v (.string t0_2), .sl 25 t0_3 false], .sl 9 params1 false, .sl 25 args2 false] []
 | .p7 params1 args2 C0 C1 C2 C3 D0 D1 D2 => mkSt 54 [1, 2, 3, 6] [.sl 9 params1 false, .sl 25 args2 false, .bp 0 0, .bp 1 0] [.var 25 [.v (.int .i64 C0), .v (.int .i64 C1), .v (.string C2), .sl 25 C3 false], .var 25 [.v (.int .i64 D0), .v (.int .i64 D1), .v (.string D2), .nl]]
 | .p212 params1 args2 i7 C0 C1 C2 C3 D0 D1 D2 => mkSt 54 [1, 2, 3, 6, 7] [.sl 9 params1 false, .sl 25 args2 false, .bp 0 0, .bp 1 0, .v (.int .i64 i7)] [.var 25 [.v (.int .i64 C0), .v (.int .i64 C1), .v (.string C2), .sl 25 C3 false], .var 25 [.v (.int .i64 D0), .v (.int .i64 D1), .v (.string D2), .nl]]
 | .p500 params1 args2 i9 C0 C1 C2 C3 D0 D1 D2 G0 G1 G2 B3 => mkSt 54 [1, 2, 3, 6, 8, 9] [.sl 9 params1 false, .sl 25 args2 false, .bp 0 0, .bp 1 0, .bp 2 0, .v (.int .i64 i9)] [.var 25 [.v (.int .i64 C0), .v (.int .i64 C1), .v (.string C2), .sl 25 C3 false], .var 25 [.v (.int .i64 D0), .v (.int .i64 D1), .v (.string D2), .nl], .var 25 [.v (.int .i64 G0), .v (.int .i64 G1), .v (.string G2), .rw 3], .row 25 B3 false]
abbrev vW0 : Type := (((Int × (Int × (ByteArray × ((List ua0) × Unit)))) × Unit) × Unit)
def up1 : Res E ((Int × (Int × (ByteArray × ((List ua0) × Unit)))) × Unit) Unit := { rows := [], flat := [], keep := 0, deep := [(false, 0, 3, 25)], done := [0], rl := (.cons (Rd.agg (.cons (Rd.int .i64) (.cons (Rd.int .i64) (.cons Rd.str (.cons (Rd.sl 25 false) .nil))))) .nil), rb := .nil }
def uf2 : vG2 → Option vW0
 | .start t0_0 t0_1 t0_2 t0_3 params1 args2 =>
  if (t0_0 == (0 : Int)) = true then
   uf2 (.p212 params1 args2 (0 : Int) t0_0 t0_1 t0_2 t0_3 (0 : Int) (0 : Int) (⟨#[]⟩ : ByteArray))
  else
   uf2 (.p7 params1 args2 t0_0 t0_1 t0_2 t0_3 (0 : Int) (0 : Int) (⟨#[]⟩ : ByteArray))
 | .p7 params1 args2 C0 C1 C2 C3 D0 D1 D2 =>
  uf2 (.p500 params1 args2 (0 : Int) C0 C1 C2 C3 D0 D1 D2 C0 C1 C2 ([] : List ua0))
 | .p212 params1 args2 i7 C0 C1 C2 C3 D0 D1 D2 =>
  if (decide (i7 < (List.length params1 : Int))) = true then
   (idx params1 i7) >>= fun t1 =>
   if (seq t1 C2) = true then
    (idx args2 i7) >>= fun t2 =>
    (un0 (.start t2.Kind t2.Value t2.Name t2.Parts)) >>= fun t3 =>
    some (((t3.1.1.1, (t3.1.1.2.1, (t3.1.1.2.2.1, (t3.1.1.2.2.2.1, ())))), ()), ())
   else
    uf2 (.p212 params1 args2 (IntKind.wrap .i64 (i7 + (1 : Int))) C0 C1 C2 C3 D0 D1 D2)
  else
   uf2 (.p7 params1 args2 C0 C1 C2 C3 D0 D1 D2)
 | .p500 params1 args2 i9 C0 C1 C2 C3 D0 D1 D2 G0 G1 G2 B3 =>
  if (decide (i9 < (List.length C3 : Int))) = true then
   (idx C3 i9) >>= fun t1 =>
   (uf2 (.start t1.Kind t1.Value t1.Name t1.Parts params1 args2)) >>= fun t2 =>
   if (fits (List.length B3) (List.length ([(⟨t2.1.1.1, t2.1.1.2.1, t2.1.1.2.2.1, t2.1.1.2.2.2.1⟩ : ua0)] : List ua0)) 56) = true then
    uf2 (.p500 params1 args2 (IntKind.wrap .i64 (i9 + (1 : Int))) C0 C1 C2 C3 D0 D1 D2 G0 G1 G2 (B3 ++ ([(⟨t2.1.1.1, t2.1.1.2.1, t2.1.1.2.2.1, t2.1.1.2.2.2.1⟩ : ua0)] : List ua0)))
   else none
  else
   some (((G0, (G1, (G2, (B3, ())))), ()), ())
 partial_fixpoint
def xt5 : List (Plc E vG2) := [⟨7, [true, true], { slots := [1, 2, 3, 6], rows := [], flat := [], keep := 0 }, _, _, (.cons (Rd.sl 9 false) (.cons (Rd.sl 25 false) (.cons (Rd.bp 0 0) (.cons (Rd.bp 1 0) .nil)))), (.cons (.var 25 (.cons (Rd.int .i64) (.cons (Rd.int .i64) (.cons Rd.str (.cons (Rd.sl 25 false) .nil))))) (.cons (.var 25 (.cons (Rd.int .i64) (.cons (Rd.int .i64) (.cons Rd.str (.cons Rd.nl .nil))))) .nil)), fun a b => .p7 a.1 a.2.1 b.1.1 b.1.2.1 b.1.2.2.1 b.1.2.2.2.1 b.2.1.1 b.2.1.2.1 b.2.1.2.2.1⟩,
 ⟨212, [false, false, true, false, true, false, true], { slots := [1, 2, 3, 6, 7], rows := [], flat := [], keep := 0 }, _, _, (.cons (Rd.sl 9 false) (.cons (Rd.sl 25 false) (.cons (Rd.bp 0 0) (.cons (Rd.bp 1 0) (.cons (Rd.int .i64) .nil))))), (.cons (.var 25 (.cons (Rd.int .i64) (.cons (Rd.int .i64) (.cons Rd.str (.cons (Rd.sl 25 false) .nil))))) (.cons (.var 25 (.cons (Rd.int .i64) (.cons (Rd.int .i64) (.cons Rd.str (.cons Rd.nl .nil))))) .nil)), fun a b => .p212 a.1 a.2.1 a.2.2.2.2.1 b.1.1 b.1.2.1 b.1.2.2.1 b.1.2.2.2.1 b.2.1.1 b.2.1.2.1 b.2.1.2.2.1⟩,
 ⟨500, [false, false, true, false, true, true, true, true], { slots := [1, 2, 3, 6, 8, 9], rows := [], flat := [], keep := 0, up := [(true, 8, 3, 25)] }, _, _, (.cons (Rd.sl 9 false) (.cons (Rd.sl 25 false) (.cons (Rd.bp 0 0) (.cons (Rd.bp 1 0) (.cons (Rd.bp 2 0) (.cons (Rd.int .i64) .nil)))))), (.cons (.var 25 (.cons (Rd.int .i64) (.cons (Rd.int .i64) (.cons Rd.str (.cons (Rd.sl 25 false) .nil))))) (.cons (.var 25 (.cons (Rd.int .i64) (.cons (Rd.int .i64) (.cons Rd.str (.cons Rd.nl .nil))))) (.cons (.var 25 (.cons (Rd.int .i64) (.cons (Rd.int .i64) (.cons Rd.str (.cons (Rd.rw 3) .nil))))) (.cons (.row 25 false) .nil)))), fun a b => .p500 a.1 a.2.1 a.2.2.2.2.2.1 b.1.1 b.1.2.1 b.1.2.2.1 b.1.2.2.2.1 b.2.1.1 b.2.1.2.1 b.2.1.2.2.1 b.2.2.1.1 b.2.2.1.2.1 b.2.2.1.2.2.1 b.2.2.2.1⟩]
theorem wZ6 : All (ub7 54 0 uH0 vU7) xt5 := ⟨⟨rfl, rfl, fun _ _ => rfl, fun _ _ => rfl⟩, ⟨⟨rfl, rfl, fun _ _ => rfl, fun _ _ => rfl⟩, ⟨⟨rfl, rfl, fun _ _ => rfl, fun _ _ => rfl⟩, trivial⟩⟩⟩
def uK2 : Code := Tryz.f82.body.getD .skip
def xf2 (run' : vG2 → Option vW0) : Con E := ⟨82, ((Int × (Int × (ByteArray × ((List ua0) × Unit)))) × ((List ByteArray) × ((List ua0) × Unit))), Unit, (RwL.cons (Rw.agg (RwL.cons (Rd.int .i64).w (RwL.cons (Rd.int .i64).w (RwL.cons Rd.str.w (RwL.cons (Rw.sl 25) RwL.nil))))) (RwL.cons (Rw.sl 9) (RwL.cons (Rw.sl 25) RwL.nil))), RdBL.nil, 0, vW0, fun a b => run' (.start a.1.1 a.1.2.1 a.1.2.2.1 a.1.2.2.2.1 a.2.1 a.2.2.1), up1.av, up1.bx⟩
theorem wP5 {run' : vG2 → Option vW0} (ih : ∀ pt r, run' pt = some r → Good E Tryz.f82 uK2 0 (up1.av r) (up1.bx r) (uH0 pt) (vU7 pt)) : (xf2 run').Ok := fun a b r h => ub5 (fn := Tryz.f82) (code := uK2) E_ok (by kernel_rfl) (by kernel_rfl) (by kernel_rfl) (Nat.le_of_ble_eq_true rfl) (ih (.start a.1.1 a.1.2.1 a.1.2.2.1 a.1.2.2.2.1 a.2.1 a.2.2.1) r h)
def wz3 (run' : vG2 → Option vW0) : Spec E.S := (Con.add (xf2 run') (Con.add vZ2 ub0))
theorem wg4 {run' : vG2 → Option vW0} (ih : ∀ pt r, run' pt = some r → Good E Tryz.f82 uK2 0 (up1.av r) (up1.bx r) (uH0 pt) (vU7 pt)) : ua9 E (wz3 run') := (Con.add_ok (wP5 ih) (Con.add_ok vq8 ua7))
theorem xG7 : ∀ pt r, uf2 pt = some r → Good E Tryz.f82 uK2 0 (up1.av r) (up1.bx r) (uH0 pt) (vU7 pt) := by
 refine uf2.partial_correctness (fun pt r => Good E Tryz.f82 uK2 0 (up1.av r) (up1.bx r) (uH0 pt) (vU7 pt)) ?_
 intro run' ih pt r hr
 cases pt <;> exact ua8 (spec := (wz3 run')) (wr := (mkWr [] [])) (l := xt5) (z := 54) (p := up1) E_ok wZ6.mem rfl (wg4 ih) ih (Eq.trans (by kernel_rfl) hr)
def w89 : Con E := ⟨82, _, _, (.cons (Rw.agg (.cons (Rd.int .i64).w (.cons (Rd.int .i64).w (.cons Rd.str.w (.cons (Rw.sl 25) .nil))))) (.cons (Rw.sl 9) (.cons (Rw.sl 25) .nil))), .nil, 0, vW0, fun a b => uf2 (.start a.1.1 a.1.2.1 a.1.2.2.1 a.1.2.2.2.1 a.2.1 a.2.2.1), up1.av, up1.bx⟩
theorem wL4 : w89.Ok := fun a b r h => ub5 (fn := Tryz.f82) (code := uK2) E_ok (by kernel_rfl) (by kernel_rfl) (by kernel_rfl) (Nat.le_of_ble_eq_true rfl) (xG7 (.start a.1.1 a.1.2.1 a.1.2.2.1 a.1.2.2.2.1 a.2.1 a.2.2.1) r h)
inductive xx1 where
 | start (l0 : (List ua3)) (t1_0 : Int) (t1_1 : Int) (t1_2 : ByteArray) (t1_3 : (List ua0))
 | p500 (i7 : Int) (C0 : Int) (C1 : Int) (C2 : ByteArray) (C3 : (List ua0)) (D0 : ByteArray) (D1 : (List ByteArray)) (D2 : (List ua1)) (B2 : (List ua1))
 | p128148 (i7 : Int) (k9 : Int) (C0 : Int) (C1 : Int) (C2 : ByteArray) (C3 : (List ua0)) (D0 : ByteArray) (D1 : (List ByteArray)) (D2 : (List ua1)) (B2 : (List ua1)) (B3 : ByteArray) (B4 : (List ua6))
def vd7 : xx1 → List Bool
 | .start .. => []
 | .p500 .. => [false, false, true, false, true, true, true, true]
 | .p128148 .. => [false, false, true, false, true, false, false, true, false, false, true, false, true, true, true, true]
def xk4 : xx1 → St E.S
 | .start l0 t1_0 t1_1 t1_2 t1_3 => st0 78 [.sl 103 l0 false, .agg [.v (.int .i64 t1_0), .v (.int .i64 t1_1), .v (.string t1_2), .sl 25 t1_3 false]] []
 | .p500 i7 C0 C1 C2 C3 D0 D1 D2 B2 => mkSt 78 [3, 5, 6, 7] [.bp 0 0, .bp 1 0, .rw 2, .v (.int .i64 i7)] [.var 25 [.v (.int .i64 C0), .v (.int .i64 C1), .v (.string C2), .sl 25 C3 false], .var 103 [.v (.string D0), .sl 9 D1 false, .sl 56 D2 false], .row 56 B2 false]
 | .p128148 i7 k9 C0 C1 C2 C3 D0 D1 D2 B2 B3 B4 => mkSt 78 [3, 5, 6, 7, 8, 9] [.bp 0 0, .bp 1 0, .rw 2, .v (.int .i64 i7), .bp 3 0, .v (.int .i64 k9)] [.var 25 [.v (.int .i64 C0), .v (.int .i64 C1), .v (.string C2), .sl 25 C3 false], .var 103 [.v (.string D0), .sl 9 D1 false, .sl 56 D2 false], .row 56 B2 false, .var 56 [.v (.string B3), .rw 4], .row 58 B4 false]
abbrev x34 : Type := (((List ua1) × Unit) × Unit)
def uQ5 : Res E ((List ua1) × Unit) Unit := { rows := [], flat := [(0, 56)], keep := 0, done := [0], rl := (.cons (Rd.sl 56 false) .nil), rb := .nil }
def ug2 : xx1 → Option x34
 | .start l0 t1_0 t1_1 t1_2 t1_3 =>
  if (seq t1_2 (⟨#[66, 111, 111, 108]⟩ : ByteArray)) = true then
   some ((([(⟨(⟨#[70, 97, 108, 115, 101]⟩ : ByteArray), []⟩ : ua1), (⟨(⟨#[84, 114, 117, 101]⟩ : ByteArray), []⟩ : ua1)] : List ua1), ()), ())
  else
   (um9 (.start l0 t1_2)) >>= fun t1 =>
   (idx l0 t1.1.1) >>= fun t2 =>
   ug2 (.p500 (0 : Int) t1_0 t1_1 t1_2 t1_3 t2.Name t2.Params t2.Constructors ([] : List ua1))
 | .p500 i7 C0 C1 C2 C3 D0 D1 D2 B2 =>
  if (decide (i7 < (List.length D2 : Int))) = true then
   (idx D2 i7) >>= fun t1 =>
   ug2 (.p128148 i7 (0 : Int) C0 C1 C2 C3 D0 D1 D2 B2 t1.Name ([] : List ua6))
  else
   some ((B2, ()), ())
 | .p128148 i7 k9 C0 C1 C2 C3 D0 D1 D2 B2 B3 B4 =>
  (idx D2 i7) >>= fun t1 =>
  if (decide (k9 < (List.length t1.Fields : Int))) = true then
   (idx D2 i7) >>= fun t2 =>
   (idx t2.Fields k9) >>= fun t3 =>
   (uf2 (.start t3.Type_.Kind t3.Type_.Value t3.Type_.Name t3.Type_.Parts D1 C3)) >>= fun t4 =>
   if (fits (List.length B4) (List.length ([(⟨t3.Name, (⟨t4.1.1.1, t4.1.1.2.1, t4.1.1.2.2.1, t4.1.1.2.2.2.1⟩ : ua0)⟩ : ua6)] : List ua6)) 72) = true then
    ug2 (.p128148 i7 (IntKind.wrap .i64 (k9 + (1 : Int))) C0 C1 C2 C3 D0 D1 D2 B2 B3 (B4 ++ ([(⟨t3.Name, (⟨t4.1.1.1, t4.1.1.2.1, t4.1.1.2.2.1, t4.1.1.2.2.2.1⟩ : ua0)⟩ : ua6)] : List ua6)))
   else none
  else
   if (fits (List.length B2) (List.length ([(⟨B3, B4⟩ : ua1)] : List ua1)) 40) = true then
    ug2 (.p500 (IntKind.wrap .i64 (i7 + (1 : Int))) C0 C1 C2 C3 D0 D1 D2 (B2 ++ ([(⟨B3, B4⟩ : ua1)] : List ua1)))
   else none
 partial_fixpoint
def xt6 : List (Plc E xx1) := [⟨500, [false, false, true, false, true, true, true, true], { slots := [3, 5, 6, 7], rows := [(6, 56)], flat := [], keep := 0 }, _, _, (.cons (Rd.bp 0 0) (.cons (Rd.bp 1 0) (.cons (Rd.rw 2) (.cons (Rd.int .i64) .nil)))), (.cons (.var 25 (.cons (Rd.int .i64) (.cons (Rd.int .i64) (.cons Rd.str (.cons (Rd.sl 25 false) .nil))))) (.cons (.var 103 (.cons Rd.str (.cons (Rd.sl 9 false) (.cons (Rd.sl 56 false) .nil)))) (.cons (.row 56 false) .nil))), fun a b => .p500 a.2.2.2.1 b.1.1 b.1.2.1 b.1.2.2.1 b.1.2.2.2.1 b.2.1.1 b.2.1.2.1 b.2.1.2.2.1 b.2.2.1⟩,
 ⟨128148, [false, false, true, false, true, false, false, true, false, false, true, false, true, true, true, true], { slots := [3, 5, 6, 7, 8, 9], rows := [], flat := [], keep := 0, up := [(true, 8, 1, 58)] }, _, _, (.cons (Rd.bp 0 0) (.cons (Rd.bp 1 0) (.cons (Rd.rw 2) (.cons (Rd.int .i64) (.cons (Rd.bp 3 0) (.cons (Rd.int .i64) .nil)))))), (.cons (.var 25 (.cons (Rd.int .i64) (.cons (Rd.int .i64) (.cons Rd.str (.cons (Rd.sl 25 false) .nil))))) (.cons (.var 103 (.cons Rd.str (.cons (Rd.sl 9 false) (.cons (Rd.sl 56 false) .nil)))) (.cons (.row 56 false) (.cons (.var 56 (.cons Rd.str (.cons (Rd.rw 4) .nil))) (.cons (.row 58 false) .nil))))), fun a b => .p128148 a.2.2.2.1 a.2.2.2.2.2.1 b.1.1 b.1.2.1 b.1.2.2.1 b.1.2.2.2.1 b.2.1.1 b.2.1.2.1 b.2.1.2.2.1 b.2.2.1 b.2.2.2.1.1 b.2.2.2.2.1⟩]
theorem wZ7 : All (ub7 78 0 vd7 xk4) xt6 := ⟨⟨rfl, rfl, fun _ _ => rfl, fun _ _ => rfl⟩, ⟨⟨rfl, rfl, fun _ _ => rfl, fun _ _ => rfl⟩, trivial⟩⟩
def vz2 : Code := Tryz.f28.body.getD .skip
def wz4 : Spec E.S := (Con.add w89 (Con.add vz8 ub0))
theorem wg5 : ua9 E wz4 := (Con.add_ok wL4 (Con.add_ok uZ2 ua7))
theorem xG8 : ∀ pt r, ug2 pt = some r → Good E Tryz.f28 vz2 0 (uQ5.av r) (uQ5.bx r) (vd7 pt) (xk4 pt) := by
 refine ug2.partial_correctness (fun pt r => Good E Tryz.f28 vz2 0 (uQ5.av r) (uQ5.bx r) (vd7 pt) (xk4 pt)) ?_
 intro run' ih pt r hr
 cases pt <;> exact ua8 (spec := wz4) (wr := (mkWr [] [(16019, [8])])) (l := xt6) (z := 78) (p := uQ5) E_ok wZ7.mem rfl wg5 ih (Eq.trans (by kernel_rfl) hr)
def vA0 : Con E := ⟨28, _, _, (.cons (Rw.sl 103) (.cons (Rw.agg (.cons (Rd.int .i64).w (.cons (Rd.int .i64).w (.cons Rd.str.w (.cons (Rw.sl 25) .nil))))) .nil)), .nil, 0, x34, fun a b => ug2 (.start a.1 a.2.1.1 a.2.1.2.1 a.2.1.2.2.1 a.2.1.2.2.2.1), uQ5.av, uQ5.bx⟩
theorem uZ4 : vA0.Ok := fun a b r h => ub5 (fn := Tryz.f28) (code := vz2) E_ok (by kernel_rfl) (by kernel_rfl) (by kernel_rfl) (Nat.le_of_ble_eq_true rfl) (xG8 (.start a.1 a.2.1.1 a.2.1.2.1 a.2.1.2.2.1 a.2.1.2.2.2.1) r h)
inductive vG3 where
 | start (l0 : (List ua3)) (t1_0 : Int) (t1_1 : Int) (t1_2 : ByteArray) (t1_3 : (List ua0)) (before2_0 : Int) (before2_1 : Int) (before2_2 : Int)
 | p31 (l0 : (List ua3)) (C0 : Int) (C1 : Int) (C2 : ByteArray) (C3 : (List ua0)) (D0 : Int) (D1 : Int) (D2 : Int) (G0 : Int) (G1 : Int) (G2 : Int)
 | p63 (l0 : (List ua3)) (C0 : Int) (C1 : Int) (C2 : ByteArray) (C3 : (List ua0)) (D0 : Int) (D1 : Int) (D2 : Int) (G0 : Int) (G1 : Int) (G2 : Int)
 | p127 (l0 : (List ua3)) (C0 : Int) (C1 : Int) (C2 : ByteArray) (C3 : (List ua0)) (D0 : Int) (D1 : Int) (D2 : Int) (G0 : Int) (G1 : Int) (G2 : Int)
 | p8180 (l0 : (List ua3)) (all8 : (List ua1)) (i9 : Int) (C0 : Int) (C1 : Int) (C2 : Int) (D0 : Int) (D1 : Int) (D2 : Int)
 | p523556 (l0 : (List ua3)) (all8 : (List ua1)) (i9 : Int) (k10 : Int) (C0 : Int) (C1 : Int) (C2 : Int) (D0 : Int) (D1 : Int) (D2 : Int)
def uH1 : vG3 → List Bool
 | .start .. => []
 | .p31 .. => [true, true, true, true]
 | .p63 .. => [true, true, true, true, true]
 | .p127 .. => [true, true, true, true, true, true]
 | .p8180 .. => [false, false, true, false, true, true, true, true, true, true, true, true]
 | .p523556 .. => [false, false, true, false, false, true, false, false, true, false, true, true, true, true, true, true, true, true]
def vU8 : vG3 → St E.S
 | .start l0 t1_0 t1_1 t1_2 t1_3 before2_0 before2_1 before2_2 => st0 113 [.sl 103 l0 false, .agg [.v (.int .i64 t1_0), .v (.int .i64 t1_1), .v (.string t1_2), .sl 25 t1_3 false], .agg [.v (.int .i64 before2_0), .v (.int .i64 before2_1), .v (.int .i64 before2_2)]] []
 | .p31 l0 C0 C1 C2 C3 D0 D1 D2 G0 G1 G2 => mkSt 113 [0, 4, 6, 7] [.sl 103 l0 false, .bp 0 0, .bp 1 0, .bp 2 0] [.var 25 [.v (.int .i64 C0), .v (.int .i64 C1), .v (.string C2), .sl 25 C3 false], .var 143 [.v (.int .i64 D0), .v (.int .i64 D1), .v (.int .i64 D2)], .var 143 [.v (.int .i64 G0), .v (.int .i64 G1), .v (.int .i64 G2)]]
 | .p63 l0 C0 C1 C2 C3 D0 D1 D2 G0 G1 G2 => mkSt 113 [0, 4, 6, 7] [.sl 103 l0 false, .bp 0 0, .bp 1 0, .bp 2 0] [.var 25 [.v (.int .i64 C0), .v (.int .i64 C1), .v (.string C2), .sl 25 C3 false], .var 143 [.v (.int .i64 D0), .v (.int .i64 D1), .v (.int .i64 D2)], .var 143 [.v (.int .i64 G0), .v (.int .i64 G1), .v (.int .i64 G2)]]
 | .p127 l0 C0 C1 C2 C3 D0 D1 D2 G0 G1 G2 => mkSt 113 [0, 4, 6, 7] [.sl 103 l0 false, .bp 0 0, .bp 1 0, .bp 2 0] [.var 25 [.v (.int .i64 C0), .v (.int .i64 C1), .v (.string C2), .sl 25 C3 false], .var 143 [.v (.int .i64 D0), .v (.int .i64 D1), .v (.int .i64 D2)], .var 143 [.v (.int .i64 G0), .v (.int .i64 G1), .v (.int .i64 G2)]]
 | .p8180 l0 all8 i9 C0 C1 C2 D0 D1 D2 => mkSt 113 [0, 6, 7, 8, 9] [.sl 103 l0 false, .bp 0 0, .bp 1 0, .sl 56 all8 false, .v (.int .i64 i9)] [.var 143 [.v (.int .i64 C0), .v (.int .i64 C1), .v (.int .i64 C2)], .var 143 [.v (.int .i64 D0), .v (.int .i64 D1), .v (.int .i64 D2)]]
 | .p523556 l0 all8 i9 k10 C0 C1 C2 D0 D1 D2 => mkSt 113 [0, 6, 7, 8, 9, 10] [.sl 103 l0 false, .bp 0 0, .bp 1 0, .sl 56 all8 false, .v (.int .i64 i9), .v (.int .i64 k10)] [.var 143 [.v (.int .i64 C0), .v (.int .i64 C1), .v (.int .i64 C2)], .var 143 [.v (.int .i64 D0), .v (.int .i64 D1), .v (.int .i64 D2)]]
abbrev vW1 : Type := (((Int × (Int × (Int × Unit))) × Unit) × Unit)
def up2 : Res E ((Int × (Int × (Int × Unit))) × Unit) Unit := { rows := [], flat := [], keep := 0, done := [0], rl := (.cons (Rd.agg (.cons (Rd.int .i64) (.cons (Rd.int .i64) (.cons (Rd.int .i64) .nil)))) .nil), rb := .nil }
def uc1 : vG3 → Option vW1
 | .start l0 t1_0 t1_1 t1_2 t1_3 before2_0 before2_1 before2_2 =>
  (uR1 (.start t1_0 t1_1 t1_2 t1_3)) >>= fun t1 =>
  if (!t1.1.1) = true then
   some (((IntKind.wrap .i64 (before2_0 + (1 : Int)), ((8 : Int), (before2_2, ()))), ()), ())
  else
   if (t1_0 == (2 : Int)) = true then
    some (((IntKind.wrap .i64 (before2_0 + (1 : Int)), ((26 : Int), (before2_2, ()))), ()), ())
   else
    (uI2 (.start t1_0 t1_1 t1_2 t1_3)) >>= fun t2 =>
    if t2.1.1 = true then
     (idx t1_3 (0 : Int)) >>= fun t3 =>
     if (t3.Kind != (2 : Int)) = true then
      some (((IntKind.wrap .i64 (before2_0 + (1 : Int)), ((26 : Int), (before2_2, ()))), ()), ())
     else
      uc1 (.p31 l0 t1_0 t1_1 t1_2 t1_3 (0 : Int) (0 : Int) (0 : Int) (IntKind.wrap .i64 (before2_0 + (1 : Int))) (0 : Int) before2_2)
    else
     uc1 (.p31 l0 t1_0 t1_1 t1_2 t1_3 (0 : Int) (0 : Int) (0 : Int) (IntKind.wrap .i64 (before2_0 + (1 : Int))) (0 : Int) before2_2)
 | .p31 l0 C0 C1 C2 C3 D0 D1 D2 G0 G1 G2 =>
  (uI2 (.start C0 C1 C2 C3)) >>= fun t1 =>
  if t1.1.1 = true then
   (idx C3 (0 : Int)) >>= fun t2 =>
   (u28 (.start t2.Value)) >>= fun t3 =>
   if (!t3.1.1) = true then
    some (((G0, ((25 : Int), (G2, ()))), ()), ())
   else
    uc1 (.p63 l0 C0 C1 C2 C3 D0 D1 D2 G0 G1 G2)
  else
   uc1 (.p63 l0 C0 C1 C2 C3 D0 D1 D2 G0 G1 G2)
 | .p63 l0 C0 C1 C2 C3 D0 D1 D2 G0 G1 G2 =>
  if (decide (G0 > (200 : Int))) = true then
   some (((G0, ((8 : Int), (G2, ()))), ()), ())
  else
   if (decide (G2 ≥ (40 : Int))) = true then
    some (((G0, ((8 : Int), (G2, ()))), ()), ())
   else
    uc1 (.p127 l0 C0 C1 C2 C3 D0 D1 D2 G0 G1 G2)
 | .p127 l0 C0 C1 C2 C3 D0 D1 D2 G0 G1 G2 =>
  (uI2 (.start C0 C1 C2 C3)) >>= fun t1 =>
  if t1.1.1 = true then
   some (((G0, (G1, (G2, ()))), ()), ())
  else
   (ug2 (.start l0 C0 C1 C2 C3)) >>= fun t2 =>
   uc1 (.p8180 l0 t2.1.1 (0 : Int) D0 D1 D2 G0 G1 G2)
 | .p8180 l0 all8 i9 C0 C1 C2 D0 D1 D2 =>
  if (decide (i9 < (List.length all8 : Int))) = true then
   uc1 (.p523556 l0 all8 i9 (0 : Int) C0 C1 C2 D0 D1 D2)
  else
   some (((D0, (D1, (D2, ()))), ()), ())
 | .p523556 l0 all8 i9 k10 C0 C1 C2 D0 D1 D2 =>
  (idx all8 i9) >>= fun t1 =>
  if (decide (k10 < (List.length t1.Fields : Int))) = true then
   (idx all8 i9) >>= fun t2 =>
   (idx t2.Fields k10) >>= fun t3 =>
   (uc1 (.start l0 t3.Type_.Kind t3.Type_.Value t3.Type_.Name t3.Type_.Parts D0 (0 : Int) (IntKind.wrap .i64 (D2 + (1 : Int))))) >>= fun t4 =>
   if (t4.1.1.2.1 != (0 : Int)) = true then
    some (((t4.1.1.1, (t4.1.1.2.1, (D2, ()))), ()), ())
   else
    uc1 (.p523556 l0 all8 i9 (IntKind.wrap .i64 (k10 + (1 : Int))) C0 C1 C2 t4.1.1.1 t4.1.1.2.1 D2)
  else
   uc1 (.p8180 l0 all8 (IntKind.wrap .i64 (i9 + (1 : Int))) C0 C1 C2 D0 D1 D2)
 partial_fixpoint
def xt8 : List (Plc E vG3) := [⟨31, [true, true, true, true], { slots := [0, 4, 6, 7], rows := [], flat := [], keep := 0 }, _, _, (.cons (Rd.sl 103 false) (.cons (Rd.bp 0 0) (.cons (Rd.bp 1 0) (.cons (Rd.bp 2 0) .nil)))), (.cons (.var 25 (.cons (Rd.int .i64) (.cons (Rd.int .i64) (.cons Rd.str (.cons (Rd.sl 25 false) .nil))))) (.cons (.var 143 (.cons (Rd.int .i64) (.cons (Rd.int .i64) (.cons (Rd.int .i64) .nil)))) (.cons (.var 143 (.cons (Rd.int .i64) (.cons (Rd.int .i64) (.cons (Rd.int .i64) .nil)))) .nil))), fun a b => .p31 a.1 b.1.1 b.1.2.1 b.1.2.2.1 b.1.2.2.2.1 b.2.1.1 b.2.1.2.1 b.2.1.2.2.1 b.2.2.1.1 b.2.2.1.2.1 b.2.2.1.2.2.1⟩,
 ⟨63, [true, true, true, true, true], { slots := [0, 4, 6, 7], rows := [], flat := [], keep := 0 }, _, _, (.cons (Rd.sl 103 false) (.cons (Rd.bp 0 0) (.cons (Rd.bp 1 0) (.cons (Rd.bp 2 0) .nil)))), (.cons (.var 25 (.cons (Rd.int .i64) (.cons (Rd.int .i64) (.cons Rd.str (.cons (Rd.sl 25 false) .nil))))) (.cons (.var 143 (.cons (Rd.int .i64) (.cons (Rd.int .i64) (.cons (Rd.int .i64) .nil)))) (.cons (.var 143 (.cons (Rd.int .i64) (.cons (Rd.int .i64) (.cons (Rd.int .i64) .nil)))) .nil))), fun a b => .p63 a.1 b.1.1 b.1.2.1 b.1.2.2.1 b.1.2.2.2.1 b.2.1.1 b.2.1.2.1 b.2.1.2.2.1 b.2.2.1.1 b.2.2.1.2.1 b.2.2.1.2.2.1⟩,
 ⟨127, [true, true, true, true, true, true], { slots := [0, 4, 6, 7], rows := [], flat := [], keep := 0 }, _, _, (.cons (Rd.sl 103 false) (.cons (Rd.bp 0 0) (.cons (Rd.bp 1 0) (.cons (Rd.bp 2 0) .nil)))), (.cons (.var 25 (.cons (Rd.int .i64) (.cons (Rd.int .i64) (.cons Rd.str (.cons (Rd.sl 25 false) .nil))))) (.cons (.var 143 (.cons (Rd.int .i64) (.cons (Rd.int .i64) (.cons (Rd.int .i64) .nil)))) (.cons (.var 143 (.cons (Rd.int .i64) (.cons (Rd.int .i64) (.cons (Rd.int .i64) .nil)))) .nil))), fun a b => .p127 a.1 b.1.1 b.1.2.1 b.1.2.2.1 b.1.2.2.2.1 b.2.1.1 b.2.1.2.1 b.2.1.2.2.1 b.2.2.1.1 b.2.2.1.2.1 b.2.2.1.2.2.1⟩,
 ⟨8180, [false, false, true, false, true, true, true, true, true, true, true, true], { slots := [0, 6, 7, 8, 9], rows := [], flat := [], keep := 0 }, _, _, (.cons (Rd.sl 103 false) (.cons (Rd.bp 0 0) (.cons (Rd.bp 1 0) (.cons (Rd.sl 56 false) (.cons (Rd.int .i64) .nil))))), (.cons (.var 143 (.cons (Rd.int .i64) (.cons (Rd.int .i64) (.cons (Rd.int .i64) .nil)))) (.cons (.var 143 (.cons (Rd.int .i64) (.cons (Rd.int .i64) (.cons (Rd.int .i64) .nil)))) .nil)), fun a b => .p8180 a.1 a.2.2.2.1 a.2.2.2.2.1 b.1.1 b.1.2.1 b.1.2.2.1 b.2.1.1 b.2.1.2.1 b.2.1.2.2.1⟩,
 ⟨523556, [false, false, true, false, false, true, false, false, true, false, true, true, true, true, true, true, true, true], { slots := [0, 6, 7, 8, 9, 10], rows := [], flat := [], keep := 0 }, _, _, (.cons (Rd.sl 103 false) (.cons (Rd.bp 0 0) (.cons (Rd.bp 1 0) (.cons (Rd.sl 56 false) (.cons (Rd.int .i64) (.cons (Rd.int .i64) .nil)))))), (.cons (.var 143 (.cons (Rd.int .i64) (.cons (Rd.int .i64) (.cons (Rd.int .i64) .nil)))) (.cons (.var 143 (.cons (Rd.int .i64) (.cons (Rd.int .i64) (.cons (Rd.int .i64) .nil)))) .nil)), fun a b => .p523556 a.1 a.2.2.2.1 a.2.2.2.2.1 a.2.2.2.2.2.1 b.1.1 b.1.2.1 b.1.2.2.1 b.2.1.1 b.2.1.2.1 b.2.1.2.2.1⟩]
theorem wZ8 : All (ub7 113 0 uH1 vU8) xt8 := ⟨⟨rfl, rfl, fun _ _ => rfl, fun _ _ => rfl⟩, ⟨⟨rfl, rfl, fun _ _ => rfl, fun _ _ => rfl⟩, ⟨⟨rfl, rfl, fun _ _ => rfl, fun _ _ => rfl⟩, ⟨⟨rfl, rfl, fun _ _ => rfl, fun _ _ => rfl⟩, ⟨⟨rfl, rfl, fun _ _ => rfl, fun _ _ => rfl⟩, trivial⟩⟩⟩⟩⟩
def uK3 : Code := Tryz.f104.body.getD .skip
def xf3 (run' : vG3 → Option vW1) : Con E := ⟨104, ((List ua3) × ((Int × (Int × (ByteArray × ((List ua0) × Unit)))) × ((Int × (Int × (Int × Unit))) × Unit))), Unit, (RwL.cons (Rw.sl 103) (RwL.cons (Rw.agg (RwL.cons (Rd.int .i64).w (RwL.cons (Rd.int .i64).w (RwL.cons Rd.str.w (RwL.cons (Rw.sl 25) RwL.nil))))) (RwL.cons (Rw.agg (RwL.cons (Rd.int .i64).w (RwL.cons (Rd.int .i64).w (RwL.cons (Rd.int .i64).w RwL.nil)))) RwL.nil))), RdBL.nil, 0, vW1, fun a b => run' (.start a.1 a.2.1.1 a.2.1.2.1 a.2.1.2.2.1 a.2.1.2.2.2.1 a.2.2.1.1 a.2.2.1.2.1 a.2.2.1.2.2.1), up2.av, up2.bx⟩
theorem wP6 {run' : vG3 → Option vW1} (ih : ∀ pt r, run' pt = some r → Good E Tryz.f104 uK3 0 (up2.av r) (up2.bx r) (uH1 pt) (vU8 pt)) : (xf3 run').Ok := fun a b r h => ub5 (fn := Tryz.f104) (code := uK3) E_ok (by kernel_rfl) (by kernel_rfl) (by kernel_rfl) (Nat.le_of_ble_eq_true rfl) (ih (.start a.1 a.2.1.1 a.2.1.2.1 a.2.1.2.2.1 a.2.1.2.2.2.1 a.2.2.1.1 a.2.2.1.2.1 a.2.2.1.2.2.1) r h)
def wz5 (run' : vG3 → Option vW1) : Spec E.S := (Con.add (xf3 run') (Con.add vA0 (Con.add vZ1 (Con.add vZ0 (Con.add vz7 ub0)))))
theorem wg6 {run' : vG3 → Option vW1} (ih : ∀ pt r, run' pt = some r → Good E Tryz.f104 uK3 0 (up2.av r) (up2.bx r) (uH1 pt) (vU8 pt)) : ua9 E (wz5 run') := (Con.add_ok (wP6 ih) (Con.add_ok uZ4 (Con.add_ok vq7 (Con.add_ok vq6 (Con.add_ok uZ1 ua7)))))
theorem xG9 : ∀ pt r, uc1 pt = some r → Good E Tryz.f104 uK3 0 (up2.av r) (up2.bx r) (uH1 pt) (vU8 pt) := by
 refine uc1.partial_correctness (fun pt r => Good E Tryz.f104 uK3 0 (up2.av r) (up2.bx r) (uH1 pt) (vU8 pt)) ?_
 intro run' ih pt r hr
 cases pt <;> exact ua8 (spec := (wz5 run')) (wr := (mkWr [] [])) (l := xt8) (z := 113) (p := up2) E_ok wZ8.mem rfl (wg6 ih) ih (Eq.trans (by kernel_rfl) hr)
def w91 : Con E := ⟨104, _, _, (.cons (Rw.sl 103) (.cons (Rw.agg (.cons (Rd.int .i64).w (.cons (Rd.int .i64).w (.cons Rd.str.w (.cons (Rw.sl 25) .nil))))) (.cons (Rw.agg (.cons (Rd.int .i64).w (.cons (Rd.int .i64).w (.cons (Rd.int .i64).w .nil)))) .nil))), .nil, 0, vW1, fun a b => uc1 (.start a.1 a.2.1.1 a.2.1.2.1 a.2.1.2.2.1 a.2.1.2.2.2.1 a.2.2.1.1 a.2.2.1.2.1 a.2.2.1.2.2.1), up2.av, up2.bx⟩
theorem wL5 : w91.Ok := fun a b r h => ub5 (fn := Tryz.f104) (code := uK3) E_ok (by kernel_rfl) (by kernel_rfl) (by kernel_rfl) (Nat.le_of_ble_eq_true rfl) (xG9 (.start a.1 a.2.1.1 a.2.1.2.1 a.2.1.2.2.1 a.2.1.2.2.2.1 a.2.2.1.1 a.2.2.1.2.1 a.2.2.1.2.2.1) r h)
inductive xx2 where
 | start (n0 : Int)
def vP1 : xx2 → List Bool
 | .start .. => []
def xQ9 : xx2 → St E.S
 | .start n0 => st0 5 [.v (.int .i64 n0)] []
abbrev x35 : Type := ((Int × Unit) × Unit)
def vh6 : Res E (Int × Unit) Unit := { rows := [], flat := [], keep := 0, done := [0], rl := (.cons (Rd.int .i64) .nil), rb := .nil }
def u29 : xx2 → Option x35
 | .start n0 =>
  if (decide ((0 : Int) ≤ n0)) = true then
   some ((shl .i64 (1 : Int) n0, ()), ())
  else none
def xt9 : List (Plc E xx2) := []
theorem wZ9 : All (ub7 5 0 vP1 xQ9) xt9 := trivial
def wn5 : Code := Tryz.f18.body.getD .skip
def wz6 : Spec E.S := ub0
theorem wg7 : ua9 E wz6 := ua7
theorem xH0 : ∀ pt r, u29 pt = some r → Good E Tryz.f18 wn5 0 (vh6.av r) (vh6.bx r) (vP1 pt) (xQ9 pt) := by
 intro pt r hr
 cases pt <;> exact ua8 (spec := wz6) (wr := (mkWr [] [])) (l := xt9) (z := 5) (p := vh6) (run' := fun _ => none) E_ok wZ9.mem rfl wg7 (fun _ _ h => by cases h) (Eq.trans (by kernel_rfl) hr)
def vZ3 : Con E := ⟨18, _, _, (.cons (Rd.int .i64).w .nil), .nil, 0, x35, fun a b => u29 (.start a.1), vh6.av, vh6.bx⟩
theorem vq9 : vZ3.Ok := fun a b r h => ub5 (fn := Tryz.f18) (code := wn5) E_ok (by kernel_rfl) (by kernel_rfl) (by kernel_rfl) (Nat.le_of_ble_eq_true rfl) (xH0 (.start a.1) r h)
inductive xx3 where
 | start (count0 : Int)
 | p56 (count0 : Int) (n3 : Int)
def vd8 : xx3 → List Bool
 | .start .. => []
 | .p56 .. => [false, false, false, true, true]
def xk5 : xx3 → St E.S
 | .start count0 => st0 11 [.v (.int .i64 count0)] []
 | .p56 count0 n3 => mkSt 11 [0, 3] [.v (.int .i64 count0), .v (.int .i64 n3)] []
abbrev x36 : Type := ((Int × Unit) × Unit)
def uQ6 : Res E (Int × Unit) Unit := { rows := [], flat := [], keep := 0, done := [0], rl := (.cons (Rd.int .i64) .nil), rb := .nil }
def uv2 : xx3 → Option x36
 | .start count0 =>
  uv2 (.p56 count0 (0 : Int))
 | .p56 count0 n3 =>
  (u29 (.start n3)) >>= fun t1 =>
  if (decide (t1.1.1 < count0)) = true then
   uv2 (.p56 count0 (IntKind.wrap .i64 (n3 + (1 : Int))))
  else
   some ((n3, ()), ())
 partial_fixpoint
def xu0 : List (Plc E xx3) := [⟨56, [false, false, false, true, true], { slots := [0, 3], rows := [], flat := [], keep := 0 }, _, _, (.cons (Rd.int .i64) (.cons (Rd.int .i64) .nil)), .nil, fun a b => .p56 a.1 a.2.1⟩]
theorem w00 : All (ub7 11 0 vd8 xk5) xu0 := ⟨⟨rfl, rfl, fun _ _ => rfl, fun _ _ => rfl⟩, trivial⟩
def vz3 : Code := Tryz.f46.body.getD .skip
def wz7 : Spec E.S := (Con.add vZ3 ub0)
theorem wg8 : ua9 E wz7 := (Con.add_ok vq9 ua7)
theorem xH1 : ∀ pt r, uv2 pt = some r → Good E Tryz.f46 vz3 0 (uQ6.av r) (uQ6.bx r) (vd8 pt) (xk5 pt) := by
 refine uv2.partial_correctness (fun pt r => Good E Tryz.f46 vz3 0 (uQ6.av r) (uQ6.bx r) (vd8 pt) (xk5 pt)) ?_
 intro run' ih pt r hr
 cases pt <;> exact ua8 (spec := wz7) (wr := (mkWr [] [])) (l := xu0) (z := 11) (p := uQ6) E_ok w00.mem rfl wg8 ih (Eq.trans (by kernel_rfl) hr)
def w92 : Con E := ⟨46, _, _, (.cons (Rd.int .i64).w .nil), .nil, 0, x36, fun a b => uv2 (.start a.1), uQ6.av, uQ6.bx⟩
theorem wL6 : w92.Ok := fun a b r h => ub5 (fn := Tryz.f46) (code := vz3) E_ok (by kernel_rfl) (by kernel_rfl) (by kernel_rfl) (Nat.le_of_ble_eq_true rfl) (xH1 (.start a.1) r h)
inductive vn4 where
 | start (l0 : (List ua3)) (c1_0 : ByteArray) (c1_1 : (List ua6))
 | p116 (l0 : (List ua3)) (n5 : Int) (i6 : Int) (C0 : ByteArray) (C1 : (List ua6))
def uz3 : vn4 → List Bool
 | .start .. => []
 | .p116 .. => [false, false, true, false, true, true]
def vv0 : vn4 → St E.S
 | .start l0 c1_0 c1_1 => st0 25 [.sl 103 l0 false, .agg [.v (.string c1_0), .sl 58 c1_1 false]] []
 | .p116 l0 n5 i6 C0 C1 => mkSt 25 [0, 3, 5, 6] [.sl 103 l0 false, .bp 0 0, .v (.int .i64 n5), .v (.int .i64 i6)] [.var 56 [.v (.string C0), .sl 58 C1 false]]
abbrev vH6 : Type := ((Int × Unit) × Unit)
def up3 : Res E (Int × Unit) Unit := { rows := [], flat := [], keep := 0, done := [0], rl := (.cons (Rd.int .i64) .nil), rb := .nil }
inductive vG4 where
 | start (l0 : (List ua3)) (t1_0 : Int) (t1_1 : Int) (t1_2 : ByteArray) (t1_3 : (List ua0))
def uz4 : vG4 → List Bool
 | .start .. => []
def vv1 : vG4 → St E.S
 | .start l0 t1_0 t1_1 t1_2 t1_3 => st0 21 [.sl 103 l0 false, .agg [.v (.int .i64 t1_0), .v (.int .i64 t1_1), .v (.string t1_2), .sl 25 t1_3 false]] []
abbrev vW2 : Type := ((Int × Unit) × Unit)
def ul3 : Res E (Int × Unit) Unit := { rows := [], flat := [], keep := 0, done := [0], rl := (.cons (Rd.int .i64) .nil), rb := .nil }
inductive vn5 where
 | start (l0 : (List ua3)) (t1_0 : Int) (t1_1 : Int) (t1_2 : ByteArray) (t1_3 : (List ua0))
 | p116 (l0 : (List ua3)) (all5 : (List ua1)) (most6 : Int) (i7 : Int)
def uz5 : vn5 → List Bool
 | .start .. => []
 | .p116 .. => [false, false, true, false, true, true]
def vv2 : vn5 → St E.S
 | .start l0 t1_0 t1_1 t1_2 t1_3 => st0 26 [.sl 103 l0 false, .agg [.v (.int .i64 t1_0), .v (.int .i64 t1_1), .v (.string t1_2), .sl 25 t1_3 false]] []
 | .p116 l0 all5 most6 i7 => mkSt 26 [0, 5, 6, 7] [.sl 103 l0 false, .sl 56 all5 false, .v (.int .i64 most6), .v (.int .i64 i7)] []
abbrev vH7 : Type := ((Int × Unit) × Unit)
def up4 : Res E (Int × Unit) Unit := { rows := [], flat := [], keep := 0, done := [0], rl := (.cons (Rd.int .i64) .nil), rb := .nil }
mutual
def uv3 : vn4 → Option vH6
 | .start l0 c1_0 c1_1 =>
  uv3 (.p116 l0 (0 : Int) (0 : Int) c1_0 c1_1)
 | .p116 l0 n5 i6 C0 C1 =>
  if (decide (i6 < (List.length C1 : Int))) = true then
   (idx C1 i6) >>= fun t1 =>
   (run_z94 (.start l0 t1.Type_.Kind t1.Type_.Value t1.Type_.Name t1.Type_.Parts)) >>= fun t2 =>
   uv3 (.p116 l0 (IntKind.wrap .i64 (n5 + t2.1.1)) (IntKind.wrap .i64 (i6 + (1 : Int))) C0 C1)
  else
   some ((n5, ()), ())
 partial_fixpoint
def run_z94 : vG4 → Option vW2
 | .start l0 t1_0 t1_1 t1_2 t1_3 =>
  (uI2 (.start t1_0 t1_1 t1_2 t1_3)) >>= fun t1 =>
  if t1.1.1 = true then
   (idx t1_3 (0 : Int)) >>= fun t2 =>
   some ((t2.Value, ()), ())
  else
   (ug2 (.start l0 t1_0 t1_1 t1_2 t1_3)) >>= fun t3 =>
   (uv2 (.start (List.length t3.1.1 : Int))) >>= fun t4 =>
   (run_z95 (.start l0 t1_0 t1_1 t1_2 t1_3)) >>= fun t5 =>
   some ((IntKind.wrap .i64 (t4.1.1 + t5.1.1), ()), ())
 partial_fixpoint
def run_z95 : vn5 → Option vH7
 | .start l0 t1_0 t1_1 t1_2 t1_3 =>
  (ug2 (.start l0 t1_0 t1_1 t1_2 t1_3)) >>= fun t1 =>
  run_z95 (.p116 l0 t1.1.1 (0 : Int) (0 : Int))
 | .p116 l0 all5 most6 i7 =>
  if (decide (i7 < (List.length all5 : Int))) = true then
   (idx all5 i7) >>= fun t1 =>
   (uv3 (.start l0 t1.Name t1.Fields)) >>= fun t2 =>
   run_z95 (.p116 l0 all5 (if t2.1.1 > most6 then t2.1.1 else most6) (IntKind.wrap .i64 (i7 + (1 : Int))))
  else
   some ((most6, ()), ())
 partial_fixpoint
end
def xu1 : List (Plc E vn4) := [⟨116, [false, false, true, false, true, true], { slots := [0, 3, 5, 6], rows := [], flat := [], keep := 0 }, _, _, (.cons (Rd.sl 103 false) (.cons (Rd.bp 0 0) (.cons (Rd.int .i64) (.cons (Rd.int .i64) .nil)))), (.cons (.var 56 (.cons Rd.str (.cons (Rd.sl 58 false) .nil))) .nil), fun a b => .p116 a.1 a.2.2.1 a.2.2.2.1 b.1.1 b.1.2.1⟩]
theorem w01 : All (ub7 25 0 uz3 vv0) xu1 := ⟨⟨rfl, rfl, fun _ _ => rfl, fun _ _ => rfl⟩, trivial⟩
def uK4 : Code := Tryz.f87.body.getD .skip
def v26 (run' : vn4 → Option vH6) : Con E := ⟨87, ((List ua3) × ((ByteArray × ((List ua6) × Unit)) × Unit)), Unit, (RwL.cons (Rw.sl 103) (RwL.cons (Rw.agg (RwL.cons Rd.str.w (RwL.cons (Rw.sl 58) RwL.nil))) RwL.nil)), RdBL.nil, 0, vH6, fun a b => run' (.start a.1 a.2.1.1 a.2.1.2.1), up3.av, up3.bx⟩
theorem vt3 {run' : vn4 → Option vH6} (ih : ∀ pt r, run' pt = some r → Good E Tryz.f87 uK4 0 (up3.av r) (up3.bx r) (uz3 pt) (vv0 pt)) : (v26 run').Ok := fun a b r h => ub5 (fn := Tryz.f87) (code := uK4) E_ok (by kernel_rfl) (by kernel_rfl) (by kernel_rfl) (Nat.le_of_ble_eq_true rfl) (ih (.start a.1 a.2.1.1 a.2.1.2.1) r h)
def xu2 : List (Plc E vG4) := []
theorem w02 : All (ub7 21 0 uz4 vv1) xu2 := trivial
def uA7 : Code := Tryz.f13.body.getD .skip
def xf4 (run' : vG4 → Option vW2) : Con E := ⟨13, ((List ua3) × ((Int × (Int × (ByteArray × ((List ua0) × Unit)))) × Unit)), Unit, (RwL.cons (Rw.sl 103) (RwL.cons (Rw.agg (RwL.cons (Rd.int .i64).w (RwL.cons (Rd.int .i64).w (RwL.cons Rd.str.w (RwL.cons (Rw.sl 25) RwL.nil))))) RwL.nil)), RdBL.nil, 0, vW2, fun a b => run' (.start a.1 a.2.1.1 a.2.1.2.1 a.2.1.2.2.1 a.2.1.2.2.2.1), ul3.av, ul3.bx⟩
theorem wP7 {run' : vG4 → Option vW2} (ih : ∀ pt r, run' pt = some r → Good E Tryz.f13 uA7 0 (ul3.av r) (ul3.bx r) (uz4 pt) (vv1 pt)) : (xf4 run').Ok := fun a b r h => ub5 (fn := Tryz.f13) (code := uA7) E_ok (by kernel_rfl) (by kernel_rfl) (by kernel_rfl) (Nat.le_of_ble_eq_true rfl) (ih (.start a.1 a.2.1.1 a.2.1.2.1 a.2.1.2.2.1 a.2.1.2.2.2.1) r h)
def xu3 : List (Plc E vn5) := [⟨116, [false, false, true, false, true, true], { slots := [0, 5, 6, 7], rows := [], flat := [], keep := 0 }, _, _, (.cons (Rd.sl 103 false) (.cons (Rd.sl 56 false) (.cons (Rd.int .i64) (.cons (Rd.int .i64) .nil)))), .nil, fun a b => .p116 a.1 a.2.1 a.2.2.1 a.2.2.2.1⟩]
theorem w03 : All (ub7 26 0 uz5 vv2) xu3 := ⟨⟨rfl, rfl, fun _ _ => rfl, fun _ _ => rfl⟩, trivial⟩
def uK5 : Code := Tryz.f45.body.getD .skip
def v27 (run' : vn5 → Option vH7) : Con E := ⟨45, ((List ua3) × ((Int × (Int × (ByteArray × ((List ua0) × Unit)))) × Unit)), Unit, (RwL.cons (Rw.sl 103) (RwL.cons (Rw.agg (RwL.cons (Rd.int .i64).w (RwL.cons (Rd.int .i64).w (RwL.cons Rd.str.w (RwL.cons (Rw.sl 25) RwL.nil))))) RwL.nil)), RdBL.nil, 0, vH7, fun a b => run' (.start a.1 a.2.1.1 a.2.1.2.1 a.2.1.2.2.1 a.2.1.2.2.2.1), up4.av, up4.bx⟩
theorem vt4 {run' : vn5 → Option vH7} (ih : ∀ pt r, run' pt = some r → Good E Tryz.f45 uK5 0 (up4.av r) (up4.bx r) (uz5 pt) (vv2 pt)) : (v27 run').Ok := fun a b r h => ub5 (fn := Tryz.f45) (code := uK5) E_ok (by kernel_rfl) (by kernel_rfl) (by kernel_rfl) (Nat.le_of_ble_eq_true rfl) (ih (.start a.1 a.2.1.1 a.2.1.2.1 a.2.1.2.2.1 a.2.1.2.2.2.1) r h)
def wz8 (r_z93 : vn4 → Option vH6) (r_z94 : vG4 → Option vW2) : Spec E.S := (Con.add (xf4 r_z94) (Con.add (v26 r_z93) ub0))
theorem wg9 {r_z93 : vn4 → Option vH6} (h_z93 : ∀ pt r, r_z93 pt = some r → Good E Tryz.f87 uK4 0 (up3.av r) (up3.bx r) (uz3 pt) (vv0 pt)) {r_z94 : vG4 → Option vW2} (h_z94 : ∀ pt r, r_z94 pt = some r → Good E Tryz.f13 uA7 0 (ul3.av r) (ul3.bx r) (uz4 pt) (vv1 pt)) : ua9 E (wz8 r_z93 r_z94) := (Con.add_ok (wP7 h_z94) (Con.add_ok (vt3 h_z93) ua7))
def wz9 (r_z95 : vn5 → Option vH7) : Spec E.S := (Con.add (v27 r_z95) (Con.add w92 (Con.add vA0 (Con.add vZ0 ub0))))
theorem wh0 {r_z95 : vn5 → Option vH7} (h_z95 : ∀ pt r, r_z95 pt = some r → Good E Tryz.f45 uK5 0 (up4.av r) (up4.bx r) (uz5 pt) (vv2 pt)) : ua9 E (wz9 r_z95) := (Con.add_ok (vt4 h_z95) (Con.add_ok wL6 (Con.add_ok uZ4 (Con.add_ok vq6 ua7))))
def wA0 (r_z93 : vn4 → Option vH6) (r_z95 : vn5 → Option vH7) : Spec E.S := (Con.add (v27 r_z95) (Con.add (v26 r_z93) (Con.add vA0 ub0)))
theorem wh1 {r_z93 : vn4 → Option vH6} (h_z93 : ∀ pt r, r_z93 pt = some r → Good E Tryz.f87 uK4 0 (up3.av r) (up3.bx r) (uz3 pt) (vv0 pt)) {r_z95 : vn5 → Option vH7} (h_z95 : ∀ pt r, r_z95 pt = some r → Good E Tryz.f45 uK5 0 (up4.av r) (up4.bx r) (uz5 pt) (vv2 pt)) : ua9 E (wA0 r_z93 r_z95) := (Con.add_ok (vt4 h_z95) (Con.add_ok (vt3 h_z93) (Con.add_ok uZ4 ua7)))
theorem xb6 : (∀ pt r, uv3 pt = some r → Good E Tryz.f87 uK4 0 (up3.av r) (up3.bx r) (uz3 pt) (vv0 pt)) ∧ (∀ pt r, run_z94 pt = some r → Good E Tryz.f13 uA7 0 (ul3.av r) (ul3.bx r) (uz4 pt) (vv1 pt)) ∧ (∀ pt r, run_z95 pt = some r → Good E Tryz.f45 uK5 0 (up4.av r) (up4.bx r) (uz5 pt) (vv2 pt)) := by
  refine uv3.mutual_partial_correctness (fun pt r => Good E Tryz.f87 uK4 0 (up3.av r) (up3.bx r) (uz3 pt) (vv0 pt)) (fun pt r => Good E Tryz.f13 uA7 0 (ul3.av r) (ul3.bx r) (uz4 pt) (vv1 pt)) (fun pt r => Good E Tryz.f45 uK5 0 (up4.av r) (up4.bx r) (uz5 pt) (vv2 pt)) ?_ ?_ ?_
  · intro r_z93 r_z94 h_z93 h_z94 pt r hr
    cases pt <;> exact ua8 (spec := (wz8 r_z93 r_z94)) (wr := (mkWr [] [])) (l := xu1) (z := 25) (p := up3) E_ok w01.mem rfl (wg9 h_z93 h_z94) h_z93 (Eq.trans (by kernel_rfl) hr)
  · intro r_z95 h_z95 pt r hr
    cases pt <;> exact ua8 (spec := (wz9 r_z95)) (wr := (mkWr [] [])) (l := xu2) (z := 21) (p := ul3) (run' := fun _ => none) E_ok w02.mem rfl (wh0 h_z95) (fun _ _ h => by cases h) (Eq.trans (by kernel_rfl) hr)
  · intro r_z93 r_z95 h_z93 h_z95 pt r hr
    cases pt <;> exact ua8 (spec := (wA0 r_z93 r_z95)) (wr := (mkWr [] [])) (l := xu3) (z := 26) (p := up4) E_ok w03.mem rfl (wh1 h_z93 h_z95) h_z95 (Eq.trans (by kernel_rfl) hr)
theorem xH2 : ∀ pt r, run_z94 pt = some r → Good E Tryz.f13 uA7 0 (ul3.av r) (ul3.bx r) (uz4 pt) (vv1 pt) := xb6.2.1
def vZ4 : Con E := ⟨13, _, _, (.cons (Rw.sl 103) (.cons (Rw.agg (.cons (Rd.int .i64).w (.cons (Rd.int .i64).w (.cons Rd.str.w (.cons (Rw.sl 25) .nil))))) .nil)), .nil, 0, vW2, fun a b => run_z94 (.start a.1 a.2.1.1 a.2.1.2.1 a.2.1.2.2.1 a.2.1.2.2.2.1), ul3.av, ul3.bx⟩
theorem vr0 : vZ4.Ok := fun a b r h => ub5 (fn := Tryz.f13) (code := uA7) E_ok (by kernel_rfl) (by kernel_rfl) (by kernel_rfl) (Nat.le_of_ble_eq_true rfl) (xH2 (.start a.1 a.2.1.1 a.2.1.2.1 a.2.1.2.2.1 a.2.1.2.2.2.1) r h)
inductive xx4 where
 | start (l0 : (List ua3)) (t1_0 : Int) (t1_1 : Int) (t1_2 : ByteArray) (t1_3 : (List ua0))
def vP2 : xx4 → List Bool
 | .start .. => []
def xR0 : xx4 → St E.S
 | .start l0 t1_0 t1_1 t1_2 t1_3 => st0 27 [.sl 103 l0 false, .agg [.v (.int .i64 t1_0), .v (.int .i64 t1_1), .v (.string t1_2), .sl 25 t1_3 false]] []
abbrev x37 : Type := ((Int × Unit) × Unit)
def vh7 : Res E (Int × Unit) Unit := { rows := [], flat := [], keep := 0, done := [0], rl := (.cons (Rd.int .i64) .nil), rb := .nil }
def vE2 : xx4 → Option x37
 | .start l0 t1_0 t1_1 t1_2 t1_3 =>
  (u27 (.start l0 ([]) t1_0 t1_1 t1_2 t1_3)) >>= fun t1 =>
  if (t1.1.1 != (0 : Int)) = true then
   some ((t1.1.1, ()), ())
  else
   (uc1 (.start l0 t1_0 t1_1 t1_2 t1_3 (0 : Int) (0 : Int) (0 : Int))) >>= fun t2 =>
   if (t2.1.1.2.1 != (0 : Int)) = true then
    some ((t2.1.1.2.1, ()), ())
   else
    (run_z94 (.start l0 t1_0 t1_1 t1_2 t1_3)) >>= fun t3 =>
    (u28 (.start t3.1.1)) >>= fun t4 =>
    if (!t4.1.1) = true then
     some (((25 : Int), ()), ())
    else
     some (((0 : Int), ()), ())
def xu4 : List (Plc E xx4) := []
theorem w04 : All (ub7 27 0 vP2 xR0) xu4 := trivial
def wn6 : Code := Tryz.f63.body.getD .skip
def wA1 : Spec E.S := (Con.add vZ1 (Con.add vZ4 (Con.add w91 (Con.add vY9 ub0))))
theorem wh2 : ua9 E wA1 := (Con.add_ok vq7 (Con.add_ok vr0 (Con.add_ok wL5 (Con.add_ok vq5 ua7))))
theorem xH3 : ∀ pt r, vE2 pt = some r → Good E Tryz.f63 wn6 0 (vh7.av r) (vh7.bx r) (vP2 pt) (xR0 pt) := by
 intro pt r hr
 cases pt <;> exact ua8 (spec := wA1) (wr := (mkWr [] [])) (l := xu4) (z := 27) (p := vh7) (run' := fun _ => none) E_ok w04.mem rfl wh2 (fun _ _ h => by cases h) (Eq.trans (by kernel_rfl) hr)
def w93 : Con E := ⟨63, _, _, (.cons (Rw.sl 103) (.cons (Rw.agg (.cons (Rd.int .i64).w (.cons (Rd.int .i64).w (.cons Rd.str.w (.cons (Rw.sl 25) .nil))))) .nil)), .nil, 0, x37, fun a b => vE2 (.start a.1 a.2.1.1 a.2.1.2.1 a.2.1.2.2.1 a.2.1.2.2.2.1), vh7.av, vh7.bx⟩
theorem wL7 : w93.Ok := fun a b r h => ub5 (fn := Tryz.f63) (code := wn6) E_ok (by kernel_rfl) (by kernel_rfl) (by kernel_rfl) (Nat.le_of_ble_eq_true rfl) (xH3 (.start a.1 a.2.1.1 a.2.1.2.1 a.2.1.2.2.1 a.2.1.2.2.2.1) r h)
inductive xx5 where
 | start (l0 : (List ua3)) (t1_0 : Int) (t1_1 : Int) (t1_2 : ByteArray) (t1_3 : (List ua0))
def vP3 : xx5 → List Bool
 | .start .. => []
def xR1 : xx5 → St E.S
 | .start l0 t1_0 t1_1 t1_2 t1_3 => st0 14 [.sl 103 l0 false, .agg [.v (.int .i64 t1_0), .v (.int .i64 t1_1), .v (.string t1_2), .sl 25 t1_3 false]] []
abbrev x38 : Type := ((Int × Unit) × Unit)
def vh8 : Res E (Int × Unit) Unit := { rows := [], flat := [], keep := 0, done := [0], rl := (.cons (Rd.int .i64) .nil), rb := .nil }
def vj1 : xx5 → Option x38
 | .start l0 t1_0 t1_1 t1_2 t1_3 =>
  (vE1 (.start l0)) >>= fun t1 =>
  if (t1.1.1 != (0 : Int)) = true then
   some ((t1.1.1, ()), ())
  else
   (vE2 (.start l0 t1_0 t1_1 t1_2 t1_3)) >>= fun t2 =>
   some ((t2.1.1, ()), ())
def xu5 : List (Plc E xx5) := []
theorem w05 : All (ub7 14 0 vP3 xR1) xu5 := trivial
def wn7 : Code := Tryz.f12.body.getD .skip
def wA2 : Spec E.S := (Con.add w93 (Con.add w88 ub0))
theorem wh3 : ua9 E wA2 := (Con.add_ok wL7 (Con.add_ok wL3 ua7))
theorem xH4 : ∀ pt r, vj1 pt = some r → Good E Tryz.f12 wn7 0 (vh8.av r) (vh8.bx r) (vP3 pt) (xR1 pt) := by
 intro pt r hr
 cases pt <;> exact ua8 (spec := wA2) (wr := (mkWr [] [])) (l := xu5) (z := 14) (p := vh8) (run' := fun _ => none) E_ok w05.mem rfl wh3 (fun _ _ h => by cases h) (Eq.trans (by kernel_rfl) hr)
def w94 : Con E := ⟨12, _, _, (.cons (Rw.sl 103) (.cons (Rw.agg (.cons (Rd.int .i64).w (.cons (Rd.int .i64).w (.cons Rd.str.w (.cons (Rw.sl 25) .nil))))) .nil)), .nil, 0, x38, fun a b => vj1 (.start a.1 a.2.1.1 a.2.1.2.1 a.2.1.2.2.1 a.2.1.2.2.2.1), vh8.av, vh8.bx⟩
theorem wL8 : w94.Ok := fun a b r h => ub5 (fn := Tryz.f12) (code := wn7) E_ok (by kernel_rfl) (by kernel_rfl) (by kernel_rfl) (Nat.le_of_ble_eq_true rfl) (xH4 (.start a.1 a.2.1.1 a.2.1.2.1 a.2.1.2.2.1 a.2.1.2.2.2.1) r h)
inductive xx6 where
 | start (l0 : (List ByteArray))
def vP4 : xx6 → List Bool
 | .start .. => []
def xR2 : xx6 → St E.S
 | .start l0 => st0 6 [.sl 9 l0 false] []
abbrev x39 : Type := ((Unit × Unit) × ((List ByteArray) × Unit))
def vh9 : Res E (Unit × Unit) ((List ByteArray) × Unit) := { rows := [], flat := [], keep := 0, done := [0], rl := (.cons (Rd.rw 0) .nil), rb := (.cons (.row 9 true) .nil) }
def vE3 : xx6 → Option x39
 | .start l0 =>
  if (fits (List.length ([] : List ByteArray)) (List.length l0) 16) = true then
   some (((), ()), (([] : List ByteArray) ++ l0, ()))
  else none
def xu6 : List (Plc E xx6) := []
theorem w06 : All (ub7 6 0 vP4 xR2) xu6 := trivial
def wn8 : Code := Tryz.f66.body.getD .skip
def wA3 : Spec E.S := ub0
theorem wh4 : ua9 E wA3 := ua7
theorem xH5 : ∀ pt r, vE3 pt = some r → Good E Tryz.f66 wn8 0 (vh9.av r) (vh9.bx r) (vP4 pt) (xR2 pt) := by
 intro pt r hr
 cases pt <;> exact ua8 (spec := wA3) (wr := (mkWr [] [])) (l := xu6) (z := 6) (p := vh9) (run' := fun _ => none) E_ok w06.mem rfl wh4 (fun _ _ h => by cases h) (Eq.trans (by kernel_rfl) hr)
def w95 : Con E := ⟨66, _, _, (.cons (Rw.sl 9) .nil), .nil, 0, x39, fun a b => vE3 (.start a.1), vh9.av, vh9.bx⟩
theorem wL9 : w95.Ok := fun a b r h => ub5 (fn := Tryz.f66) (code := wn8) E_ok (by kernel_rfl) (by kernel_rfl) (by kernel_rfl) (Nat.le_of_ble_eq_true rfl) (xH5 (.start a.1) r h)
inductive xx7 where
 | start (l0 : (List ua6))
 | p116 (l0 : (List ua6)) (i4 : Int) (B0 : (List ua6))
def vd9 : xx7 → List Bool
 | .start .. => []
 | .p116 .. => [false, false, true, false, true, true]
def xk6 : xx7 → St E.S
 | .start l0 => st0 27 [.sl 58 l0 false] []
 | .p116 l0 i4 B0 => mkSt 27 [0, 3, 4] [.sl 58 l0 false, .rw 0, .v (.int .i64 i4)] [.row 58 B0 false]
abbrev x40 : Type := ((Unit × Unit) × ((List ua6) × Unit))
def uQ7 : Res E (Unit × Unit) ((List ua6) × Unit) := { rows := [], flat := [], keep := 0, done := [0], rl := (.cons (Rd.rw 0) .nil), rb := (.cons (.row 58 true) .nil) }
def ur8 : xx7 → Option x40
 | .start l0 =>
  ur8 (.p116 l0 (0 : Int) ([] : List ua6))
 | .p116 l0 i4 B0 =>
  if (decide (i4 < (List.length l0 : Int))) = true then
   (idx l0 i4) >>= fun t1 =>
   (idx l0 i4) >>= fun t2 =>
   (un0 (.start t2.Type_.Kind t2.Type_.Value t2.Type_.Name t2.Type_.Parts)) >>= fun t3 =>
   if (fits (List.length B0) (List.length ([(⟨t1.Name, (⟨t3.1.1.1, t3.1.1.2.1, t3.1.1.2.2.1, t3.1.1.2.2.2.1⟩ : ua0)⟩ : ua6)] : List ua6)) 72) = true then
    ur8 (.p116 l0 (IntKind.wrap .i64 (i4 + (1 : Int))) (B0 ++ ([(⟨t1.Name, (⟨t3.1.1.1, t3.1.1.2.1, t3.1.1.2.2.1, t3.1.1.2.2.2.1⟩ : ua0)⟩ : ua6)] : List ua6)))
   else none
  else
   some (((), ()), (B0, ()))
 partial_fixpoint
def xu7 : List (Plc E xx7) := [⟨116, [false, false, true, false, true, true], { slots := [0, 3, 4], rows := [(3, 58)], flat := [], keep := 0 }, _, _, (.cons (Rd.sl 58 false) (.cons (Rd.rw 0) (.cons (Rd.int .i64) .nil))), (.cons (.row 58 false) .nil), fun a b => .p116 a.1 a.2.2.1 b.1⟩]
theorem w07 : All (ub7 27 0 vd9 xk6) xu7 := ⟨⟨rfl, rfl, fun _ _ => rfl, fun _ _ => rfl⟩, trivial⟩
def vz4 : Code := Tryz.f67.body.getD .skip
def wA4 : Spec E.S := (Con.add vZ2 ub0)
theorem wh5 : ua9 E wA4 := (Con.add_ok vq8 ua7)
theorem xH6 : ∀ pt r, ur8 pt = some r → Good E Tryz.f67 vz4 0 (uQ7.av r) (uQ7.bx r) (vd9 pt) (xk6 pt) := by
 refine ur8.partial_correctness (fun pt r => Good E Tryz.f67 vz4 0 (uQ7.av r) (uQ7.bx r) (vd9 pt) (xk6 pt)) ?_
 intro run' ih pt r hr
 cases pt <;> exact ua8 (spec := wA4) (wr := (mkWr [] [])) (l := xu7) (z := 27) (p := uQ7) E_ok w07.mem rfl wh5 ih (Eq.trans (by kernel_rfl) hr)
def w96 : Con E := ⟨67, _, _, (.cons (Rw.sl 58) .nil), .nil, 0, x40, fun a b => ur8 (.start a.1), uQ7.av, uQ7.bx⟩
theorem wM0 : w96.Ok := fun a b r h => ub5 (fn := Tryz.f67) (code := vz4) E_ok (by kernel_rfl) (by kernel_rfl) (by kernel_rfl) (Nat.le_of_ble_eq_true rfl) (xH6 (.start a.1) r h)
inductive wi8 where
 | start (l0 : (List ua3))
 | p116 (l0 : (List ua3)) (i4 : Int) (B0 : (List ua3))
 | p29844 (l0 : (List ua3)) (i4 : Int) (k6 : Int) (B0 : (List ua3)) (B1 : ByteArray) (B2 : (List ByteArray)) (B3 : (List ua1))
def u10 : wi8 → List Bool
 | .start .. => []
 | .p116 .. => [false, false, true, false, true, true]
 | .p29844 .. => [false, false, true, false, true, false, false, true, false, false, true, false, true, true]
def wh6 : wi8 → St E.S
 | .start l0 => st0 60 [.sl 103 l0 false] []
 | .p116 l0 i4 B0 => mkSt 60 [0, 3, 4] [.sl 103 l0 false, .rw 0, .v (.int .i64 i4)] [.row 103 B0 false]
 | .p29844 l0 i4 k6 B0 B1 B2 B3 => mkSt 60 [0, 3, 4, 5, 6] [.sl 103 l0 false, .rw 0, .v (.int .i64 i4), .bp 1 0, .v (.int .i64 k6)] [.row 103 B0 false, .var 103 [.v (.string B1), .rw 2, .rw 3], .row 9 B2 true, .row 56 B3 false]
abbrev xL3 : Type := ((Unit × Unit) × ((List ua3) × Unit))
def uC0 : Res E (Unit × Unit) ((List ua3) × Unit) := { rows := [(0, 103)], flat := [], keep := 0, done := [0], rl := (.cons (Rd.rw 0) .nil), rb := (.cons (.row 103 true) .nil) }
def ue0 : wi8 → Option xL3
 | .start l0 =>
  ue0 (.p116 l0 (0 : Int) ([] : List ua3))
 | .p116 l0 i4 B0 =>
  if (decide (i4 < (List.length l0 : Int))) = true then
   (idx l0 i4) >>= fun t1 =>
   (idx l0 i4) >>= fun t2 =>
   (vE3 (.start t2.Params)) >>= fun t3 =>
   ue0 (.p29844 l0 i4 (0 : Int) B0 t1.Name t3.2.1 ([] : List ua1))
  else
   some (((), ()), (B0, ()))
 | .p29844 l0 i4 k6 B0 B1 B2 B3 =>
  (idx l0 i4) >>= fun t1 =>
  if (decide (k6 < (List.length t1.Constructors : Int))) = true then
   (idx l0 i4) >>= fun t2 =>
   (idx t2.Constructors k6) >>= fun t3 =>
   (ur8 (.start t3.Fields)) >>= fun t4 =>
   if (fits (List.length B3) (List.length ([(⟨t3.Name, t4.2.1⟩ : ua1)] : List ua1)) 40) = true then
    ue0 (.p29844 l0 i4 (IntKind.wrap .i64 (k6 + (1 : Int))) B0 B1 B2 (B3 ++ ([(⟨t3.Name, t4.2.1⟩ : ua1)] : List ua1)))
   else none
  else
   if (fits (List.length B0) (List.length ([(⟨B1, B2, B3⟩ : ua3)] : List ua3)) 64) = true then
    ue0 (.p116 l0 (IntKind.wrap .i64 (i4 + (1 : Int))) (B0 ++ ([(⟨B1, B2, B3⟩ : ua3)] : List ua3)))
   else none
 partial_fixpoint
def wA7 : List (Plc E wi8) := [⟨116, [false, false, true, false, true, true], { slots := [0, 3, 4], rows := [(3, 103)], flat := [], keep := 0 }, _, _, (.cons (Rd.sl 103 false) (.cons (Rd.rw 0) (.cons (Rd.int .i64) .nil))), (.cons (.row 103 false) .nil), fun a b => .p116 a.1 a.2.2.1 b.1⟩,
 ⟨29844, [false, false, true, false, true, false, false, true, false, false, true, false, true, true], { slots := [0, 3, 4, 5, 6], rows := [], flat := [], keep := 0, up := [(true, 5, 2, 56)] }, _, _, (.cons (Rd.sl 103 false) (.cons (Rd.rw 0) (.cons (Rd.int .i64) (.cons (Rd.bp 1 0) (.cons (Rd.int .i64) .nil))))), (.cons (.row 103 false) (.cons (.var 103 (.cons Rd.str (.cons (Rd.rw 2) (.cons (Rd.rw 3) .nil)))) (.cons (.row 9 true) (.cons (.row 56 false) .nil)))), fun a b => .p29844 a.1 a.2.2.1 a.2.2.2.2.1 b.1 b.2.1.1 b.2.2.1 b.2.2.2.1⟩]
theorem wh8 : All (ub7 60 0 u10 wh6) wA7 := ⟨⟨rfl, rfl, fun _ _ => rfl, fun _ _ => rfl⟩, ⟨⟨rfl, rfl, fun _ _ => rfl, fun _ _ => rfl⟩, trivial⟩⟩
def u94 : Code := Tryz.f15.body.getD .skip
def vS0 : Spec E.S := (Con.add w96 (Con.add w95 ub0))
theorem vS1 : ua9 E vS0 := (Con.add_ok wM0 (Con.add_ok wL9 ua7))
theorem xa7 : ∀ pt r, ue0 pt = some r → Good E Tryz.f15 u94 0 (uC0.av r) (uC0.bx r) (u10 pt) (wh6 pt) := by
 refine ue0.partial_correctness (fun pt r => Good E Tryz.f15 u94 0 (uC0.av r) (uC0.bx r) (u10 pt) (wh6 pt)) ?_
 intro run' ih pt r hr
 cases pt <;> exact ua8 (spec := vS0) (wr := (mkWr [] [(3731, [5])])) (l := wA7) (z := 60) (p := uC0) E_ok wh8.mem rfl vS1 ih (Eq.trans (by kernel_rfl) hr)
def wn9 : Con E := ⟨15, _, _, (.cons (Rw.sl 103) .nil), .nil, 0, xL3, fun a b => ue0 (.start a.1), uC0.av, uC0.bx⟩
theorem vX2 : wn9.Ok := fun a b r h => ub5 (fn := Tryz.f15) (code := u94) E_ok (by kernel_rfl) (by kernel_rfl) (by kernel_rfl) (Nat.le_of_ble_eq_true rfl) (xa7 (.start a.1) r h)
end
end Go.Proofs.YtaennkkcnhfglaaGreatDoor.Ev.F
