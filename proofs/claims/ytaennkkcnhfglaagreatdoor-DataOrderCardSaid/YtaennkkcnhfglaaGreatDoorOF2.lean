/- A part of the proof. -/
import Derived.Test.YtaennkkcnhfglaaGreatDoorOF1
set_option linter.unusedVariables false
set_option maxRecDepth 100000
namespace Go.Proofs.YtaennkkcnhfglaaGreatDoor.Ev.F
open Go.Proofs Go.Proofs.YtaennkkcnhfglaaGreatDoor.Ev
noncomputable section
inductive v03 where
 | start (l0 : (List ua3)) (t1_0 : Int) (t1_1 : Int) (t1_2 : ByteArray) (t1_3 : (List ua1)) (v2_0 : ByteArray) (v2_1 : Int) (v2_2 : (List ua5))
 | p53 (C0 : Int) (C1 : Int) (C2 : ByteArray) (C3 : (List ua1)) (D0 : ByteArray) (D1 : Int) (D2 : (List ua5))
 | p4084 (l0 : (List ua3)) (all7 : (List ua2)) (i8 : Int) (k9 : Int) (C0 : ByteArray) (C1 : Int) (C2 : (List ua5))
def vs2 : Fb E v03 (Int × Unit) Unit := ⟨85, Tryz.f85, (.cons (.sl 103) (.cons (.agg (.cons (Rd.int .i64).w (.cons (Rd.int .i64).w (.cons Rd.str.w (.cons (.sl 25) .nil))))) (.cons (.agg (.cons Rd.str.w (.cons (Rd.int .i64).w (.cons (.sl 37) .nil)))) .nil))), .nil, fun a b => .start a.1 a.2.1.1 a.2.1.2.1 a.2.1.2.2.1 a.2.1.2.2.2.1 a.2.2.1.1 a.2.2.1.2.1 a.2.2.1.2.2.1, { rl := (.cons (.int .i64) .nil), rb := .nil, done := [0] }, [⟨53, { slots := [4, 5] }, (.cons (.bp 0 0) (.cons (.bp 1 0) .nil)), (.cons (.var 25 (.cons (.int .i64) (.cons (.int .i64) (.cons .str (.cons (.sl 25 false) .nil))))) (.cons (.var 37 (.cons .str (.cons (.int .i64) (.cons (.sl 37 false) .nil)))) .nil)), fun a b => .p53 b.1.1 b.1.2.1 b.1.2.2.1 b.1.2.2.2.1 b.2.1.1 b.2.1.2.1 b.2.1.2.2.1⟩,
 ⟨4084, { slots := [0, 5, 7, 8, 9] }, (.cons (.sl 103 false) (.cons (.bp 0 0) (.cons (.sl 56 false) (.cons (.int .i64) (.cons (.int .i64) .nil))))), (.cons (.var 37 (.cons .str (.cons (.int .i64) (.cons (.sl 37 false) .nil)))) .nil), fun a b => .p4084 a.1 a.2.2.1 a.2.2.2.1 a.2.2.2.2.1 b.1.1 b.1.2.1 b.1.2.2.1⟩], mkWr [] []⟩
def ug0 : v03 → Option ((Int × Unit) × Unit)
 | .start l0 t1_0 t1_1 t1_2 t1_3 v2_0 v2_1 v2_2 =>
  (uB5 (.start t1_0 t1_1 t1_2 t1_3)) >>= fun t1 =>
  if t1.1.1 = true then
   if (!(seq v2_0 (⟨#[]⟩ : ByteArray))) = true then
    some (((3 : Int), ()), ())
   else
    if (decide ((List.length v2_2 : Int) > (0 : Int))) = true then
     some (((3 : Int), ()), ())
    else
     ug0 (.p53 t1_0 t1_1 t1_2 t1_3 v2_0 v2_1 v2_2)
  else
   (ug2 (.start l0 t1_0 t1_1 t1_2 t1_3)) >>= fun t2 =>
   (um8 (.start t2.1.1 v2_0)) >>= fun t3 =>
   if (decide (t3.1.1 < (0 : Int))) = true then
    some (((6 : Int), ()), ())
   else
    if (v2_1 != (0 : Int)) = true then
     some (((3 : Int), ()), ())
    else
     (idx t2.1.1 t3.1.1) >>= fun t4 =>
     if ((List.length v2_2 : Int) != (List.length t4.Fields : Int)) = true then
      some (((10 : Int), ()), ())
     else
      ug0 (.p4084 l0 t2.1.1 t3.1.1 (0 : Int) v2_0 v2_1 v2_2)
 | .p53 C0 C1 C2 C3 D0 D1 D2 =>
  (idx C3 (0 : Int)) >>= fun t1 =>
  (ut5 (.start D1 t1.Value)) >>= fun t2 =>
  if (!t2.1.1) = true then
   some (((2 : Int), ()), ())
  else
   some (((0 : Int), ()), ())
 | .p4084 l0 all7 i8 k9 C0 C1 C2 =>
  if (decide (k9 < (List.length C2 : Int))) = true then
   (idx all7 i8) >>= fun t1 =>
   (idx t1.Fields k9) >>= fun t2 =>
   (idx C2 k9) >>= fun t3 =>
   (ug0 (.start l0 t2.Type_.Kind t2.Type_.Value t2.Type_.Name t2.Type_.Parts t3.Name t3.Number t3.Parts)) >>= fun t4 =>
   if (t4.1.1 != (0 : Int)) = true then
    some ((t4.1.1, ()), ())
   else
    ug0 (.p4084 l0 all7 i8 (IntKind.wrap .i64 (k9 + (1 : Int))) C0 C1 C2)
  else
   some (((0 : Int), ()), ())
 partial_fixpoint
def wj7 : ub2 E := vs2.okc E_ok (run := ug0) (ug0.partial_correctness vs2.M fun run' ih => vs2.mk_ok E_ok [vs2.okc E_ok ih, v10, wj6, vU3, wa3] ih)
inductive v04 where
 | start (l0 : (List ua3)) (t1_0 : Int) (t1_1 : Int) (t1_2 : ByteArray) (t1_3 : (List ua1)) (v2_0 : ByteArray) (v2_1 : Int) (v2_2 : (List ua5))
def vE0 : Fb E v04 (Int × Unit) Unit := ⟨35, Tryz.f35, (.cons (.sl 103) (.cons (.agg (.cons (Rd.int .i64).w (.cons (Rd.int .i64).w (.cons Rd.str.w (.cons (.sl 25) .nil))))) (.cons (.agg (.cons Rd.str.w (.cons (Rd.int .i64).w (.cons (.sl 37) .nil)))) .nil))), .nil, fun a b => .start a.1 a.2.1.1 a.2.1.2.1 a.2.1.2.2.1 a.2.1.2.2.2.1 a.2.2.1.1 a.2.2.1.2.1 a.2.2.1.2.2.1, { rl := (.cons (.int .i64) .nil), rb := .nil, done := [0] }, [], mkWr [] []⟩
def uM2 : v04 → Option ((Int × Unit) × Unit)
 | .start l0 t1_0 t1_1 t1_2 t1_3 v2_0 v2_1 v2_2 =>
  (uk8 (.start v2_0 v2_1 v2_2)) >>= fun t1 =>
  if (!t1.1.1) = true then
   some (((8 : Int), ()), ())
  else
   (ug0 (.start l0 t1_0 t1_1 t1_2 t1_3 v2_0 v2_1 v2_2)) >>= fun t2 =>
   some ((t2.1.1, ()), ())
def wj8 : ub2 E := vE0.okc E_ok (run := uM2) (vE0.mk_ok E_ok [wj7, v09] vE0.none)
inductive v05 where
 | start (n0 : Int)
def vE1 : Fb E v05 (Int × Unit) Unit := ⟨51, Tryz.f51, (.cons (Rd.int .i64).w .nil), .nil, fun a b => .start a.1, { rl := (.cons (.int .i64) .nil), rb := .nil, done := [0] }, [], mkWr [] []⟩
def uM3 : v05 → Option ((Int × Unit) × Unit)
 | .start n0 =>
  if (decide (n0 < (0 : Int))) = true then
   some (((-1 : Int), ()), ())
  else
   some ((if (1 : Int) < n0 then (1 : Int) else n0, ()), ())
def wj9 : ub2 E := vE1.okc E_ok (run := uM3) (vE1.mk_ok E_ok [] vE1.none)
inductive v06 where
 | start (l0 : (List ua3)) (t1_0 : Int) (t1_1 : Int) (t1_2 : ByteArray) (t1_3 : (List ua1)) (v2_0 : ByteArray) (v2_1 : Int) (v2_2 : (List ua5))
def vE2 : Fb E v06 (Int × (Int × Unit)) Unit := ⟨32, Tryz.f32, (.cons (.sl 103) (.cons (.agg (.cons (Rd.int .i64).w (.cons (Rd.int .i64).w (.cons Rd.str.w (.cons (.sl 25) .nil))))) (.cons (.agg (.cons Rd.str.w (.cons (Rd.int .i64).w (.cons (.sl 37) .nil)))) .nil))), .nil, fun a b => .start a.1 a.2.1.1 a.2.1.2.1 a.2.1.2.2.1 a.2.1.2.2.2.1 a.2.2.1.1 a.2.2.1.2.1 a.2.2.1.2.2.1, { rl := (.cons (.int .i64) (.cons (.int .i64) .nil)), rb := .nil, done := [0, 1] }, [], mkWr [] []⟩
def uM4 : v06 → Option ((Int × (Int × Unit)) × Unit)
 | .start l0 t1_0 t1_1 t1_2 t1_3 v2_0 v2_1 v2_2 =>
  (uk0 (.start l0 t1_0 t1_1 t1_2 t1_3 v2_0 v2_1 v2_2)) >>= fun t1 =>
  if (t1.1.2.1 != (0 : Int)) = true then
   some (((0 : Int), (t1.1.2.1, ())), ())
  else
   (ue1 (.start t1.1.1 v2_0 v2_1 v2_2)) >>= fun t2 =>
   some ((t2.1.1, ((0 : Int), ())), ())
def wk0 : ub2 E := vE2.okc E_ok (run := uM4) (vE2.mk_ok E_ok [v08, vU0] vE2.none)
inductive v07 where
 | start (l0 : (List ua3)) (t1_0 : Int) (t1_1 : Int) (t1_2 : ByteArray) (t1_3 : (List ua1)) (x2_0 : Int) (x2_1 : Int)
 | p511 (l0 : (List ua3)) (count11 : Int) (w13 : Int) (C0 : Int) (C1 : Int) (C2 : ByteArray) (C3 : (List ua1)) (D0 : Int) (D1 : Int) (G0 : ByteArray) (G1 : Int) (G2 : ByteArray) (G3 : Int)
 | p16372 (l0 : (List ua3)) (count11 : Int) (w13 : Int) (i17 : Int) (C0 : Int) (C1 : Int) (C2 : ByteArray) (C3 : (List ua1)) (D0 : Int) (D1 : Int) (G0 : ByteArray) (G1 : Int) (G2 : (List ua5)) (G3 : ByteArray) (G4 : Int) (G5 : (List ua5)) (H0 : Int) (H1 : Int) (J0 : Int) (J1 : Int)
 | p1047847 (l0 : (List ua3)) (count11 : Int) (w13 : Int) (i17 : Int) (C0 : Int) (C1 : Int) (C2 : ByteArray) (C3 : (List ua1)) (D0 : Int) (D1 : Int) (G0 : ByteArray) (G1 : Int) (G2 : (List ua5)) (G3 : ByteArray) (G4 : Int) (G5 : (List ua5)) (H0 : Int) (H1 : Int) (J0 : Int) (J1 : Int) (K0 : ByteArray) (K1 : Int) (K2 : (List ua5))
def vE3 : Fb E v07 (Bool × Unit) Unit := ⟨8, Tryz.f8, (.cons (.sl 103) (.cons (.agg (.cons (Rd.int .i64).w (.cons (Rd.int .i64).w (.cons Rd.str.w (.cons (.sl 25) .nil))))) (.cons (.agg (.cons (Rd.int .i64).w (.cons (Rd.int .i64).w .nil))) .nil))), .nil, fun a b => .start a.1 a.2.1.1 a.2.1.2.1 a.2.1.2.2.1 a.2.1.2.2.2.1 a.2.2.1.1 a.2.2.1.2.1, { rl := (.cons .bool .nil), rb := .nil, done := [0] }, [⟨511, { slots := [0, 4, 5, 7, 11, 13] }, (.cons (.sl 103 false) (.cons (.bp 0 0) (.cons (.bp 1 0) (.cons (.bp 2 0) (.cons (.int .i64) (.cons (.int .i64) .nil)))))), (.cons (.var 25 (.cons (.int .i64) (.cons (.int .i64) (.cons .str (.cons (.sl 25 false) .nil))))) (.cons (.var 84 (.cons (.int .i64) (.cons (.int .i64) .nil))) (.cons (.var 85 (.cons .str (.cons (.int .i64) (.cons Rd.nl (.cons .str (.cons (.int .i64) (.cons Rd.nl .nil))))))) .nil))), fun a b => .p511 a.1 a.2.2.2.2.1 a.2.2.2.2.2.1 b.1.1 b.1.2.1 b.1.2.2.1 b.1.2.2.2.1 b.2.1.1 b.2.1.2.1 b.2.2.1.1 b.2.2.1.2.1 b.2.2.1.2.2.2.1 b.2.2.1.2.2.2.2.1⟩,
 ⟨16372, { slots := [0, 4, 5, 7, 11, 13, 15, 16, 17], deep := [(false, 7, 2, 37), (false, 7, 5, 37)], done := [7] }, (.cons (.sl 103 false) (.cons (.bp 0 0) (.cons (.bp 1 0) (.cons (.bp 2 0) (.cons (.int .i64) (.cons (.int .i64) (.cons (.bp 3 0) (.cons (.bp 4 0) (.cons (.int .i64) .nil))))))))), (.cons (.var 25 (.cons (.int .i64) (.cons (.int .i64) (.cons .str (.cons (.sl 25 false) .nil))))) (.cons (.var 84 (.cons (.int .i64) (.cons (.int .i64) .nil))) (.cons (.var 85 (.cons .str (.cons (.int .i64) (.cons (.sl 37 false) (.cons .str (.cons (.int .i64) (.cons (.sl 37 false) .nil))))))) (.cons (.var 84 (.cons (.int .i64) (.cons (.int .i64) .nil))) (.cons (.var 84 (.cons (.int .i64) (.cons (.int .i64) .nil))) .nil))))), fun a b => .p16372 a.1 a.2.2.2.2.1 a.2.2.2.2.2.1 a.2.2.2.2.2.2.2.2.1 b.1.1 b.1.2.1 b.1.2.2.1 b.1.2.2.2.1 b.2.1.1 b.2.1.2.1 b.2.2.1.1 b.2.2.1.2.1 b.2.2.1.2.2.1 b.2.2.1.2.2.2.1 b.2.2.1.2.2.2.2.1 b.2.2.1.2.2.2.2.2.1 b.2.2.2.1.1 b.2.2.2.1.2.1 b.2.2.2.2.1.1 b.2.2.2.2.1.2.1⟩,
 ⟨1047847, { slots := [0, 4, 5, 7, 11, 13, 15, 16, 17, 18] }, (.cons (.sl 103 false) (.cons (.bp 0 0) (.cons (.bp 1 0) (.cons (.bp 2 0) (.cons (.int .i64) (.cons (.int .i64) (.cons (.bp 3 0) (.cons (.bp 4 0) (.cons (.int .i64) (.cons (.bp 5 0) .nil)))))))))), (.cons (.var 25 (.cons (.int .i64) (.cons (.int .i64) (.cons .str (.cons (.sl 25 false) .nil))))) (.cons (.var 84 (.cons (.int .i64) (.cons (.int .i64) .nil))) (.cons (.var 85 (.cons .str (.cons (.int .i64) (.cons (.sl 37 false) (.cons .str (.cons (.int .i64) (.cons (.sl 37 false) .nil))))))) (.cons (.var 84 (.cons (.int .i64) (.cons (.int .i64) .nil))) (.cons (.var 84 (.cons (.int .i64) (.cons (.int .i64) .nil))) (.cons (.var 37 (.cons .str (.cons (.int .i64) (.cons (.sl 37 false) .nil)))) .nil)))))), fun a b => .p1047847 a.1 a.2.2.2.2.1 a.2.2.2.2.2.1 a.2.2.2.2.2.2.2.2.1 b.1.1 b.1.2.1 b.1.2.2.1 b.1.2.2.2.1 b.2.1.1 b.2.1.2.1 b.2.2.1.1 b.2.2.1.2.1 b.2.2.1.2.2.1 b.2.2.1.2.2.2.1 b.2.2.1.2.2.2.2.1 b.2.2.1.2.2.2.2.2.1 b.2.2.2.1.1 b.2.2.2.1.2.1 b.2.2.2.2.1.1 b.2.2.2.2.1.2.1 b.2.2.2.2.2.1.1 b.2.2.2.2.2.1.2.1 b.2.2.2.2.2.1.2.2.1⟩], mkWr [] []⟩
def ub8 : v07 → Option ((Bool × Unit) × Unit)
 | .start l0 t1_0 t1_1 t1_2 t1_3 x2_0 x2_1 =>
  (u06 .start) >>= fun t1 =>
  if (!t1.1.1) = true then
   some ((false, ()), ())
  else
   (ue2 (.start l0)) >>= fun t2 =>
   if (!t2.1.1) = true then
    some ((true, ()), ())
   else
    (vb6 (.start l0 t1_0 t1_1 t1_2 t1_3)) >>= fun t3 =>
    if (t3.1.1 != (0 : Int)) = true then
     (ub4 (.start l0)) >>= fun t4 =>
     (uj4 (.start t4.2.1 t1_0 t1_1 t1_2 t1_3 (⟨#[]⟩ : ByteArray) (0 : Int) ([]) (⟨#[]⟩ : ByteArray) (0 : Int) ([]))) >>= fun t5 =>
     if (t5.1.2.1 == t3.1.1) = true then
      some ((t5.1.1 == (0 : Int), ()), ())
     else
      some ((false, ()), ())
    else
     (ub4 (.start l0)) >>= fun t6 =>
     (uU4 (.start t6.2.1 t1_0 t1_1 t1_2 t1_3)) >>= fun t7 =>
     (ub4 (.start l0)) >>= fun t8 =>
     (uH2 (.start t8.2.1 t1_0 t1_1 t1_2 t1_3)) >>= fun t9 =>
     if (t7.1.2.1 != (0 : Int)) = true then
      some ((false, ()), ())
     else
      if (t9.1.2.1 != (0 : Int)) = true then
       some ((false, ()), ())
      else
       (uQ4 (.start t9.1.1)) >>= fun t10 =>
       if (!t10.1.1) = true then
        some ((false, ()), ())
       else
        (uQ5 (.start t9.1.1)) >>= fun t11 =>
        (uB4 (.start t7.1.1 (1 : Int) t11.1.1)) >>= fun t12 =>
        if (!t12.1.1) = true then
         some ((false, ()), ())
        else
         ub8 (.p511 l0 t7.1.1 t9.1.1 t1_0 t1_1 t1_2 t1_3 x2_0 x2_1 (⟨#[]⟩ : ByteArray) (0 : Int) (⟨#[]⟩ : ByteArray) (0 : Int))
 | .p511 l0 count11 w13 C0 C1 C2 C3 D0 D1 G0 G1 G2 G3 =>
  ub8 (.p16372 l0 count11 w13 (0 : Int) C0 C1 C2 C3 D0 D1 G0 G1 ([]) G2 G3 ([]) (0 : Int) (0 : Int) (0 : Int) (0 : Int))
 | .p16372 l0 count11 w13 i17 C0 C1 C2 C3 D0 D1 G0 G1 G2 G3 G4 G5 H0 H1 J0 J1 =>
  if (decide (i17 < (2 : Int))) = true then
   if (decide (i17 = 0)) = true then
    (uM1 (.start D0 count11)) >>= fun t1 =>
    if (decide (i17 = 0)) = true then
     (ub4 (.start l0)) >>= fun t2 =>
     if (decide (i17 = 0)) = true then
      (um9 (.start t2.2.1 C0 C1 C2 C3 t1.1.1)) >>= fun t3 =>
      if (t3.1.2.1 != (0 : Int)) = true then
       some ((false, ()), ())
      else
       (uk8 (.start t3.1.1.1 t3.1.1.2.1 t3.1.1.2.2.1)) >>= fun t4 =>
       if (!t4.1.1) = true then
        some ((false, ()), ())
       else
        (ub4 (.start l0)) >>= fun t5 =>
        (um7 (.start t5.2.1 C0 C1 C2 C3 t3.1.1.1 t3.1.1.2.1 t3.1.1.2.2.1)) >>= fun t6 =>
        if (t6.1.1 != (0 : Int)) = true then
         some ((false, ()), ())
        else
         ub8 (.p1047847 l0 count11 w13 i17 C0 C1 C2 C3 D0 D1 G0 G1 G2 G3 G4 G5 H0 H1 t1.1.1 J1 t3.1.1.1 t3.1.1.2.1 t3.1.1.2.2.1)
     else
      if (decide (i17 = 1)) = true then
       (um9 (.start t2.2.1 C0 C1 C2 C3 J1)) >>= fun t7 =>
       if (t7.1.2.1 != (0 : Int)) = true then
        some ((false, ()), ())
       else
        (uk8 (.start t7.1.1.1 t7.1.1.2.1 t7.1.1.2.2.1)) >>= fun t8 =>
        if (!t8.1.1) = true then
         some ((false, ()), ())
        else
         (ub4 (.start l0)) >>= fun t9 =>
         (um7 (.start t9.2.1 C0 C1 C2 C3 t7.1.1.1 t7.1.1.2.1 t7.1.1.2.2.1)) >>= fun t10 =>
         if (t10.1.1 != (0 : Int)) = true then
          some ((false, ()), ())
         else
          ub8 (.p1047847 l0 count11 w13 i17 C0 C1 C2 C3 D0 D1 G0 G1 G2 G3 G4 G5 H0 H1 t1.1.1 J1 t7.1.1.1 t7.1.1.2.1 t7.1.1.2.2.1)
      else none
    else
     if (decide (i17 = 1)) = true then
      (ub4 (.start l0)) >>= fun t11 =>
      if (decide (i17 = 0)) = true then
       (um9 (.start t11.2.1 C0 C1 C2 C3 J0)) >>= fun t12 =>
       if (t12.1.2.1 != (0 : Int)) = true then
        some ((false, ()), ())
       else
        (uk8 (.start t12.1.1.1 t12.1.1.2.1 t12.1.1.2.2.1)) >>= fun t13 =>
        if (!t13.1.1) = true then
         some ((false, ()), ())
        else
         (ub4 (.start l0)) >>= fun t14 =>
         (um7 (.start t14.2.1 C0 C1 C2 C3 t12.1.1.1 t12.1.1.2.1 t12.1.1.2.2.1)) >>= fun t15 =>
         if (t15.1.1 != (0 : Int)) = true then
          some ((false, ()), ())
         else
          ub8 (.p1047847 l0 count11 w13 i17 C0 C1 C2 C3 D0 D1 G0 G1 G2 G3 G4 G5 H0 H1 J0 t1.1.1 t12.1.1.1 t12.1.1.2.1 t12.1.1.2.2.1)
      else
       if (decide (i17 = 1)) = true then
        (um9 (.start t11.2.1 C0 C1 C2 C3 t1.1.1)) >>= fun t16 =>
        if (t16.1.2.1 != (0 : Int)) = true then
         some ((false, ()), ())
        else
         (uk8 (.start t16.1.1.1 t16.1.1.2.1 t16.1.1.2.2.1)) >>= fun t17 =>
         if (!t17.1.1) = true then
          some ((false, ()), ())
         else
          (ub4 (.start l0)) >>= fun t18 =>
          (um7 (.start t18.2.1 C0 C1 C2 C3 t16.1.1.1 t16.1.1.2.1 t16.1.1.2.2.1)) >>= fun t19 =>
          if (t19.1.1 != (0 : Int)) = true then
           some ((false, ()), ())
          else
           ub8 (.p1047847 l0 count11 w13 i17 C0 C1 C2 C3 D0 D1 G0 G1 G2 G3 G4 G5 H0 H1 J0 t1.1.1 t16.1.1.1 t16.1.1.2.1 t16.1.1.2.2.1)
       else none
     else none
   else
    if (decide (i17 = 1)) = true then
     (uM1 (.start D1 count11)) >>= fun t20 =>
     if (decide (i17 = 0)) = true then
      (ub4 (.start l0)) >>= fun t21 =>
      if (decide (i17 = 0)) = true then
       (um9 (.start t21.2.1 C0 C1 C2 C3 t20.1.1)) >>= fun t22 =>
       if (t22.1.2.1 != (0 : Int)) = true then
        some ((false, ()), ())
       else
        (uk8 (.start t22.1.1.1 t22.1.1.2.1 t22.1.1.2.2.1)) >>= fun t23 =>
        if (!t23.1.1) = true then
         some ((false, ()), ())
        else
         (ub4 (.start l0)) >>= fun t24 =>
         (um7 (.start t24.2.1 C0 C1 C2 C3 t22.1.1.1 t22.1.1.2.1 t22.1.1.2.2.1)) >>= fun t25 =>
         if (t25.1.1 != (0 : Int)) = true then
          some ((false, ()), ())
         else
          ub8 (.p1047847 l0 count11 w13 i17 C0 C1 C2 C3 D0 D1 G0 G1 G2 G3 G4 G5 H0 H1 t20.1.1 J1 t22.1.1.1 t22.1.1.2.1 t22.1.1.2.2.1)
      else
       if (decide (i17 = 1)) = true then
        (um9 (.start t21.2.1 C0 C1 C2 C3 J1)) >>= fun t26 =>
        if (t26.1.2.1 != (0 : Int)) = true then
         some ((false, ()), ())
        else
         (uk8 (.start t26.1.1.1 t26.1.1.2.1 t26.1.1.2.2.1)) >>= fun t27 =>
         if (!t27.1.1) = true then
          some ((false, ()), ())
         else
          (ub4 (.start l0)) >>= fun t28 =>
          (um7 (.start t28.2.1 C0 C1 C2 C3 t26.1.1.1 t26.1.1.2.1 t26.1.1.2.2.1)) >>= fun t29 =>
          if (t29.1.1 != (0 : Int)) = true then
           some ((false, ()), ())
          else
           ub8 (.p1047847 l0 count11 w13 i17 C0 C1 C2 C3 D0 D1 G0 G1 G2 G3 G4 G5 H0 H1 t20.1.1 J1 t26.1.1.1 t26.1.1.2.1 t26.1.1.2.2.1)
       else none
     else
      if (decide (i17 = 1)) = true then
       (ub4 (.start l0)) >>= fun t30 =>
       if (decide (i17 = 0)) = true then
        (um9 (.start t30.2.1 C0 C1 C2 C3 J0)) >>= fun t31 =>
        if (t31.1.2.1 != (0 : Int)) = true then
         some ((false, ()), ())
        else
         (uk8 (.start t31.1.1.1 t31.1.1.2.1 t31.1.1.2.2.1)) >>= fun t32 =>
         if (!t32.1.1) = true then
          some ((false, ()), ())
         else
          (ub4 (.start l0)) >>= fun t33 =>
          (um7 (.start t33.2.1 C0 C1 C2 C3 t31.1.1.1 t31.1.1.2.1 t31.1.1.2.2.1)) >>= fun t34 =>
          if (t34.1.1 != (0 : Int)) = true then
           some ((false, ()), ())
          else
           ub8 (.p1047847 l0 count11 w13 i17 C0 C1 C2 C3 D0 D1 G0 G1 G2 G3 G4 G5 H0 H1 J0 t20.1.1 t31.1.1.1 t31.1.1.2.1 t31.1.1.2.2.1)
       else
        if (decide (i17 = 1)) = true then
         (um9 (.start t30.2.1 C0 C1 C2 C3 t20.1.1)) >>= fun t35 =>
         if (t35.1.2.1 != (0 : Int)) = true then
          some ((false, ()), ())
         else
          (uk8 (.start t35.1.1.1 t35.1.1.2.1 t35.1.1.2.2.1)) >>= fun t36 =>
          if (!t36.1.1) = true then
           some ((false, ()), ())
          else
           (ub4 (.start l0)) >>= fun t37 =>
           (um7 (.start t37.2.1 C0 C1 C2 C3 t35.1.1.1 t35.1.1.2.1 t35.1.1.2.2.1)) >>= fun t38 =>
           if (t38.1.1 != (0 : Int)) = true then
            some ((false, ()), ())
           else
            ub8 (.p1047847 l0 count11 w13 i17 C0 C1 C2 C3 D0 D1 G0 G1 G2 G3 G4 G5 H0 H1 J0 t20.1.1 t35.1.1.1 t35.1.1.2.1 t35.1.1.2.2.1)
        else none
      else none
    else none
  else
   (ub4 (.start l0)) >>= fun t39 =>
   (uf0 (.start G0 G1 G2)) >>= fun t40 =>
   (uf0 (.start G3 G4 G5)) >>= fun t41 =>
   (uj4 (.start t39.2.1 C0 C1 C2 C3 t40.1.1.1 t40.1.1.2.1 t40.1.1.2.2.1 t41.1.1.1 t41.1.1.2.1 t41.1.1.2.2.1)) >>= fun t42 =>
   (ub4 (.start l0)) >>= fun t43 =>
   (uf0 (.start G0 G1 G2)) >>= fun t44 =>
   (uj4 (.start t43.2.1 C0 C1 C2 C3 t44.1.1.1 t44.1.1.2.1 t44.1.1.2.2.1 (⟨#[63]⟩ : ByteArray) (0 : Int) ([]))) >>= fun t45 =>
   (uM2 (.start l0 C0 C1 C2 C3 (⟨#[63]⟩ : ByteArray) (0 : Int) ([]))) >>= fun t46 =>
   if (t42.1.2.1 == (0 : Int)) = true then
    (uM3 (.start (IntKind.wrap .i64 (J0 - J1)))) >>= fun t47 =>
    if (t42.1.1 == t47.1.1) = true then
     (uM3 (.start (IntKind.wrap .i64 (H0 - H1)))) >>= fun t48 =>
     if (t42.1.1 == t48.1.1) = true then
      if (t45.1.2.1 == t46.1.1) = true then
       if (t46.1.1 != (0 : Int)) = true then
        some ((t45.1.1 == (0 : Int), ()), ())
       else
        some ((false, ()), ())
      else
       some ((false, ()), ())
     else
      some ((false, ()), ())
    else
     some ((false, ()), ())
   else
    some ((false, ()), ())
 | .p1047847 l0 count11 w13 i17 C0 C1 C2 C3 D0 D1 G0 G1 G2 G3 G4 G5 H0 H1 J0 J1 K0 K1 K2 =>
  if (decide (i17 = 0)) = true then
   (ub4 (.start l0)) >>= fun t1 =>
   (uf0 (.start K0 K1 K2)) >>= fun t2 =>
   (uM4 (.start t1.2.1 C0 C1 C2 C3 t2.1.1.1 t2.1.1.2.1 t2.1.1.2.2.1)) >>= fun t3 =>
   (ub4 (.start l0)) >>= fun t4 =>
   (uf0 (.start K0 K1 K2)) >>= fun t5 =>
   (uB1 (.start t4.2.1 C0 C1 C2 C3 t5.1.1.1 t5.1.1.2.1 t5.1.1.2.2.1)) >>= fun t6 =>
   (ub4 (.start l0)) >>= fun t7 =>
   (uB2 (.start t7.2.1 C0 C1 C2 C3 t6.1.1)) >>= fun t8 =>
   if (t3.1.2.1 != (0 : Int)) = true then
    some ((false, ()), ())
   else
    if (decide (i17 = 0)) = true then
     if (t3.1.1 != J0) = true then
      some ((false, ()), ())
     else
      if (t6.1.2.1 != (0 : Int)) = true then
       some ((false, ()), ())
      else
       (ut5 (.start t6.1.1 w13)) >>= fun t9 =>
       if (!t9.1.1) = true then
        some ((false, ()), ())
       else
        if (t8.1.2.1 != (0 : Int)) = true then
         some ((false, ()), ())
        else
         (uh0 (.start t8.1.1.1 t8.1.1.2.1 t8.1.1.2.2.1 K0 K1 K2)) >>= fun t10 =>
         if (!t10.1.1) = true then
          some ((false, ()), ())
         else
          if (decide (i17 = 0)) = true then
           ub8 (.p16372 l0 count11 w13 (IntKind.wrap .i64 (i17 + (1 : Int))) C0 C1 C2 C3 D0 D1 K0 K1 K2 G3 G4 G5 t6.1.1 H1 J0 J1)
          else
           if (decide (i17 = 1)) = true then
            ub8 (.p16372 l0 count11 w13 (IntKind.wrap .i64 (i17 + (1 : Int))) C0 C1 C2 C3 D0 D1 K0 K1 K2 G3 G4 G5 H0 t6.1.1 J0 J1)
           else none
    else
     if (decide (i17 = 1)) = true then
      if (t3.1.1 != J1) = true then
       some ((false, ()), ())
      else
       if (t6.1.2.1 != (0 : Int)) = true then
        some ((false, ()), ())
       else
        (ut5 (.start t6.1.1 w13)) >>= fun t11 =>
        if (!t11.1.1) = true then
         some ((false, ()), ())
        else
         if (t8.1.2.1 != (0 : Int)) = true then
          some ((false, ()), ())
         else
          (uh0 (.start t8.1.1.1 t8.1.1.2.1 t8.1.1.2.2.1 K0 K1 K2)) >>= fun t12 =>
          if (!t12.1.1) = true then
           some ((false, ()), ())
          else
           if (decide (i17 = 0)) = true then
            ub8 (.p16372 l0 count11 w13 (IntKind.wrap .i64 (i17 + (1 : Int))) C0 C1 C2 C3 D0 D1 K0 K1 K2 G3 G4 G5 t6.1.1 H1 J0 J1)
           else
            if (decide (i17 = 1)) = true then
             ub8 (.p16372 l0 count11 w13 (IntKind.wrap .i64 (i17 + (1 : Int))) C0 C1 C2 C3 D0 D1 K0 K1 K2 G3 G4 G5 H0 t6.1.1 J0 J1)
            else none
     else none
  else
   if (decide (i17 = 1)) = true then
    (ub4 (.start l0)) >>= fun t13 =>
    (uf0 (.start K0 K1 K2)) >>= fun t14 =>
    (uM4 (.start t13.2.1 C0 C1 C2 C3 t14.1.1.1 t14.1.1.2.1 t14.1.1.2.2.1)) >>= fun t15 =>
    (ub4 (.start l0)) >>= fun t16 =>
    (uf0 (.start K0 K1 K2)) >>= fun t17 =>
    (uB1 (.start t16.2.1 C0 C1 C2 C3 t17.1.1.1 t17.1.1.2.1 t17.1.1.2.2.1)) >>= fun t18 =>
    (ub4 (.start l0)) >>= fun t19 =>
    (uB2 (.start t19.2.1 C0 C1 C2 C3 t18.1.1)) >>= fun t20 =>
    if (t15.1.2.1 != (0 : Int)) = true then
     some ((false, ()), ())
    else
     if (decide (i17 = 0)) = true then
      if (t15.1.1 != J0) = true then
       some ((false, ()), ())
      else
       if (t18.1.2.1 != (0 : Int)) = true then
        some ((false, ()), ())
       else
        (ut5 (.start t18.1.1 w13)) >>= fun t21 =>
        if (!t21.1.1) = true then
         some ((false, ()), ())
        else
         if (t20.1.2.1 != (0 : Int)) = true then
          some ((false, ()), ())
         else
          (uh0 (.start t20.1.1.1 t20.1.1.2.1 t20.1.1.2.2.1 K0 K1 K2)) >>= fun t22 =>
          if (!t22.1.1) = true then
           some ((false, ()), ())
          else
           if (decide (i17 = 0)) = true then
            ub8 (.p16372 l0 count11 w13 (IntKind.wrap .i64 (i17 + (1 : Int))) C0 C1 C2 C3 D0 D1 G0 G1 G2 K0 K1 K2 t18.1.1 H1 J0 J1)
           else
            if (decide (i17 = 1)) = true then
             ub8 (.p16372 l0 count11 w13 (IntKind.wrap .i64 (i17 + (1 : Int))) C0 C1 C2 C3 D0 D1 G0 G1 G2 K0 K1 K2 H0 t18.1.1 J0 J1)
            else none
     else
      if (decide (i17 = 1)) = true then
       if (t15.1.1 != J1) = true then
        some ((false, ()), ())
       else
        if (t18.1.2.1 != (0 : Int)) = true then
         some ((false, ()), ())
        else
         (ut5 (.start t18.1.1 w13)) >>= fun t23 =>
         if (!t23.1.1) = true then
          some ((false, ()), ())
         else
          if (t20.1.2.1 != (0 : Int)) = true then
           some ((false, ()), ())
          else
           (uh0 (.start t20.1.1.1 t20.1.1.2.1 t20.1.1.2.2.1 K0 K1 K2)) >>= fun t24 =>
           if (!t24.1.1) = true then
            some ((false, ()), ())
           else
            if (decide (i17 = 0)) = true then
             ub8 (.p16372 l0 count11 w13 (IntKind.wrap .i64 (i17 + (1 : Int))) C0 C1 C2 C3 D0 D1 G0 G1 G2 K0 K1 K2 t18.1.1 H1 J0 J1)
            else
             if (decide (i17 = 1)) = true then
              ub8 (.p16372 l0 count11 w13 (IntKind.wrap .i64 (i17 + (1 : Int))) C0 C1 C2 C3 D0 D1 G0 G1 G2 K0 K1 K2 H0 t18.1.1 J0 J1)
             else none
      else none
   else none
 partial_fixpoint
def vF4 : ub2 E := vE3.okc E_ok (run := ub8) (ub8.partial_correctness vE3.M fun run' ih => vE3.mk_ok E_ok [wl2, v10, wk9, wk8, wk0, wj9, wj8, wj5, wj4, v09, wl1, wj2, vU2, wa5, wa4, wk5, wj1, wj0, wi7, wu6, wt4, wt2] ih)
end
end Go.Proofs.YtaennkkcnhfglaaGreatDoor.Ev.F
