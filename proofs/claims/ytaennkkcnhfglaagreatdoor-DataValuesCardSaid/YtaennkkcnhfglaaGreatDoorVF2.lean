/- A part of the proof. -/
import Derived.Test.YtaennkkcnhfglaaGreatDoorVF1
set_option linter.unusedVariables false
set_option maxRecDepth 100000
namespace Go.Proofs.YtaennkkcnhfglaaGreatDoor.Ev.F
open Go.Proofs Go.Proofs.YtaennkkcnhfglaaGreatDoor.Ev
noncomputable section
inductive v23 where
 | start (l0 : (List ua2)) (t1_0 : Int) (t1_1 : Int) (t1_2 : ByteArray) (t1_3 : (List ua3)) (v2_0 : ByteArray) (v2_1 : Int) (v2_2 : (List ua4))
 | p500 (l0 : (List ua2)) (all7 : (List ua1)) (at8 : Int) (n9 : Int) (i10 : Int) (C0 : ByteArray) (C1 : Int) (C2 : (List ua4))
 | p2036 (l0 : (List ua2)) (all7 : (List ua1)) (at8 : Int) (n9 : Int) (own11 : Int) (k12 : Int) (C0 : ByteArray) (C1 : Int) (C2 : (List ua4))
def vu3 : Fb E v23 (Int × Unit) Unit := ⟨36, Tryz.f36, (.cons (.sl 103) (.cons (.agg (.cons (Rd.int .i64).w (.cons (Rd.int .i64).w (.cons Rd.str.w (.cons (.sl 25) .nil))))) (.cons (.agg (.cons Rd.str.w (.cons (Rd.int .i64).w (.cons (.sl 37) .nil)))) .nil))), .nil, fun a b => .start a.1 a.2.1.1 a.2.1.2.1 a.2.1.2.2.1 a.2.1.2.2.2.1 a.2.2.1.1 a.2.2.1.2.1 a.2.2.1.2.2.1, { rl := (.cons (.int .i64) .nil), rb := .nil, done := [0] }, [⟨500, { slots := [0, 5, 7, 8, 9, 10] }, (.cons (.sl 103 false) (.cons (.bp 0 0) (.cons (.sl 56 false) (.cons (.int .i64) (.cons (.int .i64) (.cons (.int .i64) .nil)))))), (.cons (.var 37 (.cons .str (.cons (.int .i64) (.cons (.sl 37 false) .nil)))) .nil), fun a b => .p500 a.1 a.2.2.1 a.2.2.2.1 a.2.2.2.2.1 a.2.2.2.2.2.1 b.1.1 b.1.2.1 b.1.2.2.1⟩,
 ⟨2036, { slots := [0, 5, 7, 8, 9, 11, 12] }, (.cons (.sl 103 false) (.cons (.bp 0 0) (.cons (.sl 56 false) (.cons (.int .i64) (.cons (.int .i64) (.cons (.int .i64) (.cons (.int .i64) .nil))))))), (.cons (.var 37 (.cons .str (.cons (.int .i64) (.cons (.sl 37 false) .nil)))) .nil), fun a b => .p2036 a.1 a.2.2.1 a.2.2.2.1 a.2.2.2.2.1 a.2.2.2.2.2.1 a.2.2.2.2.2.2.1 b.1.1 b.1.2.1 b.1.2.2.1⟩], mkWr [] []⟩
def uf8 : v23 → Option ((Int × Unit) × Unit)
 | .start l0 t1_0 t1_1 t1_2 t1_3 v2_0 v2_1 v2_2 =>
  (um9 (.start t1_0 t1_1 t1_2 t1_3)) >>= fun t1 =>
  if t1.1.1 = true then
   some ((v2_1, ()), ())
  else
   (ud3 (.start l0 t1_0 t1_1 t1_2 t1_3)) >>= fun t2 =>
   (uk9 (.start t2.1.1 v2_0)) >>= fun t3 =>
   uf8 (.p500 l0 t2.1.1 t3.1.1 (0 : Int) (0 : Int) v2_0 v2_1 v2_2)
 | .p500 l0 all7 at8 n9 i10 C0 C1 C2 =>
  if (decide (i10 < at8)) = true then
   (idx all7 i10) >>= fun t1 =>
   (run_z111 (.start l0 t1.Name t1.Fields)) >>= fun t2 =>
   uf8 (.p500 l0 all7 at8 (IntKind.wrap .i64 (n9 + t2.1.1)) (IntKind.wrap .i64 (i10 + (1 : Int))) C0 C1 C2)
  else
   uf8 (.p2036 l0 all7 at8 n9 (0 : Int) (0 : Int) C0 C1 C2)
 | .p2036 l0 all7 at8 n9 own11 k12 C0 C1 C2 =>
  if (decide (k12 < (List.length C2 : Int))) = true then
   (idx all7 at8) >>= fun t1 =>
   (idx t1.Fields k12) >>= fun t2 =>
   (ud9 (.start l0 t2.Type_.Kind t2.Type_.Value t2.Type_.Name t2.Type_.Parts)) >>= fun t3 =>
   (idx C2 k12) >>= fun t4 =>
   (uf8 (.start l0 t2.Type_.Kind t2.Type_.Value t2.Type_.Name t2.Type_.Parts t4.Name t4.Number t4.Parts)) >>= fun t5 =>
   uf8 (.p2036 l0 all7 at8 n9 (IntKind.wrap .i64 ((IntKind.wrap .i64 (own11 * t3.1.1)) + t5.1.1)) (IntKind.wrap .i64 (k12 + (1 : Int))) C0 C1 C2)
  else
   some ((IntKind.wrap .i64 (n9 + own11), ()), ())
 partial_fixpoint
def wl0 : ub3 E := vu3.okc E_ok (run := uf8) (uf8.partial_correctness vu3.M fun run' ih => vu3.mk_ok E_ok [vu3.okc E_ok ih, vv2, vH2, vH1, uX4, u44] ih)
inductive v24 where
 | start (l0 : (List ua2)) (t1_0 : Int) (t1_1 : Int) (t1_2 : ByteArray) (t1_3 : (List ua3)) (v2_0 : ByteArray) (v2_1 : Int) (v2_2 : (List ua4))
 | p1012 (l0 : (List ua2)) (all7 : (List ua1)) (at8 : Int) (n9 : Int) (k10 : Int) (C0 : Int) (C1 : Int) (C2 : ByteArray) (C3 : (List ua3)) (D0 : ByteArray) (D1 : Int) (D2 : (List ua4))
def vu4 : Fb E v24 (Int × Unit) Unit := ⟨37, Tryz.f37, (.cons (.sl 103) (.cons (.agg (.cons (Rd.int .i64).w (.cons (Rd.int .i64).w (.cons Rd.str.w (.cons (.sl 25) .nil))))) (.cons (.agg (.cons Rd.str.w (.cons (Rd.int .i64).w (.cons (.sl 37) .nil)))) .nil))), .nil, fun a b => .start a.1 a.2.1.1 a.2.1.2.1 a.2.1.2.2.1 a.2.1.2.2.2.1 a.2.2.1.1 a.2.2.1.2.1 a.2.2.1.2.2.1, { rl := (.cons (.int .i64) .nil), rb := .nil, done := [0] }, [⟨1012, { slots := [0, 4, 5, 7, 8, 9, 10] }, (.cons (.sl 103 false) (.cons (.bp 0 0) (.cons (.bp 1 0) (.cons (.sl 56 false) (.cons (.int .i64) (.cons (.int .i64) (.cons (.int .i64) .nil))))))), (.cons (.var 25 (.cons (.int .i64) (.cons (.int .i64) (.cons .str (.cons (.sl 25 false) .nil))))) (.cons (.var 37 (.cons .str (.cons (.int .i64) (.cons (.sl 37 false) .nil)))) .nil)), fun a b => .p1012 a.1 a.2.2.2.1 a.2.2.2.2.1 a.2.2.2.2.2.1 a.2.2.2.2.2.2.1 b.1.1 b.1.2.1 b.1.2.2.1 b.1.2.2.2.1 b.2.1.1 b.2.1.2.1 b.2.1.2.2.1⟩], mkWr [] []⟩
def ul0 : v24 → Option ((Int × Unit) × Unit)
 | .start l0 t1_0 t1_1 t1_2 t1_3 v2_0 v2_1 v2_2 =>
  (um9 (.start t1_0 t1_1 t1_2 t1_3)) >>= fun t1 =>
  if t1.1.1 = true then
   some ((v2_1, ()), ())
  else
   (ud3 (.start l0 t1_0 t1_1 t1_2 t1_3)) >>= fun t2 =>
   (uk9 (.start t2.1.1 v2_0)) >>= fun t3 =>
   ul0 (.p1012 l0 t2.1.1 t3.1.1 (0 : Int) (0 : Int) t1_0 t1_1 t1_2 t1_3 v2_0 v2_1 v2_2)
 | .p1012 l0 all7 at8 n9 k10 C0 C1 C2 C3 D0 D1 D2 =>
  if (decide (k10 < (List.length D2 : Int))) = true then
   (idx all7 at8) >>= fun t1 =>
   (idx t1.Fields k10) >>= fun t2 =>
   (run_z100 (.start l0 t2.Type_.Kind t2.Type_.Value t2.Type_.Name t2.Type_.Parts)) >>= fun t3 =>
   (uo0 (.start t3.1.1)) >>= fun t4 =>
   (idx D2 k10) >>= fun t5 =>
   (ul0 (.start l0 t2.Type_.Kind t2.Type_.Value t2.Type_.Name t2.Type_.Parts t5.Name t5.Number t5.Parts)) >>= fun t6 =>
   ul0 (.p1012 l0 all7 at8 (IntKind.wrap .i64 ((IntKind.wrap .i64 (n9 * t4.1.1)) + t6.1.1)) (IntKind.wrap .i64 (k10 + (1 : Int))) C0 C1 C2 C3 D0 D1 D2)
  else
   (run_z101 (.start l0 C0 C1 C2 C3)) >>= fun t7 =>
   (uo0 (.start t7.1.1)) >>= fun t8 =>
   some ((IntKind.wrap .i64 ((IntKind.wrap .i64 (at8 * t8.1.1)) + n9), ()), ())
 partial_fixpoint
def wl1 : ub3 E := vu4.okc E_ok (run := ul0) (ul0.partial_correctness vu4.M fun run' ih => vu4.mk_ok E_ok [vu4.okc E_ok ih, vH0, vA1, vg4, vH1, uX4, u44] ih)
inductive v25 where
 | start (l0 : (List ua2)) (t1_0 : Int) (t1_1 : Int) (t1_2 : ByteArray) (t1_3 : (List ua3)) (index2 : Int)
 | p248 (l0 : (List ua2)) (index2 : Int) (all7 : (List ua1)) (i8 : Int) (C0 : ByteArray) (C1 : Int)
 | p2036 (l0 : (List ua2)) (index2 : Int) (all7 : (List ua1)) (i8 : Int) (k10 : Int) (C0 : ByteArray) (C1 : Int) (B1 : (List ua4))
def vu5 : Fb E v25 ((ByteArray × (Int × ((List ua4) × Unit))) × Unit) Unit := ⟨39, Tryz.f39, (.cons (.sl 103) (.cons (.agg (.cons (Rd.int .i64).w (.cons (Rd.int .i64).w (.cons Rd.str.w (.cons (.sl 25) .nil))))) (.cons (Rd.int .i64).w .nil))), .nil, fun a b => .start a.1 a.2.1.1 a.2.1.2.1 a.2.1.2.2.1 a.2.1.2.2.2.1 a.2.2.1, { rl := (.cons (.agg (.cons .str (.cons (.int .i64) (.cons (.sl 37 false) .nil)))) .nil), rb := .nil, deep := [(false, 0, 2, 37)], done := [0] }, [⟨248, { slots := [0, 2, 6, 7, 8] }, (.cons (.sl 103 false) (.cons (.int .i64) (.cons (.bp 0 0) (.cons (.sl 56 false) (.cons (.int .i64) .nil))))), (.cons (.var 37 (.cons .str (.cons (.int .i64) (.cons Rd.nl .nil)))) .nil), fun a b => .p248 a.1 a.2.1 a.2.2.2.1 a.2.2.2.2.1 b.1.1 b.1.2.1⟩,
 ⟨2036, { slots := [0, 2, 6, 7, 8, 9, 10] }, (.cons (.sl 103 false) (.cons (.int .i64) (.cons (.bp 0 0) (.cons (.sl 56 false) (.cons (.int .i64) (.cons (Rd.rw 1) (.cons (.int .i64) .nil))))))), (.cons (.var 37 (.cons .str (.cons (.int .i64) (.cons Rd.nl .nil)))) (.cons (.row 37 false) .nil)), fun a b => .p2036 a.1 a.2.1 a.2.2.2.1 a.2.2.2.2.1 a.2.2.2.2.2.2.1 b.1.1 b.1.2.1 b.2.1⟩], mkWr [6, 9, 15, 16, 44, 45, 64, 71, 72, 80, 81, 82] []⟩
def uf9 : v25 → Option (((ByteArray × (Int × ((List ua4) × Unit))) × Unit) × Unit)
 | .start l0 t1_0 t1_1 t1_2 t1_3 index2 =>
  (um9 (.start t1_0 t1_1 t1_2 t1_3)) >>= fun t1 =>
  if t1.1.1 = true then
   some ((((⟨#[]⟩ : ByteArray), (index2, ([], ()))), ()), ())
  else
   (ud3 (.start l0 t1_0 t1_1 t1_2 t1_3)) >>= fun t2 =>
   uf9 (.p248 l0 index2 t2.1.1 (0 : Int) (⟨#[]⟩ : ByteArray) (0 : Int))
 | .p248 l0 index2 all7 i8 C0 C1 =>
  (idx all7 i8) >>= fun t1 =>
  (run_z111 (.start l0 t1.Name t1.Fields)) >>= fun t2 =>
  if (decide (index2 ≥ t2.1.1)) = true then
   (idx all7 i8) >>= fun t3 =>
   (run_z111 (.start l0 t3.Name t3.Fields)) >>= fun t4 =>
   uf9 (.p248 l0 (IntKind.wrap .i64 (index2 - t4.1.1)) all7 (IntKind.wrap .i64 (i8 + (1 : Int))) C0 C1)
  else
   (idx all7 i8) >>= fun t5 =>
   if (u45 (List.length t5.Fields : Int) (List.length t5.Fields : Int) 48) = true then
    uf9 (.p2036 l0 index2 all7 i8 (IntKind.wrap .i64 ((List.length (List.replicate (Int.toNat (List.length t5.Fields : Int)) (⟨(⟨#[]⟩ : ByteArray), (0 : Int), []⟩ : ua4)) : Int) - (1 : Int))) C0 C1 (List.replicate (Int.toNat (List.length t5.Fields : Int)) (⟨(⟨#[]⟩ : ByteArray), (0 : Int), []⟩ : ua4)))
   else none
 | .p2036 l0 index2 all7 i8 k10 C0 C1 B1 =>
  if (decide (k10 ≥ (0 : Int))) = true then
   (idx all7 i8) >>= fun t1 =>
   (idx t1.Fields k10) >>= fun t2 =>
   (ud9 (.start l0 t2.Type_.Kind t2.Type_.Value t2.Type_.Name t2.Type_.Parts)) >>= fun t3 =>
   if (!(t3.1.1 == (0 : Int))) = true then
    (uf9 (.start l0 t2.Type_.Kind t2.Type_.Value t2.Type_.Name t2.Type_.Parts (Int.tmod index2 t3.1.1))) >>= fun t4 =>
    if (decide ((0 : Int) ≤ k10) && decide (k10 < (List.length B1 : Int))) = true then
     (idx B1 k10) >>= fun t5 =>
     if (!(t3.1.1 == (0 : Int))) = true then
      uf9 (.p2036 l0 (IntKind.wrap .i64 (Int.tdiv index2 t3.1.1)) all7 i8 (IntKind.wrap .i64 (k10 - (1 : Int))) C0 C1 (List.set B1 (Int.toNat k10) (⟨t4.1.1.1, t4.1.1.2.1, t4.1.1.2.2.1⟩ : ua4)))
     else none
    else none
   else none
  else
   (idx all7 i8) >>= fun t6 =>
   some (((t6.Name, ((0 : Int), (B1, ()))), ()), ())
 partial_fixpoint
def wl2 : ub3 E := vu5.okc E_ok (run := uf9) (uf9.partial_correctness vu5.M fun run' ih => vu5.mk_ok E_ok [vu5.okc E_ok ih, vv2, vH2, uX4, u44] ih)
inductive v26 where
 | start (l0 : (List ua2)) (t1_0 : Int) (t1_1 : Int) (t1_2 : ByteArray) (t1_3 : (List ua3)) (index2 : Int)
 | p248 (l0 : (List ua2)) (index2 : Int) (all7 : (List ua1)) (i8 : Int) (C0 : ByteArray) (C1 : Int)
 | p2036 (l0 : (List ua2)) (index2 : Int) (all7 : (List ua1)) (i8 : Int) (k10 : Int) (C0 : ByteArray) (C1 : Int) (B1 : (List ua4))
def vF9 : Fb E v26 ((ByteArray × (Int × ((List ua4) × Unit))) × Unit) Unit := ⟨39, Tryz.f39, (.cons (.sl 103) (.cons (.agg (.cons (Rd.int .i64).w (.cons (Rd.int .i64).w (.cons Rd.str.w (.cons (.sl 25) .nil))))) (.cons (Rd.int .i64).w .nil))), .nil, fun a b => .start a.1 a.2.1.1 a.2.1.2.1 a.2.1.2.2.1 a.2.1.2.2.2.1 a.2.2.1, { rl := (.cons (.agg (.cons .str (.cons (.int .i64) (.cons (.sl 37 false) .nil)))) .nil), rb := .nil, deep := [(false, 0, 2, 37)], done := [0] }, [⟨248, { slots := [0, 2, 6, 7, 8] }, (.cons (.sl 103 false) (.cons (.int .i64) (.cons (.bp 0 0) (.cons (.sl 56 false) (.cons (.int .i64) .nil))))), (.cons (.var 37 (.cons .str (.cons (.int .i64) (.cons Rd.nl .nil)))) .nil), fun a b => .p248 a.1 a.2.1 a.2.2.2.1 a.2.2.2.2.1 b.1.1 b.1.2.1⟩,
 ⟨2036, { slots := [0, 2, 6, 7, 8, 9, 10] }, (.cons (.sl 103 false) (.cons (.int .i64) (.cons (.bp 0 0) (.cons (.sl 56 false) (.cons (.int .i64) (.cons (Rd.rw 1) (.cons (.int .i64) .nil))))))), (.cons (.var 37 (.cons .str (.cons (.int .i64) (.cons Rd.nl .nil)))) (.cons (.row 37 false) .nil)), fun a b => .p2036 a.1 a.2.1 a.2.2.2.1 a.2.2.2.2.1 a.2.2.2.2.2.2.1 b.1.1 b.1.2.1 b.2.1⟩], mkWr [6, 9, 15, 16, 44, 45, 64, 71, 72, 80, 81, 82] []⟩
def uh0 : v26 → Option (((ByteArray × (Int × ((List ua4) × Unit))) × Unit) × Unit)
 | .start l0 t1_0 t1_1 t1_2 t1_3 index2 =>
  (um9 (.start t1_0 t1_1 t1_2 t1_3)) >>= fun t1 =>
  if t1.1.1 = true then
   some ((((⟨#[]⟩ : ByteArray), (index2, ([], ()))), ()), ())
  else
   (ud3 (.start l0 t1_0 t1_1 t1_2 t1_3)) >>= fun t2 =>
   uh0 (.p248 l0 index2 t2.1.1 (0 : Int) (⟨#[]⟩ : ByteArray) (0 : Int))
 | .p248 l0 index2 all7 i8 C0 C1 =>
  (idx all7 i8) >>= fun t1 =>
  (run_z111 (.start l0 t1.Name t1.Fields)) >>= fun t2 =>
  if (decide (index2 ≥ t2.1.1)) = true then
   (idx all7 i8) >>= fun t3 =>
   (run_z111 (.start l0 t3.Name t3.Fields)) >>= fun t4 =>
   uh0 (.p248 l0 (IntKind.wrap .i64 (index2 - t4.1.1)) all7 (IntKind.wrap .i64 (i8 + (1 : Int))) C0 C1)
  else
   (idx all7 i8) >>= fun t5 =>
   if (u45 (List.length t5.Fields : Int) (List.length t5.Fields : Int) 48) = true then
    uh0 (.p2036 l0 index2 all7 i8 (IntKind.wrap .i64 ((List.length (List.replicate (Int.toNat (List.length t5.Fields : Int)) (⟨(⟨#[]⟩ : ByteArray), (0 : Int), []⟩ : ua4)) : Int) - (1 : Int))) C0 C1 (List.replicate (Int.toNat (List.length t5.Fields : Int)) (⟨(⟨#[]⟩ : ByteArray), (0 : Int), []⟩ : ua4)))
   else none
 | .p2036 l0 index2 all7 i8 k10 C0 C1 B1 =>
  if (decide (k10 ≥ (0 : Int))) = true then
   (idx all7 i8) >>= fun t1 =>
   (idx t1.Fields k10) >>= fun t2 =>
   (ud9 (.start l0 t2.Type_.Kind t2.Type_.Value t2.Type_.Name t2.Type_.Parts)) >>= fun t3 =>
   if (!(t3.1.1 == (0 : Int))) = true then
    (uf9 (.start l0 t2.Type_.Kind t2.Type_.Value t2.Type_.Name t2.Type_.Parts (Int.tmod index2 t3.1.1))) >>= fun t4 =>
    if (decide ((0 : Int) ≤ k10) && decide (k10 < (List.length B1 : Int))) = true then
     (idx B1 k10) >>= fun t5 =>
     if (!(t3.1.1 == (0 : Int))) = true then
      uh0 (.p2036 l0 (IntKind.wrap .i64 (Int.tdiv index2 t3.1.1)) all7 i8 (IntKind.wrap .i64 (k10 - (1 : Int))) C0 C1 (List.set B1 (Int.toNat k10) (⟨t4.1.1.1, t4.1.1.2.1, t4.1.1.2.2.1⟩ : ua4)))
     else none
    else none
   else none
  else
   (idx all7 i8) >>= fun t6 =>
   some (((t6.Name, ((0 : Int), (B1, ()))), ()), ())
 partial_fixpoint
def wl3 : ub3 E := vF9.okc E_ok (run := uh0) (uh0.partial_correctness vF9.M fun run' ih => vF9.mk_ok E_ok [wl2, vv2, vH2, uX4, u44] ih)
inductive v27 where
 | start (l0 : (List ua2)) (t1_0 : Int) (t1_1 : Int) (t1_2 : ByteArray) (t1_3 : (List ua3)) (bits2 : Int)
 | p127 (l0 : (List ua2)) (all8 : (List ua1)) (at10 : Int) (rest11 : Int) (C0 : ByteArray) (C1 : Int)
 | p4084 (l0 : (List ua2)) (all8 : (List ua1)) (at10 : Int) (rest11 : Int) (k13 : Int) (C0 : ByteArray) (C1 : Int) (B1 : (List ua4))
def vu6 : Fb E v27 ((ByteArray × (Int × ((List ua4) × Unit))) × (Bool × Unit)) Unit := ⟨41, Tryz.f41, (.cons (.sl 103) (.cons (.agg (.cons (Rd.int .i64).w (.cons (Rd.int .i64).w (.cons Rd.str.w (.cons (.sl 25) .nil))))) (.cons (Rd.int .i64).w .nil))), .nil, fun a b => .start a.1 a.2.1.1 a.2.1.2.1 a.2.1.2.2.1 a.2.1.2.2.2.1 a.2.2.1, { rl := (.cons (.agg (.cons .str (.cons (.int .i64) (.cons (.sl 37 false) .nil)))) (.cons .bool .nil)), rb := .nil, deep := [(false, 0, 2, 37)], done := [0] }, [⟨127, { slots := [0, 6, 8, 10, 11] }, (.cons (.sl 103 false) (.cons (.bp 0 0) (.cons (.sl 56 false) (.cons (.int .i64) (.cons (.int .i64) .nil))))), (.cons (.var 37 (.cons .str (.cons (.int .i64) (.cons Rd.nl .nil)))) .nil), fun a b => .p127 a.1 a.2.2.1 a.2.2.2.1 a.2.2.2.2.1 b.1.1 b.1.2.1⟩,
 ⟨4084, { slots := [0, 6, 8, 10, 11, 12, 13] }, (.cons (.sl 103 false) (.cons (.bp 0 0) (.cons (.sl 56 false) (.cons (.int .i64) (.cons (.int .i64) (.cons (Rd.rw 1) (.cons (.int .i64) .nil))))))), (.cons (.var 37 (.cons .str (.cons (.int .i64) (.cons Rd.nl .nil)))) (.cons (.row 37 false) .nil)), fun a b => .p4084 a.1 a.2.2.1 a.2.2.2.1 a.2.2.2.2.1 a.2.2.2.2.2.2.1 b.1.1 b.1.2.1 b.2.1⟩], mkWr [6, 12, 16, 20, 21, 50, 57, 58, 78, 84, 85, 89, 90, 92, 96, 101, 102, 103] []⟩
def ui5 : v27 → Option (((ByteArray × (Int × ((List ua4) × Unit))) × (Bool × Unit)) × Unit)
 | .start l0 t1_0 t1_1 t1_2 t1_3 bits2 =>
  (um9 (.start t1_0 t1_1 t1_2 t1_3)) >>= fun t1 =>
  if t1.1.1 = true then
   some ((((⟨#[]⟩ : ByteArray), (bits2, ([], ()))), (true, ())), ())
  else
   (ud3 (.start l0 t1_0 t1_1 t1_2 t1_3)) >>= fun t2 =>
   (run_z101 (.start l0 t1_0 t1_1 t1_2 t1_3)) >>= fun t3 =>
   (uo0 (.start t3.1.1)) >>= fun t4 =>
   if (!(t4.1.1 == (0 : Int))) = true then
    if (!(t4.1.1 == (0 : Int))) = true then
     if (decide ((IntKind.wrap .i64 (Int.tdiv bits2 t4.1.1)) ≥ (List.length t2.1.1 : Int))) = true then
      some ((((⟨#[]⟩ : ByteArray), ((0 : Int), ([], ()))), (false, ())), ())
     else
      (idx t2.1.1 (IntKind.wrap .i64 (Int.tdiv bits2 t4.1.1))) >>= fun t5 =>
      (up6 (.start l0 t5.Name t5.Fields)) >>= fun t6 =>
      (uo0 (.start t6.1.1)) >>= fun t7 =>
      if (decide ((Int.tmod bits2 t4.1.1) ≥ t7.1.1)) = true then
       some ((((⟨#[]⟩ : ByteArray), ((0 : Int), ([], ()))), (false, ())), ())
      else
       ui5 (.p127 l0 t2.1.1 (IntKind.wrap .i64 (Int.tdiv bits2 t4.1.1)) (Int.tmod bits2 t4.1.1) (⟨#[]⟩ : ByteArray) (0 : Int))
    else none
   else none
 | .p127 l0 all8 at10 rest11 C0 C1 =>
  (idx all8 at10) >>= fun t1 =>
  if (u45 (List.length t1.Fields : Int) (List.length t1.Fields : Int) 48) = true then
   ui5 (.p4084 l0 all8 at10 rest11 (IntKind.wrap .i64 ((List.length (List.replicate (Int.toNat (List.length t1.Fields : Int)) (⟨(⟨#[]⟩ : ByteArray), (0 : Int), []⟩ : ua4)) : Int) - (1 : Int))) C0 C1 (List.replicate (Int.toNat (List.length t1.Fields : Int)) (⟨(⟨#[]⟩ : ByteArray), (0 : Int), []⟩ : ua4)))
  else none
 | .p4084 l0 all8 at10 rest11 k13 C0 C1 B1 =>
  if (decide (k13 ≥ (0 : Int))) = true then
   (idx all8 at10) >>= fun t1 =>
   (idx t1.Fields k13) >>= fun t2 =>
   (run_z100 (.start l0 t2.Type_.Kind t2.Type_.Value t2.Type_.Name t2.Type_.Parts)) >>= fun t3 =>
   (uo0 (.start t3.1.1)) >>= fun t4 =>
   if (!(t4.1.1 == (0 : Int))) = true then
    (ui5 (.start l0 t2.Type_.Kind t2.Type_.Value t2.Type_.Name t2.Type_.Parts (Int.tmod rest11 t4.1.1))) >>= fun t5 =>
    if (!t5.1.2.1) = true then
     some ((((⟨#[]⟩ : ByteArray), ((0 : Int), ([], ()))), (false, ())), ())
    else
     if (!(t4.1.1 == (0 : Int))) = true then
      if (decide ((0 : Int) ≤ k13) && decide (k13 < (List.length B1 : Int))) = true then
       (idx B1 k13) >>= fun t6 =>
       ui5 (.p4084 l0 all8 at10 (IntKind.wrap .i64 (Int.tdiv rest11 t4.1.1)) (IntKind.wrap .i64 (k13 - (1 : Int))) C0 C1 (List.set B1 (Int.toNat k13) (⟨t5.1.1.1, t5.1.1.2.1, t5.1.1.2.2.1⟩ : ua4)))
      else none
     else none
   else none
  else
   (idx all8 at10) >>= fun t7 =>
   some (((t7.Name, ((0 : Int), (B1, ()))), (true, ())), ())
 partial_fixpoint
def wl4 : ub3 E := vu6.okc E_ok (run := ui5) (ui5.partial_correctness vu6.M fun run' ih => vu6.mk_ok E_ok [vu6.okc E_ok ih, vg4, wn2, vA1, vH0, uX4, u44] ih)
inductive v28 where
 | start (l0 : (List ua2)) (t1_0 : Int) (t1_1 : Int) (t1_2 : ByteArray) (t1_3 : (List ua3)) (bits2 : Int)
 | p127 (l0 : (List ua2)) (all8 : (List ua1)) (at10 : Int) (rest11 : Int) (C0 : ByteArray) (C1 : Int)
 | p4084 (l0 : (List ua2)) (all8 : (List ua1)) (at10 : Int) (rest11 : Int) (k13 : Int) (C0 : ByteArray) (C1 : Int) (B1 : (List ua4))
def vG0 : Fb E v28 ((ByteArray × (Int × ((List ua4) × Unit))) × (Bool × Unit)) Unit := ⟨41, Tryz.f41, (.cons (.sl 103) (.cons (.agg (.cons (Rd.int .i64).w (.cons (Rd.int .i64).w (.cons Rd.str.w (.cons (.sl 25) .nil))))) (.cons (Rd.int .i64).w .nil))), .nil, fun a b => .start a.1 a.2.1.1 a.2.1.2.1 a.2.1.2.2.1 a.2.1.2.2.2.1 a.2.2.1, { rl := (.cons (.agg (.cons .str (.cons (.int .i64) (.cons (.sl 37 false) .nil)))) (.cons .bool .nil)), rb := .nil, deep := [(false, 0, 2, 37)], done := [0, 1] }, [⟨127, { slots := [0, 6, 8, 10, 11] }, (.cons (.sl 103 false) (.cons (.bp 0 0) (.cons (.sl 56 false) (.cons (.int .i64) (.cons (.int .i64) .nil))))), (.cons (.var 37 (.cons .str (.cons (.int .i64) (.cons Rd.nl .nil)))) .nil), fun a b => .p127 a.1 a.2.2.1 a.2.2.2.1 a.2.2.2.2.1 b.1.1 b.1.2.1⟩,
 ⟨4084, { slots := [0, 6, 8, 10, 11, 12, 13] }, (.cons (.sl 103 false) (.cons (.bp 0 0) (.cons (.sl 56 false) (.cons (.int .i64) (.cons (.int .i64) (.cons (Rd.rw 1) (.cons (.int .i64) .nil))))))), (.cons (.var 37 (.cons .str (.cons (.int .i64) (.cons Rd.nl .nil)))) (.cons (.row 37 false) .nil)), fun a b => .p4084 a.1 a.2.2.1 a.2.2.2.1 a.2.2.2.2.1 a.2.2.2.2.2.2.1 b.1.1 b.1.2.1 b.2.1⟩], mkWr [6, 12, 16, 20, 21, 50, 57, 58, 78, 84, 85, 89, 90, 92, 96, 101, 102, 103] []⟩
def uj8 : v28 → Option (((ByteArray × (Int × ((List ua4) × Unit))) × (Bool × Unit)) × Unit)
 | .start l0 t1_0 t1_1 t1_2 t1_3 bits2 =>
  (um9 (.start t1_0 t1_1 t1_2 t1_3)) >>= fun t1 =>
  if t1.1.1 = true then
   some ((((⟨#[]⟩ : ByteArray), (bits2, ([], ()))), (true, ())), ())
  else
   (ud3 (.start l0 t1_0 t1_1 t1_2 t1_3)) >>= fun t2 =>
   (run_z101 (.start l0 t1_0 t1_1 t1_2 t1_3)) >>= fun t3 =>
   (uo0 (.start t3.1.1)) >>= fun t4 =>
   if (!(t4.1.1 == (0 : Int))) = true then
    if (!(t4.1.1 == (0 : Int))) = true then
     if (decide ((IntKind.wrap .i64 (Int.tdiv bits2 t4.1.1)) ≥ (List.length t2.1.1 : Int))) = true then
      some ((((⟨#[]⟩ : ByteArray), ((0 : Int), ([], ()))), (false, ())), ())
     else
      (idx t2.1.1 (IntKind.wrap .i64 (Int.tdiv bits2 t4.1.1))) >>= fun t5 =>
      (up6 (.start l0 t5.Name t5.Fields)) >>= fun t6 =>
      (uo0 (.start t6.1.1)) >>= fun t7 =>
      if (decide ((Int.tmod bits2 t4.1.1) ≥ t7.1.1)) = true then
       some ((((⟨#[]⟩ : ByteArray), ((0 : Int), ([], ()))), (false, ())), ())
      else
       uj8 (.p127 l0 t2.1.1 (IntKind.wrap .i64 (Int.tdiv bits2 t4.1.1)) (Int.tmod bits2 t4.1.1) (⟨#[]⟩ : ByteArray) (0 : Int))
    else none
   else none
 | .p127 l0 all8 at10 rest11 C0 C1 =>
  (idx all8 at10) >>= fun t1 =>
  if (u45 (List.length t1.Fields : Int) (List.length t1.Fields : Int) 48) = true then
   uj8 (.p4084 l0 all8 at10 rest11 (IntKind.wrap .i64 ((List.length (List.replicate (Int.toNat (List.length t1.Fields : Int)) (⟨(⟨#[]⟩ : ByteArray), (0 : Int), []⟩ : ua4)) : Int) - (1 : Int))) C0 C1 (List.replicate (Int.toNat (List.length t1.Fields : Int)) (⟨(⟨#[]⟩ : ByteArray), (0 : Int), []⟩ : ua4)))
  else none
 | .p4084 l0 all8 at10 rest11 k13 C0 C1 B1 =>
  if (decide (k13 ≥ (0 : Int))) = true then
   (idx all8 at10) >>= fun t1 =>
   (idx t1.Fields k13) >>= fun t2 =>
   (run_z100 (.start l0 t2.Type_.Kind t2.Type_.Value t2.Type_.Name t2.Type_.Parts)) >>= fun t3 =>
   (uo0 (.start t3.1.1)) >>= fun t4 =>
   if (!(t4.1.1 == (0 : Int))) = true then
    (ui5 (.start l0 t2.Type_.Kind t2.Type_.Value t2.Type_.Name t2.Type_.Parts (Int.tmod rest11 t4.1.1))) >>= fun t5 =>
    if (!t5.1.2.1) = true then
     some ((((⟨#[]⟩ : ByteArray), ((0 : Int), ([], ()))), (false, ())), ())
    else
     if (!(t4.1.1 == (0 : Int))) = true then
      if (decide ((0 : Int) ≤ k13) && decide (k13 < (List.length B1 : Int))) = true then
       (idx B1 k13) >>= fun t6 =>
       uj8 (.p4084 l0 all8 at10 (IntKind.wrap .i64 (Int.tdiv rest11 t4.1.1)) (IntKind.wrap .i64 (k13 - (1 : Int))) C0 C1 (List.set B1 (Int.toNat k13) (⟨t5.1.1.1, t5.1.1.2.1, t5.1.1.2.2.1⟩ : ua4)))
      else none
     else none
   else none
  else
   (idx all8 at10) >>= fun t7 =>
   some (((t7.Name, ((0 : Int), (B1, ()))), (true, ())), ())
 partial_fixpoint
def wl5 : ub3 E := vG0.okc E_ok (run := uj8) (uj8.partial_correctness vG0.M fun run' ih => vG0.mk_ok E_ok [wl4, vg4, wn2, vA1, vH0, uX4, u44] ih)
inductive v29 where
 | start (l0 : (List ua2)) (t1_0 : Int) (t1_1 : Int) (t1_2 : ByteArray) (t1_3 : (List ua3)) (x2_0 : ByteArray) (x2_1 : Int) (x2_2 : (List ua4)) (x2_3 : Int)
 | p2047 (l0 : (List ua2)) (h13 : Int) (i15 : Int) (C0 : Int) (C1 : Int) (C2 : ByteArray) (C3 : (List ua3)) (D0 : ByteArray) (D1 : Int) (D2 : (List ua4)) (D3 : Int) (G0 : ByteArray) (G1 : Int) (G2 : (List ua4)) (H0 : ByteArray) (H1 : Int) (H2 : (List ua4))
 | p4095 (l0 : (List ua2)) (i15 : Int) (C0 : Int) (C1 : Int) (C2 : ByteArray) (C3 : (List ua3)) (D0 : ByteArray) (D1 : Int) (D2 : (List ua4)) (D3 : Int) (G0 : ByteArray) (G1 : Int) (G2 : (List ua4))
def vG1 : Fb E v29 (Bool × Unit) Unit := ⟨5, Tryz.f5, (.cons (.sl 103) (.cons (.agg (.cons (Rd.int .i64).w (.cons (Rd.int .i64).w (.cons Rd.str.w (.cons (.sl 25) .nil))))) (.cons (.agg (.cons Rd.str.w (.cons (Rd.int .i64).w (.cons (.sl 37) (.cons (Rd.int .i64).w .nil))))) .nil))), .nil, fun a b => .start a.1 a.2.1.1 a.2.1.2.1 a.2.1.2.2.1 a.2.1.2.2.2.1 a.2.2.1.1 a.2.2.1.2.1 a.2.2.1.2.2.1 a.2.2.1.2.2.2.1, { rl := (.cons .bool .nil), rb := .nil, done := [0] }, [⟨2047, { slots := [0, 4, 5, 12, 13, 14, 15] }, (.cons (.sl 103 false) (.cons (.bp 0 0) (.cons (.bp 1 0) (.cons (.bp 2 0) (.cons (.int .i64) (.cons (.bp 3 0) (.cons (.int .i64) .nil))))))), (.cons (.var 25 (.cons (.int .i64) (.cons (.int .i64) (.cons .str (.cons (.sl 25 false) .nil))))) (.cons (.var 62 (.cons .str (.cons (.int .i64) (.cons (.sl 37 false) (.cons (.int .i64) .nil))))) (.cons (.var 37 (.cons .str (.cons (.int .i64) (.cons (.sl 37 false) .nil)))) (.cons (.var 37 (.cons .str (.cons (.int .i64) (.cons (.sl 37 false) .nil)))) .nil)))), fun a b => .p2047 a.1 a.2.2.2.2.1 a.2.2.2.2.2.2.1 b.1.1 b.1.2.1 b.1.2.2.1 b.1.2.2.2.1 b.2.1.1 b.2.1.2.1 b.2.1.2.2.1 b.2.1.2.2.2.1 b.2.2.1.1 b.2.2.1.2.1 b.2.2.1.2.2.1 b.2.2.2.1.1 b.2.2.2.1.2.1 b.2.2.2.1.2.2.1⟩,
 ⟨4095, { slots := [0, 4, 5, 14, 15] }, (.cons (.sl 103 false) (.cons (.bp 0 0) (.cons (.bp 1 0) (.cons (.bp 2 0) (.cons (.int .i64) .nil))))), (.cons (.var 25 (.cons (.int .i64) (.cons (.int .i64) (.cons .str (.cons (.sl 25 false) .nil))))) (.cons (.var 62 (.cons .str (.cons (.int .i64) (.cons (.sl 37 false) (.cons (.int .i64) .nil))))) (.cons (.var 37 (.cons .str (.cons (.int .i64) (.cons (.sl 37 false) .nil)))) .nil))), fun a b => .p4095 a.1 a.2.2.2.2.1 b.1.1 b.1.2.1 b.1.2.2.1 b.1.2.2.2.1 b.2.1.1 b.2.1.2.1 b.2.1.2.2.1 b.2.1.2.2.2.1 b.2.2.1.1 b.2.2.1.2.1 b.2.2.1.2.2.1⟩], mkWr [] []⟩
def um1 : v29 → Option ((Bool × Unit) × Unit)
 | .start l0 t1_0 t1_1 t1_2 t1_3 x2_0 x2_1 x2_2 x2_3 =>
  (u19 .start) >>= fun t1 =>
  if (!t1.1.1) = true then
   some ((false, ()), ())
  else
   (ue8 (.start l0)) >>= fun t2 =>
   if (!t2.1.1) = true then
    some ((true, ()), ())
   else
    (uh2 (.start l0)) >>= fun t3 =>
    (ve2 (.start t3.2.1 t1_0 t1_1 t1_2 t1_3 x2_0 x2_1 x2_2)) >>= fun t4 =>
    (uh2 (.start l0)) >>= fun t5 =>
    (ve3 (.start t5.2.1 t1_0 t1_1 t1_2 t1_3 x2_0 x2_1 x2_2)) >>= fun t6 =>
    (uh2 (.start l0)) >>= fun t7 =>
    (uI5 (.start t7.2.1 t1_0 t1_1 t1_2 t1_3 x2_0 x2_1 x2_2)) >>= fun t8 =>
    (uh2 (.start l0)) >>= fun t9 =>
    (uI6 (.start t9.2.1 t1_0 t1_1 t1_2 t1_3 x2_3)) >>= fun t10 =>
    (uh2 (.start l0)) >>= fun t11 =>
    (uC8 (.start t11.2.1 t1_0 t1_1 t1_2 t1_3 x2_3)) >>= fun t12 =>
    (uV4 (.start l0 t1_0 t1_1 t1_2 t1_3)) >>= fun t13 =>
    if (t13.1.1 != (0 : Int)) = true then
     if (t4.1.1 == t13.1.1) = true then
      if (t6.1.2.1 == t13.1.1) = true then
       if (t8.1.2.1 == t13.1.1) = true then
        if (t10.1.2.1 == t13.1.1) = true then
         if (t12.1.2.1 == t13.1.1) = true then
          if (t6.1.1 == (0 : Int)) = true then
           if (t8.1.1 == (0 : Int)) = true then
            (uf1 (.start t10.1.1.1 t10.1.1.2.1 t10.1.1.2.2.1 (⟨#[]⟩ : ByteArray) (0 : Int) ([]))) >>= fun t14 =>
            if t14.1.1 = true then
             (uf1 (.start t12.1.1.1 t12.1.1.2.1 t12.1.1.2.2.1 (⟨#[]⟩ : ByteArray) (0 : Int) ([]))) >>= fun t15 =>
             some ((t15.1.1, ()), ())
            else
             some ((false, ()), ())
           else
            some ((false, ()), ())
          else
           some ((false, ()), ())
         else
          some ((false, ()), ())
        else
         some ((false, ()), ())
       else
        some ((false, ()), ())
      else
       some ((false, ()), ())
     else
      some ((false, ()), ())
    else
     (uV6 (.start l0 t1_0 t1_1 t1_2 t1_3 x2_0 x2_1 x2_2)) >>= fun t16 =>
     if (t16.1.1 != (0 : Int)) = true then
      if (t4.1.1 != t16.1.1) = true then
       some ((false, ()), ())
      else
       if (t6.1.2.1 != t16.1.1) = true then
        some ((false, ()), ())
       else
        if (t8.1.2.1 != t16.1.1) = true then
         some ((false, ()), ())
        else
         if (t6.1.1 != (0 : Int)) = true then
          some ((false, ()), ())
         else
          if (t8.1.1 != (0 : Int)) = true then
           some ((false, ()), ())
          else
           um1 (.p2047 l0 t10.1.2.1 t12.1.2.1 t1_0 t1_1 t1_2 t1_3 x2_0 x2_1 x2_2 x2_3 t10.1.1.1 t10.1.1.2.1 t10.1.1.2.2.1 t12.1.1.1 t12.1.1.2.1 t12.1.1.2.2.1)
     else
      if (t4.1.1 != (0 : Int)) = true then
       some ((false, ()), ())
      else
       if (t6.1.2.1 != (0 : Int)) = true then
        some ((false, ()), ())
       else
        (uf8 (.start l0 t1_0 t1_1 t1_2 t1_3 x2_0 x2_1 x2_2)) >>= fun t17 =>
        if (t6.1.1 != t17.1.1) = true then
         some ((false, ()), ())
        else
         if (t8.1.2.1 != (0 : Int)) = true then
          some ((false, ()), ())
         else
          (ul0 (.start l0 t1_0 t1_1 t1_2 t1_3 x2_0 x2_1 x2_2)) >>= fun t18 =>
          if (t8.1.1 != t18.1.1) = true then
           some ((false, ()), ())
          else
           um1 (.p2047 l0 t10.1.2.1 t12.1.2.1 t1_0 t1_1 t1_2 t1_3 x2_0 x2_1 x2_2 x2_3 t10.1.1.1 t10.1.1.2.1 t10.1.1.2.2.1 t12.1.1.1 t12.1.1.2.1 t12.1.1.2.2.1)
 | .p2047 l0 h13 i15 C0 C1 C2 C3 D0 D1 D2 D3 G0 G1 G2 H0 H1 H2 =>
  (ud9 (.start l0 C0 C1 C2 C3)) >>= fun t1 =>
  (uD0 (.start D3 (0 : Int) (IntKind.wrap .i64 (t1.1.1 - (1 : Int))))) >>= fun t2 =>
  if (!t2.1.1) = true then
   if (h13 != (6 : Int)) = true then
    some ((false, ()), ())
   else
    (uf1 (.start G0 G1 G2 (⟨#[]⟩ : ByteArray) (0 : Int) ([]))) >>= fun t3 =>
    if (!t3.1.1) = true then
     some ((false, ()), ())
    else
     um1 (.p4095 l0 i15 C0 C1 C2 C3 D0 D1 D2 D3 H0 H1 H2)
  else
   if (h13 != (0 : Int)) = true then
    some ((false, ()), ())
   else
    (uh0 (.start l0 C0 C1 C2 C3 D3)) >>= fun t4 =>
    (uf1 (.start G0 G1 G2 t4.1.1.1 t4.1.1.2.1 t4.1.1.2.2.1)) >>= fun t5 =>
    if (!t5.1.1) = true then
     some ((false, ()), ())
    else
     um1 (.p4095 l0 i15 C0 C1 C2 C3 D0 D1 D2 D3 H0 H1 H2)
 | .p4095 l0 i15 C0 C1 C2 C3 D0 D1 D2 D3 G0 G1 G2 =>
  (run_z100 (.start l0 C0 C1 C2 C3)) >>= fun t1 =>
  (uM9 (.start D3 t1.1.1)) >>= fun t2 =>
  if (!t2.1.1) = true then
   if (i15 == (2 : Int)) = true then
    (uf1 (.start G0 G1 G2 (⟨#[]⟩ : ByteArray) (0 : Int) ([]))) >>= fun t3 =>
    some ((t3.1.1, ()), ())
   else
    some ((false, ()), ())
  else
   (uj8 (.start l0 C0 C1 C2 C3 D3)) >>= fun t4 =>
   if (!t4.1.2.1) = true then
    if (i15 == (3 : Int)) = true then
     (uf1 (.start G0 G1 G2 (⟨#[]⟩ : ByteArray) (0 : Int) ([]))) >>= fun t5 =>
     some ((t5.1.1, ()), ())
    else
     some ((false, ()), ())
   else
    if (i15 == (0 : Int)) = true then
     (uf1 (.start G0 G1 G2 t4.1.1.1 t4.1.1.2.1 t4.1.1.2.2.1)) >>= fun t6 =>
     some ((t6.1.1, ()), ())
    else
     some ((false, ()), ())
 partial_fixpoint
def vH3 : ub3 E := vG1.okc E_ok (run := um1) (um1.partial_correctness vG1.M fun run' ih => vG1.mk_ok E_ok [wl5, v30, vg4, wl3, vW1, vv2, wl1, wl0, wk9, wm6, wk5, wm3, wm5, wm2, wv9, wv7, wv6, wv3, wv1] ih)
end
end Go.Proofs.YtaennkkcnhfglaaGreatDoor.Ev.F
