/- A part of the proof. -/
import Derived.Test.YtjededkgblbamaaGreatDoorIF1
set_option linter.unusedVariables false
set_option maxRecDepth 100000
namespace Go.Proofs.YtjededkgblbamaaGreatDoor.Ev.F
open Go.Proofs Go.Proofs.YtjededkgblbamaaGreatDoor.Ev
noncomputable section
inductive wD8 where
 | start (p0_0 : Int) (p0_1 : Int) (p0_2 : Int) (p0_3 : Int) (p0_4 : Int) (p0_5 : Int) (p0_6 : Int) (p0_7 : Int) (p0_8 : (List ua0)) (p0_9 : (List ua0)) (p0_10 : Int) (p0_11 : Int) (B0 : ByteArray) (B1 : (List ua1)) (B2 : (List ua2)) (B3 : (List ua5))
 | p4084 (s90 : Int) (B0 : ByteArray) (D0 : Int) (D1 : Int) (D2 : Int) (D3 : Int) (D4 : Int) (D5 : Int) (D6 : Int) (D7 : Int) (D8 : (List ua0)) (D9 : (List ua0)) (D10 : Int) (D11 : Int) (G0 : Int) (G1 : Int) (H0 : Int) (H1 : Int) (J0 : Int) (J1 : Int) (K0 : Int) (K1 : Int) (L0 : Int) (L1 : Int) (B7 : (List (Int × ua0))) (N0 : Int) (N1 : Int) (Q0 : Int) (Q1 : Int) (B10 : (List ua1)) (B11 : (List ua2)) (B12 : (List ua5))
 | p262132 (s176 : Int) (s177 : Int) (B0 : ByteArray) (D0 : Int) (D1 : Int) (D2 : Int) (D3 : Int) (D4 : Int) (D5 : Int) (D6 : Int) (D7 : Int) (D8 : (List ua0)) (D9 : (List ua0)) (D10 : Int) (D11 : Int) (G0 : Int) (G1 : Int) (H0 : Int) (H1 : Int) (J0 : Int) (J1 : Int) (K0 : Int) (K1 : Int) (L0 : Int) (L1 : Int) (M0 : Int) (M1 : Int) (B8 : (List ub4)) (B9 : (List ua1)) (B10 : (List ua2)) (B11 : (List ua5))
 | p1048564 (s203 : Int) (s204 : Int) (B0 : ByteArray) (D0 : Int) (D1 : Int) (D2 : Int) (D3 : Int) (D4 : Int) (D5 : Int) (D6 : Int) (D7 : Int) (D8 : (List ua0)) (D9 : (List ua0)) (D10 : Int) (D11 : Int) (G0 : Int) (G1 : Int) (H0 : Int) (H1 : Int) (B4 : (List ub4)) (K0 : Int) (K1 : Int) (B6 : (List ua1)) (B7 : (List ua2)) (B8 : (List ua5))
def uX2 : wD8 → List Bool
 | .start .. => []
 | .p4084 .. => [false, false, true, false, true, true, true, true, true, true, true]
 | .p262132 .. => [false, false, true, false, true, true, true, true, true, true, true, true, true, true, true, true, true]
 | .p1048564 .. => [false, false, true, false, true, true, true, true, true, true, true, true, true, true, true, true, true, true, true]
def wM7 : wD8 → St E.S
 | .start p0_0 p0_1 p0_2 p0_3 p0_4 p0_5 p0_6 p0_7 p0_8 p0_9 p0_10 p0_11 B0 B1 B2 B3 => st0 230 [.agg [.bp 0 0, .v (.int .i64 p0_0), .v (.int .i64 p0_1), .v (.int .i64 p0_2), .v (.int .i64 p0_3), .v (.int .i64 p0_4), .v (.int .i64 p0_5), .v (.int .i64 p0_6), .v (.int .i64 p0_7), .sl 133 p0_8 false, .sl 133 p0_9 false, .v (.int .i64 p0_10), .v (.int .i64 p0_11)]] [.var 75 [.v (.string B0), .nl, .rw 1, .rw 2, .rw 3, .nl, .nl], .row 82 B1 true, .row 208 B2 true, .row 85 B3 true]
 | .p4084 s90 B0 D0 D1 D2 D3 D4 D5 D6 D7 D8 D9 D10 D11 G0 G1 H0 H1 J0 J1 K0 K1 L0 L1 B7 N0 N1 Q0 Q1 B10 B11 B12 => mkSt 230 [1, 2, 3, 4, 6, 8, 9, 10, 11, 90] [.bp 1 0, .bp 2 0, .bp 3 0, .bp 4 0, .bp 5 0, .bp 6 0, .rw 7, .bp 8 0, .bp 9 0, .v (.int .i64 s90)] [.var 75 [.v (.string B0), .nl, .rw 10, .rw 11, .rw 12, .nl, .nl], .var 177 [.bp 0 0, .v (.int .i64 D0), .v (.int .i64 D1), .v (.int .i64 D2), .v (.int .i64 D3), .v (.int .i64 D4), .v (.int .i64 D5), .v (.int .i64 D6), .v (.int .i64 D7), .sl 133 D8 false, .sl 133 D9 false, .v (.int .i64 D10), .v (.int .i64 D11)], .var 133 [.v (.int .i64 G0), .v (.int .i64 G1)], .var 133 [.v (.int .i64 H0), .v (.int .i64 H1)], .var 133 [.v (.int .i64 J0), .v (.int .i64 J1)], .var 133 [.v (.int .i64 K0), .v (.int .i64 K1)], .var 133 [.v (.int .i64 L0), .v (.int .i64 L1)], .mp (.int .i64) 133 B7, .var 133 [.v (.int .i64 N0), .v (.int .i64 N1)], .var 133 [.v (.int .i64 Q0), .v (.int .i64 Q1)], .row 82 B10 true, .row 208 B11 true, .row 85 B12 true]
 | .p262132 s176 s177 B0 D0 D1 D2 D3 D4 D5 D6 D7 D8 D9 D10 D11 G0 G1 H0 H1 J0 J1 K0 K1 L0 L1 M0 M1 B8 B9 B10 B11 => mkSt 230 [1, 2, 4, 6, 8, 10, 11, 19, 176, 177] [.bp 1 0, .bp 2 0, .bp 3 0, .bp 4 0, .bp 5 0, .bp 6 0, .bp 7 0, .rw 8, .v (.int .i64 s176), .v (.int .i64 s177)] [.var 75 [.v (.string B0), .nl, .rw 9, .rw 10, .rw 11, .nl, .nl], .var 177 [.bp 0 0, .v (.int .i64 D0), .v (.int .i64 D1), .v (.int .i64 D2), .v (.int .i64 D3), .v (.int .i64 D4), .v (.int .i64 D5), .v (.int .i64 D6), .v (.int .i64 D7), .sl 133 D8 false, .sl 133 D9 false, .v (.int .i64 D10), .v (.int .i64 D11)], .var 133 [.v (.int .i64 G0), .v (.int .i64 G1)], .var 133 [.v (.int .i64 H0), .v (.int .i64 H1)], .var 133 [.v (.int .i64 J0), .v (.int .i64 J1)], .var 133 [.v (.int .i64 K0), .v (.int .i64 K1)], .var 133 [.v (.int .i64 L0), .v (.int .i64 L1)], .var 133 [.v (.int .i64 M0), .v (.int .i64 M1)], .row 151 B8 true, .row 82 B9 true, .row 208 B10 true, .row 85 B11 true]
 | .p1048564 s203 s204 B0 D0 D1 D2 D3 D4 D5 D6 D7 D8 D9 D10 D11 G0 G1 H0 H1 B4 K0 K1 B6 B7 B8 => mkSt 230 [1, 6, 8, 19, 21, 203, 204] [.bp 1 0, .bp 2 0, .bp 3 0, .rw 4, .bp 5 0, .v (.int .i64 s203), .v (.int .i64 s204)] [.var 75 [.v (.string B0), .nl, .rw 6, .rw 7, .rw 8, .nl, .nl], .var 177 [.bp 0 0, .v (.int .i64 D0), .v (.int .i64 D1), .v (.int .i64 D2), .v (.int .i64 D3), .v (.int .i64 D4), .v (.int .i64 D5), .v (.int .i64 D6), .v (.int .i64 D7), .sl 133 D8 false, .sl 133 D9 false, .v (.int .i64 D10), .v (.int .i64 D11)], .var 133 [.v (.int .i64 G0), .v (.int .i64 G1)], .var 133 [.v (.int .i64 H0), .v (.int .i64 H1)], .row 151 B4 true, .var 133 [.v (.int .i64 K0), .v (.int .i64 K1)], .row 82 B6 true, .row 208 B7 true, .row 85 B8 true]
abbrev xO8 : Type := (Unit × ((ByteArray × (Unit × (Unit × (Unit × (Unit × (Unit × (Unit × Unit))))))) × ((List ua1) × ((List ua2) × ((List ua5) × Unit)))))
def uF5 : Res E Unit ((ByteArray × (Unit × (Unit × (Unit × (Unit × (Unit × (Unit × Unit))))))) × ((List ua1) × ((List ua2) × ((List ua5) × Unit)))) := { rows := [], flat := [], keep := 1, rl := .nil, rb := (.cons (.var 75 (.cons Rd.str (.cons Rd.nl (.cons (Rd.rw 1) (.cons (Rd.rw 2) (.cons (Rd.rw 3) (.cons Rd.nl (.cons Rd.nl .nil)))))))) (.cons (.row 82 true) (.cons (.row 208 true) (.cons (.row 85 true) .nil)))) }
def un2 : wD8 → Option xO8
 | .start p0_0 p0_1 p0_2 p0_3 p0_4 p0_5 p0_6 p0_7 p0_8 p0_9 p0_10 p0_11 B0 B1 B2 B3 =>
  (uq9 (.start p0_6 p0_7 (12 : Int) (4 : Int) B0 B1 B2 B3)) >>= fun t1 =>
  (uq9 (.start p0_6 p0_7 (0 : Int) (8 : Int) t1.2.1.1 t1.2.2.1 t1.2.2.2.1 t1.2.2.2.2.1)) >>= fun t2 =>
  (uq9 (.start p0_6 p0_7 (10 : Int) (2 : Int) t2.2.1.1 t2.2.2.1 t2.2.2.2.1 t2.2.2.2.2.1)) >>= fun t3 =>
  (uq9 (.start p0_6 p0_7 (8 : Int) (2 : Int) t3.2.1.1 t3.2.2.1 t3.2.2.2.1 t3.2.2.2.2.1)) >>= fun t4 =>
  (uo4 (.start p0_8 t3.1.1.1 t3.1.1.2.1 t4.2.1.1 t4.2.2.1 t4.2.2.2.1 t4.2.2.2.2.1)) >>= fun t5 =>
  (uo4 (.start p0_8 t4.1.1.1 t4.1.1.2.1 t5.2.1.1 t5.2.2.1 t5.2.2.2.1 t5.2.2.2.2.1)) >>= fun t6 =>
  (uq9 (.start t6.1.1.1 t6.1.1.2.1 (0 : Int) (3 : Int) t6.2.1.1 t6.2.2.1 t6.2.2.2.1 t6.2.2.2.2.1)) >>= fun t7 =>
  (uh9 (.start (6 : Int) (8 : Int) (0 : Int) ([(⟨t5.1.1.1, t5.1.1.2.1⟩ : ua0), (⟨t6.1.1.1, t6.1.1.2.1⟩ : ua0)] : List ua0) t7.2.1.1 t7.2.2.1 t7.2.2.2.1 t7.2.2.2.2.1)) >>= fun t8 =>
  (uh9 (.start (7 : Int) (8 : Int) (0 : Int) ([(⟨t5.1.1.1, t5.1.1.2.1⟩ : ua0), (⟨t6.1.1.1, t6.1.1.2.1⟩ : ua0)] : List ua0) t8.2.1.1 t8.2.2.1 t8.2.2.2.1 t8.2.2.2.2.1)) >>= fun t9 =>
  (uA0 (.start t5.1.1.1 t5.1.1.2.1 t6.1.1.1 t6.1.1.2.1 t9.2.1.1 t9.2.2.1 t9.2.2.2.1 t9.2.2.2.2.1)) >>= fun t10 =>
  (uo4 (.start p0_9 t7.1.1.1 t7.1.1.2.1 t10.2.1.1 t10.2.2.1 t10.2.2.2.1 t10.2.2.2.2.1)) >>= fun t11 =>
  (uB2 (.start (1 : Int) (0 : Int) t11.2.1.1 t11.2.2.1 t11.2.2.2.1 t11.2.2.2.2.1)) >>= fun t12 =>
  un2 (.p4084 (0 : Int) t12.2.1.1 p0_0 p0_1 p0_2 p0_3 p0_4 p0_5 p0_6 p0_7 p0_8 p0_9 p0_10 p0_11 t1.1.1.1 t1.1.1.2.1 t2.1.1.1 t2.1.1.2.1 t3.1.1.1 t3.1.1.2.1 t5.1.1.1 t5.1.1.2.1 t7.1.1.1 t7.1.1.2.1 ([((1 : Int), (⟨t2.1.1.1, t2.1.1.2.1⟩ : ua0)), ((2 : Int), (⟨t6.1.1.1, t6.1.1.2.1⟩ : ua0)), ((3 : Int), (⟨t8.1.1.1, t8.1.1.2.1⟩ : ua0)), ((4 : Int), (⟨t9.1.1.1, t9.1.1.2.1⟩ : ua0)), ((5 : Int), (⟨t10.1.1.1, t10.1.1.2.1⟩ : ua0)), ((6 : Int), (⟨t11.1.1.1, t11.1.1.2.1⟩ : ua0))] : List (Int × ua0)) t5.1.1.1 t5.1.1.2.1 t12.1.1.1 t12.1.1.2.1 t12.2.2.1 t12.2.2.2.1 t12.2.2.2.2.1)
 | .p4084 s90 B0 D0 D1 D2 D3 D4 D5 D6 D7 D8 D9 D10 D11 G0 G1 H0 H1 J0 J1 K0 K1 L0 L1 B7 N0 N1 Q0 Q1 B10 B11 B12 =>
  if (decide (s90 < (10 : Int))) = true then
   if (Option.isSome (aget ieq B7 s90)) = true then
    (up0 (.start G0 G1 s90 B0 B10 B11 B12)) >>= fun t1 =>
    (uE8 (.start t1.1.1.1 t1.1.1.2.1 ((Option.getD (aget ieq B7 s90) (⟨(0 : Int), (0 : Int)⟩ : ua0)).node) ((Option.getD (aget ieq B7 s90) (⟨(0 : Int), (0 : Int)⟩ : ua0)).width) N0 N1 t1.2.1.1 t1.2.2.1 t1.2.2.2.1 t1.2.2.2.2.1)) >>= fun t2 =>
    (uP7 (.start Q0 Q1 t1.1.1.1 t1.1.1.2.1 t2.2.1.1 t2.2.2.1 t2.2.2.2.1 t2.2.2.2.2.1)) >>= fun t3 =>
    un2 (.p4084 (IntKind.wrap .i64 (s90 + (1 : Int))) t3.2.1.1 D0 D1 D2 D3 D4 D5 D6 D7 D8 D9 D10 D11 G0 G1 H0 H1 J0 J1 K0 K1 L0 L1 B7 t2.1.1.1 t2.1.1.2.1 t3.1.1.1 t3.1.1.2.1 t3.2.2.1 t3.2.2.2.1 t3.2.2.2.2.1)
   else
    un2 (.p4084 (IntKind.wrap .i64 (s90 + (1 : Int))) B0 D0 D1 D2 D3 D4 D5 D6 D7 D8 D9 D10 D11 G0 G1 H0 H1 J0 J1 K0 K1 L0 L1 B7 N0 N1 Q0 Q1 B10 B11 B12)
  else
   (up0 (.start G0 G1 (0 : Int) B0 B10 B11 B12)) >>= fun t4 =>
   (up0 (.start G0 G1 (8 : Int) t4.2.1.1 t4.2.2.1 t4.2.2.2.1 t4.2.2.2.2.1)) >>= fun t5 =>
   (up0 (.start G0 G1 (9 : Int) t5.2.1.1 t5.2.2.1 t5.2.2.2.1 t5.2.2.2.2.1)) >>= fun t6 =>
   (up0 (.start K0 K1 (0 : Int) t6.2.1.1 t6.2.2.1 t6.2.2.2.1 t6.2.2.2.2.1)) >>= fun t7 =>
   (uA0 (.start t6.1.1.1 t6.1.1.2.1 t7.1.1.1 t7.1.1.2.1 t7.2.1.1 t7.2.2.1 t7.2.2.2.1 t7.2.2.2.2.1)) >>= fun t8 =>
   (uP7 (.start t5.1.1.1 t5.1.1.2.1 t8.1.1.1 t8.1.1.2.1 t8.2.1.1 t8.2.2.1 t8.2.2.2.1 t8.2.2.2.2.1)) >>= fun t9 =>
   (uB2 (.start (4 : Int) (1 : Int) t9.2.1.1 t9.2.2.1 t9.2.2.2.1 t9.2.2.2.2.1)) >>= fun t10 =>
   (uh9 (.start (6 : Int) (4 : Int) (0 : Int) ([(⟨D0, D1⟩ : ua0), (⟨t10.1.1.1, t10.1.1.2.1⟩ : ua0)] : List ua0) t10.2.1.1 t10.2.2.1 t10.2.2.2.1 t10.2.2.2.2.1)) >>= fun t11 =>
   (uq9 (.start H0 H1 (0 : Int) (4 : Int) t11.2.1.1 t11.2.2.1 t11.2.2.2.1 t11.2.2.2.2.1)) >>= fun t12 =>
   (uE8 (.start t9.1.1.1 t9.1.1.2.1 t12.1.1.1 t12.1.1.2.1 t11.1.1.1 t11.1.1.2.1 t12.2.1.1 t12.2.2.1 t12.2.2.2.1 t12.2.2.2.2.1)) >>= fun t13 =>
   (uY3 (.start t4.1.1.1 t4.1.1.2.1 t13.2.1.1 t13.2.2.1 t13.2.2.2.1 t13.2.2.2.2.1)) >>= fun t14 =>
   (uq8 (.start (0 : Int) t14.1.1.1 t14.1.1.2.1 t13.1.1.1 t13.1.1.2.1)) >>= fun t15 =>
   (uq8 (.start (1 : Int) t4.1.1.1 t4.1.1.2.1 D10 D11)) >>= fun t16 =>
   (uB2 (.start (1 : Int) (0 : Int) t14.2.1.1 t14.2.2.1 t14.2.2.2.1 t14.2.2.2.2.1)) >>= fun t17 =>
   (uq8 (.start (2 : Int) D10 D11 t17.1.1.1 t17.1.1.2.1)) >>= fun t18 =>
   un2 (.p262132 (List.length D8 : Int) (0 : Int) t17.2.1.1 D0 D1 D2 D3 D4 D5 D6 D7 D8 D9 D10 D11 G0 G1 J0 J1 K0 K1 L0 L1 N0 N1 Q0 Q1 ([(⟨t15.1.1.1, t15.1.1.2.1, t15.1.1.2.2.1⟩ : ub4), (⟨t16.1.1.1, t16.1.1.2.1, t16.1.1.2.2.1⟩ : ub4), (⟨t18.1.1.1, t18.1.1.2.1, t18.1.1.2.2.1⟩ : ub4)] : List ub4) t17.2.2.1 t17.2.2.2.1 t17.2.2.2.2.1)
 | .p262132 s176 s177 B0 D0 D1 D2 D3 D4 D5 D6 D7 D8 D9 D10 D11 G0 G1 H0 H1 J0 J1 K0 K1 L0 L1 M0 M1 B8 B9 B10 B11 =>
  if (decide (s177 < s176)) = true then
   (up0 (.start H0 H1 s177 B0 B9 B10 B11)) >>= fun t1 =>
   (uA0 (.start M0 M1 t1.1.1.1 t1.1.1.2.1 t1.2.1.1 t1.2.2.1 t1.2.2.2.1 t1.2.2.2.2.1)) >>= fun t2 =>
   (uq8 (.start (IntKind.wrap .i64 ((4 : Int) + s177)) t2.1.1.1 t2.1.1.2.1 L0 L1)) >>= fun t3 =>
   if (fits (List.length B8) (List.length ([(⟨t3.1.1.1, t3.1.1.2.1, t3.1.1.2.2.1⟩ : ub4)] : List ub4)) 24) = true then
    un2 (.p262132 s176 (IntKind.wrap .i64 (s177 + (1 : Int))) t2.2.1.1 D0 D1 D2 D3 D4 D5 D6 D7 D8 D9 D10 D11 G0 G1 H0 H1 J0 J1 K0 K1 L0 L1 M0 M1 (B8 ++ ([(⟨t3.1.1.1, t3.1.1.2.1, t3.1.1.2.2.1⟩ : ub4)] : List ub4)) t2.2.2.1 t2.2.2.2.1 t2.2.2.2.2.1)
   else none
  else
   (up0 (.start G0 G1 (7 : Int) B0 B9 B10 B11)) >>= fun t4 =>
   un2 (.p1048564 (List.length D9 : Int) (0 : Int) t4.2.1.1 D0 D1 D2 D3 D4 D5 D6 D7 D8 D9 D10 D11 J0 J1 K0 K1 B8 t4.1.1.1 t4.1.1.2.1 t4.2.2.1 t4.2.2.2.1 t4.2.2.2.2.1)
 | .p1048564 s203 s204 B0 D0 D1 D2 D3 D4 D5 D6 D7 D8 D9 D10 D11 G0 G1 H0 H1 B4 K0 K1 B6 B7 B8 =>
  if (decide (s204 < s203)) = true then
   (up0 (.start H0 H1 s204 B0 B6 B7 B8)) >>= fun t1 =>
   (uA0 (.start K0 K1 t1.1.1.1 t1.1.1.2.1 t1.2.1.1 t1.2.2.1 t1.2.2.2.1 t1.2.2.2.2.1)) >>= fun t2 =>
   (uq8 (.start (IntKind.wrap .i64 ((8 : Int) + s204)) t2.1.1.1 t2.1.1.2.1 G0 G1)) >>= fun t3 =>
   if (fits (List.length B4) (List.length ([(⟨t3.1.1.1, t3.1.1.2.1, t3.1.1.2.2.1⟩ : ub4)] : List ub4)) 24) = true then
    un2 (.p1048564 s203 (IntKind.wrap .i64 (s204 + (1 : Int))) t2.2.1.1 D0 D1 D2 D3 D4 D5 D6 D7 D8 D9 D10 D11 G0 G1 H0 H1 (B4 ++ ([(⟨t3.1.1.1, t3.1.1.2.1, t3.1.1.2.2.1⟩ : ub4)] : List ub4)) K0 K1 t2.2.2.1 t2.2.2.2.1 t2.2.2.2.2.1)
   else none
  else
   (u38 (.start (⟨#[101, 120, 101, 99, 117, 116, 101]⟩ : ByteArray) D4 D5 B4 B0 B6 B7 B8)) >>= fun t4 =>
   some ((), ((t4.2.1.1, ((), ((), ((), ((), ((), ((), ()))))))), (t4.2.2.1, (t4.2.2.2.1, (t4.2.2.2.2.1, ())))))
 partial_fixpoint
def wZ4 : List (Plc E wD8) := [⟨4084, [false, false, true, false, true, true, true, true, true, true, true], { slots := [1, 2, 3, 4, 6, 8, 9, 10, 11, 90], rows := [], flat := [], keep := 1 }, _, _, (.cons (Rd.bp 1 0) (.cons (Rd.bp 2 0) (.cons (Rd.bp 3 0) (.cons (Rd.bp 4 0) (.cons (Rd.bp 5 0) (.cons (Rd.bp 6 0) (.cons (Rd.rw 7) (.cons (Rd.bp 8 0) (.cons (Rd.bp 9 0) (.cons (Rd.int .i64) .nil)))))))))), (.cons (.var 75 (.cons Rd.str (.cons Rd.nl (.cons (Rd.rw 10) (.cons (Rd.rw 11) (.cons (Rd.rw 12) (.cons Rd.nl (.cons Rd.nl .nil)))))))) (.cons (.var 177 (.cons (Rd.bp 0 0) (.cons (Rd.int .i64) (.cons (Rd.int .i64) (.cons (Rd.int .i64) (.cons (Rd.int .i64) (.cons (Rd.int .i64) (.cons (Rd.int .i64) (.cons (Rd.int .i64) (.cons (Rd.int .i64) (.cons (Rd.sl 133 false) (.cons (Rd.sl 133 false) (.cons (Rd.int .i64) (.cons (Rd.int .i64) .nil)))))))))))))) (.cons (.var 133 (.cons (Rd.int .i64) (.cons (Rd.int .i64) .nil))) (.cons (.var 133 (.cons (Rd.int .i64) (.cons (Rd.int .i64) .nil))) (.cons (.var 133 (.cons (Rd.int .i64) (.cons (Rd.int .i64) .nil))) (.cons (.var 133 (.cons (Rd.int .i64) (.cons (Rd.int .i64) .nil))) (.cons (.var 133 (.cons (Rd.int .i64) (.cons (Rd.int .i64) .nil))) (.cons (RdB.mp (.int .i64) 133) (.cons (.var 133 (.cons (Rd.int .i64) (.cons (Rd.int .i64) .nil))) (.cons (.var 133 (.cons (Rd.int .i64) (.cons (Rd.int .i64) .nil))) (.cons (.row 82 true) (.cons (.row 208 true) (.cons (.row 85 true) .nil))))))))))))), fun a b => .p4084 a.2.2.2.2.2.2.2.2.2.1 b.1.1 b.2.1.2.1 b.2.1.2.2.1 b.2.1.2.2.2.1 b.2.1.2.2.2.2.1 b.2.1.2.2.2.2.2.1 b.2.1.2.2.2.2.2.2.1 b.2.1.2.2.2.2.2.2.2.1 b.2.1.2.2.2.2.2.2.2.2.1 b.2.1.2.2.2.2.2.2.2.2.2.1 b.2.1.2.2.2.2.2.2.2.2.2.2.1 b.2.1.2.2.2.2.2.2.2.2.2.2.2.1 b.2.1.2.2.2.2.2.2.2.2.2.2.2.2.1 b.2.2.1.1 b.2.2.1.2.1 b.2.2.2.1.1 b.2.2.2.1.2.1 b.2.2.2.2.1.1 b.2.2.2.2.1.2.1 b.2.2.2.2.2.1.1 b.2.2.2.2.2.1.2.1 b.2.2.2.2.2.2.1.1 b.2.2.2.2.2.2.1.2.1 b.2.2.2.2.2.2.2.1 b.2.2.2.2.2.2.2.2.1.1 b.2.2.2.2.2.2.2.2.1.2.1 b.2.2.2.2.2.2.2.2.2.1.1 b.2.2.2.2.2.2.2.2.2.1.2.1 b.2.2.2.2.2.2.2.2.2.2.1 b.2.2.2.2.2.2.2.2.2.2.2.1 b.2.2.2.2.2.2.2.2.2.2.2.2.1⟩,
 ⟨262132, [false, false, true, false, true, true, true, true, true, true, true, true, true, true, true, true, true], { slots := [1, 2, 4, 6, 8, 10, 11, 19, 176, 177], rows := [(19, 151)], flat := [], keep := 1 }, _, _, (.cons (Rd.bp 1 0) (.cons (Rd.bp 2 0) (.cons (Rd.bp 3 0) (.cons (Rd.bp 4 0) (.cons (Rd.bp 5 0) (.cons (Rd.bp 6 0) (.cons (Rd.bp 7 0) (.cons (Rd.rw 8) (.cons (Rd.int .i64) (.cons (Rd.int .i64) .nil)))))))))), (.cons (.var 75 (.cons Rd.str (.cons Rd.nl (.cons (Rd.rw 9) (.cons (Rd.rw 10) (.cons (Rd.rw 11) (.cons Rd.nl (.cons Rd.nl .nil)))))))) (.cons (.var 177 (.cons (Rd.bp 0 0) (.cons (Rd.int .i64) (.cons (Rd.int .i64) (.cons (Rd.int .i64) (.cons (Rd.int .i64) (.cons (Rd.int .i64) (.cons (Rd.int .i64) (.cons (Rd.int .i64) (.cons (Rd.int .i64) (.cons (Rd.sl 133 false) (.cons (Rd.sl 133 false) (.cons (Rd.int .i64) (.cons (Rd.int .i64) .nil)))))))))))))) (.cons (.var 133 (.cons (Rd.int .i64) (.cons (Rd.int .i64) .nil))) (.cons (.var 133 (.cons (Rd.int .i64) (.cons (Rd.int .i64) .nil))) (.cons (.var 133 (.cons (Rd.int .i64) (.cons (Rd.int .i64) .nil))) (.cons (.var 133 (.cons (Rd.int .i64) (.cons (Rd.int .i64) .nil))) (.cons (.var 133 (.cons (Rd.int .i64) (.cons (Rd.int .i64) .nil))) (.cons (.var 133 (.cons (Rd.int .i64) (.cons (Rd.int .i64) .nil))) (.cons (.row 151 true) (.cons (.row 82 true) (.cons (.row 208 true) (.cons (.row 85 true) .nil)))))))))))), fun a b => .p262132 a.2.2.2.2.2.2.2.2.1 a.2.2.2.2.2.2.2.2.2.1 b.1.1 b.2.1.2.1 b.2.1.2.2.1 b.2.1.2.2.2.1 b.2.1.2.2.2.2.1 b.2.1.2.2.2.2.2.1 b.2.1.2.2.2.2.2.2.1 b.2.1.2.2.2.2.2.2.2.1 b.2.1.2.2.2.2.2.2.2.2.1 b.2.1.2.2.2.2.2.2.2.2.2.1 b.2.1.2.2.2.2.2.2.2.2.2.2.1 b.2.1.2.2.2.2.2.2.2.2.2.2.2.1 b.2.1.2.2.2.2.2.2.2.2.2.2.2.2.1 b.2.2.1.1 b.2.2.1.2.1 b.2.2.2.1.1 b.2.2.2.1.2.1 b.2.2.2.2.1.1 b.2.2.2.2.1.2.1 b.2.2.2.2.2.1.1 b.2.2.2.2.2.1.2.1 b.2.2.2.2.2.2.1.1 b.2.2.2.2.2.2.1.2.1 b.2.2.2.2.2.2.2.1.1 b.2.2.2.2.2.2.2.1.2.1 b.2.2.2.2.2.2.2.2.1 b.2.2.2.2.2.2.2.2.2.1 b.2.2.2.2.2.2.2.2.2.2.1 b.2.2.2.2.2.2.2.2.2.2.2.1⟩,
 ⟨1048564, [false, false, true, false, true, true, true, true, true, true, true, true, true, true, true, true, true, true, true], { slots := [1, 6, 8, 19, 21, 203, 204], rows := [], flat := [], keep := 1 }, _, _, (.cons (Rd.bp 1 0) (.cons (Rd.bp 2 0) (.cons (Rd.bp 3 0) (.cons (Rd.rw 4) (.cons (Rd.bp 5 0) (.cons (Rd.int .i64) (.cons (Rd.int .i64) .nil))))))), (.cons (.var 75 (.cons Rd.str (.cons Rd.nl (.cons (Rd.rw 6) (.cons (Rd.rw 7) (.cons (Rd.rw 8) (.cons Rd.nl (.cons Rd.nl .nil)))))))) (.cons (.var 177 (.cons (Rd.bp 0 0) (.cons (Rd.int .i64) (.cons (Rd.int .i64) (.cons (Rd.int .i64) (.cons (Rd.int .i64) (.cons (Rd.int .i64) (.cons (Rd.int .i64) (.cons (Rd.int .i64) (.cons (Rd.int .i64) (.cons (Rd.sl 133 false) (.cons (Rd.sl 133 false) (.cons (Rd.int .i64) (.cons (Rd.int .i64) .nil)))))))))))))) (.cons (.var 133 (.cons (Rd.int .i64) (.cons (Rd.int .i64) .nil))) (.cons (.var 133 (.cons (Rd.int .i64) (.cons (Rd.int .i64) .nil))) (.cons (.row 151 true) (.cons (.var 133 (.cons (Rd.int .i64) (.cons (Rd.int .i64) .nil))) (.cons (.row 82 true) (.cons (.row 208 true) (.cons (.row 85 true) .nil))))))))), fun a b => .p1048564 a.2.2.2.2.2.1 a.2.2.2.2.2.2.1 b.1.1 b.2.1.2.1 b.2.1.2.2.1 b.2.1.2.2.2.1 b.2.1.2.2.2.2.1 b.2.1.2.2.2.2.2.1 b.2.1.2.2.2.2.2.2.1 b.2.1.2.2.2.2.2.2.2.1 b.2.1.2.2.2.2.2.2.2.2.1 b.2.1.2.2.2.2.2.2.2.2.2.1 b.2.1.2.2.2.2.2.2.2.2.2.2.1 b.2.1.2.2.2.2.2.2.2.2.2.2.2.1 b.2.1.2.2.2.2.2.2.2.2.2.2.2.2.1 b.2.2.1.1 b.2.2.1.2.1 b.2.2.2.1.1 b.2.2.2.1.2.1 b.2.2.2.2.1 b.2.2.2.2.2.1.1 b.2.2.2.2.2.1.2.1 b.2.2.2.2.2.2.1 b.2.2.2.2.2.2.2.1 b.2.2.2.2.2.2.2.2.1⟩]
theorem wA2 : All (ub5 230 1 uX2 wM7) wZ4 := ⟨⟨rfl, rfl, fun _ _ => rfl, fun _ _ => rfl⟩, ⟨⟨rfl, rfl, fun _ _ => rfl, fun _ _ => rfl⟩, ⟨⟨rfl, rfl, fun _ _ => rfl, fun _ _ => rfl⟩, trivial⟩⟩⟩
def vn5 : Code := Tryz.f110.body.getD .skip
def vZ4 : Spec E.S := (Con.add w53 (Con.add vM9 (Con.add wW8 (Con.add wS2 (Con.add vJ1 (Con.add wU7 (Con.add vI6 (Con.add wY0 (Con.add uw8 (Con.add wV7 (Con.add vN5 ub3)))))))))))
theorem vT0 : ub0 E vZ4 := (Con.add_ok wu6 (Con.add_ok vf3 (Con.add_ok wn9 (Con.add_ok wu0 (Con.add_ok ve7 (Con.add_ok wE3 (Con.add_ok ve3 (Con.add_ok wq1 (Con.add_ok uk3 (Con.add_ok wr7 (Con.add_ok vd6 ua6)))))))))))
theorem xs9 : ∀ pt r, un2 pt = some r → Good E Tryz.f110 vn5 1 (uF5.av r) (uF5.bx r) (uX2 pt) (wM7 pt) := by
 refine un2.partial_correctness (fun pt r => Good E Tryz.f110 vn5 1 (uF5.av r) (uF5.bx r) (uX2 pt) (wM7 pt)) ?_
 intro run' ih pt r hr
 cases pt <;> exact ua8 (spec := vZ4) (wr := (mkWr [] [] [59])) (l := wZ4) (z := 230) (p := uF5) E_ok wA2.mem rfl vT0 ih (Eq.trans (by kernel_rfl) hr)
def wN1 : Con E := ⟨110, _, _, (.cons (Rw.agg (.cons (Rd.bp 0 0).w (.cons (Rd.int .i64).w (.cons (Rd.int .i64).w (.cons (Rd.int .i64).w (.cons (Rd.int .i64).w (.cons (Rd.int .i64).w (.cons (Rd.int .i64).w (.cons (Rd.int .i64).w (.cons (Rd.int .i64).w (.cons (Rw.sl 133) (.cons (Rw.sl 133) (.cons (Rd.int .i64).w (.cons (Rd.int .i64).w .nil)))))))))))))) .nil), (.cons (.var 75 (.cons Rd.str (.cons Rd.nl (.cons (Rd.rw 1) (.cons (Rd.rw 2) (.cons (Rd.rw 3) (.cons Rd.nl (.cons Rd.nl .nil)))))))) (.cons (.row 82 true) (.cons (.row 208 true) (.cons (.row 85 true) .nil)))), 1, xO8, fun a b => un2 (.start a.1.2.1 a.1.2.2.1 a.1.2.2.2.1 a.1.2.2.2.2.1 a.1.2.2.2.2.2.1 a.1.2.2.2.2.2.2.1 a.1.2.2.2.2.2.2.2.1 a.1.2.2.2.2.2.2.2.2.1 a.1.2.2.2.2.2.2.2.2.2.1 a.1.2.2.2.2.2.2.2.2.2.2.1 a.1.2.2.2.2.2.2.2.2.2.2.2.1 a.1.2.2.2.2.2.2.2.2.2.2.2.2.1 b.1.1 b.2.1 b.2.2.1 b.2.2.2.1), uF5.av, uF5.bx⟩
theorem wk5 : wN1.Ok := fun a b r h => ub6 (fn := Tryz.f110) (code := vn5) E_ok (by kernel_rfl) (by kernel_rfl) (by kernel_rfl) (Nat.le_of_ble_eq_true rfl) (xs9 (.start a.1.2.1 a.1.2.2.1 a.1.2.2.2.1 a.1.2.2.2.2.1 a.1.2.2.2.2.2.1 a.1.2.2.2.2.2.2.1 a.1.2.2.2.2.2.2.2.1 a.1.2.2.2.2.2.2.2.2.1 a.1.2.2.2.2.2.2.2.2.2.1 a.1.2.2.2.2.2.2.2.2.2.2.1 a.1.2.2.2.2.2.2.2.2.2.2.2.1 a.1.2.2.2.2.2.2.2.2.2.2.2.2.1 b.1.1 b.2.1 b.2.2.1 b.2.2.2.1) r h)
inductive xt9 where
 | start (l0 : (List ua3)) (memory1 : (List Int))
def vu9 : xt9 → List Bool
 | .start .. => []
def xB9 : xt9 → St E.S
 | .start l0 memory1 => st0 30 [.sl 40 l0 false, .sl 3 memory1 false] []
abbrev xO4 : Type := (((ByteArray × (Unit × ((List ua1) × ((List ua2) × ((List ua5) × (Unit × (Unit × Unit))))))) × (Int × Unit)) × Unit)
def u91 : Res E ((ByteArray × (Unit × ((List ua1) × ((List ua2) × ((List ua5) × (Unit × (Unit × Unit))))))) × (Int × Unit)) Unit := { rows := [], flat := [], keep := 0, deep := [(false, 0, 2, 82), (false, 0, 3, 208), (false, 0, 4, 85)], done := [0, 1], rl := (.cons (Rd.agg (.cons Rd.str (.cons Rd.nl (.cons (Rd.sl 82 false) (.cons (Rd.sl 208 false) (.cons (Rd.sl 85 false) (.cons Rd.nl (.cons Rd.nl .nil)))))))) (.cons (Rd.int .i64) .nil)), rb := .nil }
def u14 : xt9 → Option xO4
 | .start l0 memory1 =>
  (uV6 (.start l0)) >>= fun t1 =>
  (u11 (.start memory1)) >>= fun t2 =>
  (ui8 (.start ([t1.1.1, t2.1.1] : List Int))) >>= fun t3 =>
  if (t3.1.1 != (0 : Int)) = true then
   some ((((⟨#[]⟩ : ByteArray), ((), ([], ([], ([], ((), ((), ()))))))), (t3.1.1, ())), ())
  else
   (ur7 (.start memory1)) >>= fun t4 =>
   (us7 (.start t4.1.1.2.1 t4.1.1.2.2.1 t4.1.1.2.2.2.1 t4.1.1.2.2.2.2.1 t4.1.1.2.2.2.2.2.1 t4.1.1.2.2.2.2.2.2.1 t4.1.1.2.2.2.2.2.2.2.1 t4.1.1.2.2.2.2.2.2.2.2.1 t4.2.2.1 t4.2.2.2.1 t4.1.1.2.2.2.2.2.2.2.2.2.2.2.1 t4.1.1.2.2.2.2.2.2.2.2.2.2.2.2.1 l0 t4.2.1.1 t4.2.2.2.2.1 t4.2.2.2.2.2.1)) >>= fun t5 =>
   (un2 (.start t4.1.1.2.1 t4.1.1.2.2.1 t4.1.1.2.2.2.1 t4.1.1.2.2.2.2.1 t4.1.1.2.2.2.2.2.1 t4.1.1.2.2.2.2.2.2.1 t4.1.1.2.2.2.2.2.2.2.1 t4.1.1.2.2.2.2.2.2.2.2.1 t4.2.2.1 t4.2.2.2.1 t4.1.1.2.2.2.2.2.2.2.2.2.2.2.1 t4.1.1.2.2.2.2.2.2.2.2.2.2.2.2.1 t5.2.1.1 t5.2.2.1 t5.2.2.2.1 t5.2.2.2.2.1)) >>= fun t6 =>
   some (((t6.2.1.1, ((), (t6.2.2.1, (t6.2.2.2.1, (t6.2.2.2.2.1, ((), ((), ()))))))), ((0 : Int), ())), ())
def w83 : List (Plc E xt9) := []
theorem wx9 : All (ub5 30 0 vu9 xB9) w83 := trivial
def vZ5 : Code := Tryz.f55.body.getD .skip
def vY8 : Spec E.S := (Con.add wN1 (Con.add wX6 (Con.add w65 (Con.add vm6 (Con.add wL6 (Con.add wT4 ub3))))))
theorem vF6 : ub0 E vY8 := (Con.add_ok wk5 (Con.add_ok wD5 (Con.add_ok wo0 (Con.add_ok uO8 (Con.add_ok wo4 (Con.add_ok wJ3 ua6))))))
theorem xn1 : ∀ pt r, u14 pt = some r → Good E Tryz.f55 vZ5 0 (u91.av r) (u91.bx r) (vu9 pt) (xB9 pt) := by
 intro pt r hr
 cases pt <;> exact ua8 (spec := vY8) (wr := (mkWr [] [])) (l := w83) (z := 30) (p := u91) (run' := fun _ => none) E_ok wx9.mem rfl vF6 (fun _ _ h => by cases h) (Eq.trans (by kernel_rfl) hr)
def w10 : Con E := ⟨55, _, _, (.cons (Rw.sl 40) (.cons (Rw.sl 3) .nil)), .nil, 0, xO4, fun a b => u14 (.start a.1 a.2.1), u91.av, u91.bx⟩
theorem wI6 : w10.Ok := fun a b r h => ub6 (fn := Tryz.f55) (code := vZ5) E_ok (by kernel_rfl) (by kernel_rfl) (by kernel_rfl) (Nat.le_of_ble_eq_true rfl) (xn1 (.start a.1 a.2.1) r h)
inductive wF0 where
 | start (s0 : ByteArray)
 | p7 (s0 : ByteArray)
 | p116 (s0 : ByteArray) (i3 : Int)
 | p3731 (s0 : ByteArray) (i3 : Int) (c4 : Int) (letter5 : Bool)
def u39 : wF0 → List Bool
 | .start .. => []
 | .p7 .. => [true, true]
 | .p116 .. => [false, false, true, false, true, true]
 | .p3731 .. => [true, true, false, false, true, false, false, true, false, true, true]
def xc2 : wF0 → St E.S
 | .start s0 => st0 55 [.v (.string s0)] []
 | .p7 s0 => mkSt 55 [0] [.v (.string s0)] []
 | .p116 s0 i3 => mkSt 55 [0, 3] [.v (.string s0), .v (.int .i64 i3)] []
 | .p3731 s0 i3 c4 letter5 => mkSt 55 [0, 3, 4, 5] [.v (.string s0), .v (.int .i64 i3), .v (.int .u8 c4), .v (.bool letter5)] []
abbrev xJ9 : Type := ((Bool × Unit) × Unit)
def uJ8 : Res E (Bool × Unit) Unit := { rows := [], flat := [], keep := 0, done := [0], rl := (.cons Rd.bool .nil), rb := .nil }
def ue3 : wF0 → Option xJ9
 | .start s0 =>
  if (decide ((s0.size : Int) < (1 : Int))) = true then
   some ((false, ()), ())
  else
   if (decide ((s0.size : Int) > (16 : Int))) = true then
    some ((false, ()), ())
   else
    ue3 (.p7 s0)
 | .p7 s0 =>
  ue3 (.p116 s0 (0 : Int))
 | .p116 s0 i3 =>
  if (decide (i3 < (s0.size : Int))) = true then
   (sidx s0 i3) >>= fun t1 =>
   if (decide (t1 ≥ (97 : Int))) = true then
    if (decide (t1 ≤ (122 : Int))) = true then
     ue3 (.p3731 s0 i3 t1 true)
    else
     if (decide (t1 ≥ (65 : Int))) = true then
      ue3 (.p3731 s0 i3 t1 (decide (t1 ≤ (90 : Int))))
     else
      ue3 (.p3731 s0 i3 t1 false)
   else
    if (decide (t1 ≥ (65 : Int))) = true then
     ue3 (.p3731 s0 i3 t1 (decide (t1 ≤ (90 : Int))))
    else
     ue3 (.p3731 s0 i3 t1 false)
  else
   some ((true, ()), ())
 | .p3731 s0 i3 c4 letter5 =>
  if (!letter5) = true then
   if (i3 == (0 : Int)) = true then
    some ((false, ()), ())
   else
    if (c4 != (95 : Int)) = true then
     if (decide (c4 < (48 : Int))) = true then
      some ((false, ()), ())
     else
      if (decide (c4 > (57 : Int))) = true then
       some ((false, ()), ())
      else
       ue3 (.p116 s0 (IntKind.wrap .i64 (i3 + (1 : Int))))
    else
     ue3 (.p116 s0 (IntKind.wrap .i64 (i3 + (1 : Int))))
  else
   ue3 (.p116 s0 (IntKind.wrap .i64 (i3 + (1 : Int))))
 partial_fixpoint
def w72 : List (Plc E wF0) := [⟨7, [true, true], { slots := [0], rows := [], flat := [], keep := 0 }, _, _, (.cons Rd.str .nil), .nil, fun a b => .p7 a.1⟩,
 ⟨116, [false, false, true, false, true, true], { slots := [0, 3], rows := [], flat := [], keep := 0 }, _, _, (.cons Rd.str (.cons (Rd.int .i64) .nil)), .nil, fun a b => .p116 a.1 a.2.1⟩,
 ⟨3731, [true, true, false, false, true, false, false, true, false, true, true], { slots := [0, 3, 4, 5], rows := [], flat := [], keep := 0 }, _, _, (.cons Rd.str (.cons (Rd.int .i64) (.cons (Rd.int .u8) (.cons Rd.bool .nil)))), .nil, fun a b => .p3731 a.1 a.2.1 a.2.2.1 a.2.2.2.1⟩]
theorem ww1 : All (ub5 55 0 u39 xc2) w72 := ⟨⟨rfl, rfl, fun _ _ => rfl, fun _ _ => rfl⟩, ⟨⟨rfl, rfl, fun _ _ => rfl, fun _ _ => rfl⟩, ⟨⟨rfl, rfl, fun _ _ => rfl, fun _ _ => rfl⟩, trivial⟩⟩⟩
def vl9 : Code := Tryz.f136.body.getD .skip
def v65 : Spec E.S := ub3
theorem vK2 : ub0 E v65 := ua6
theorem xf0 : ∀ pt r, ue3 pt = some r → Good E Tryz.f136 vl9 0 (uJ8.av r) (uJ8.bx r) (u39 pt) (xc2 pt) := by
 refine ue3.partial_correctness (fun pt r => Good E Tryz.f136 vl9 0 (uJ8.av r) (uJ8.bx r) (u39 pt) (xc2 pt)) ?_
 intro run' ih pt r hr
 cases pt <;> exact ua8 (spec := v65) (wr := (mkWr [] [])) (l := w72) (z := 55) (p := uJ8) E_ok ww1.mem rfl vK2 ih (Eq.trans (by kernel_rfl) hr)
def u99 : Con E := ⟨136, _, _, (.cons Rd.str.w .nil), .nil, 0, xJ9, fun a b => ue3 (.start a.1), uJ8.av, uJ8.bx⟩
theorem uC6 : u99.Ok := fun a b r h => ub6 (fn := Tryz.f136) (code := vl9) E_ok (by kernel_rfl) (by kernel_rfl) (by kernel_rfl) (Nat.le_of_ble_eq_true rfl) (xf0 (.start a.1) r h)
inductive wx0 where
 | start (n0 : Int)
def vA7 : wx0 → List Bool
 | .start .. => []
def xx5 : wx0 → St E.S
 | .start n0 => st0 5 [.v (.int .i64 n0)] []
abbrev xS0 : Type := ((Bool × Unit) × Unit)
def u68 : Res E (Bool × Unit) Unit := { rows := [], flat := [], keep := 0, done := [0], rl := (.cons Rd.bool .nil), rb := .nil }
def ux2 : wx0 → Option xS0
 | .start n0 =>
  (uf8 (.start n0 (1 : Int) (16 : Int))) >>= fun t1 =>
  some ((t1.1.1, ()), ())
def w58 : List (Plc E wx0) := []
theorem wC4 : All (ub5 5 0 vA7 xx5) w58 := trivial
def wa5 : Code := Tryz.f172.body.getD .skip
def vY6 : Spec E.S := (Con.add uA8 ub3)
theorem vV3 : ub0 E vY6 := (Con.add_ok uj3 ua6)
theorem xi9 : ∀ pt r, ux2 pt = some r → Good E Tryz.f172 wa5 0 (u68.av r) (u68.bx r) (vA7 pt) (xx5 pt) := by
 intro pt r hr
 cases pt <;> exact ua8 (spec := vY6) (wr := (mkWr [] [])) (l := w58) (z := 5) (p := u68) (run' := fun _ => none) E_ok wC4.mem rfl vV3 (fun _ _ h => by cases h) (Eq.trans (by kernel_rfl) hr)
def vo8 : Con E := ⟨172, _, _, (.cons (Rd.int .i64).w .nil), .nil, 0, xS0, fun a b => ux2 (.start a.1), u68.av, u68.bx⟩
theorem uR6 : vo8.Ok := fun a b r h => ub6 (fn := Tryz.f172) (code := wa5) E_ok (by kernel_rfl) (by kernel_rfl) (by kernel_rfl) (Nat.le_of_ble_eq_true rfl) (xi9 (.start a.1) r h)
inductive wt5 where
 | start (l0 : (List ub2))
 | p116 (l0 : (List ub2)) (i4 : Int)
 | p29844 (l0 : (List ub2)) (i4 : Int) (k5 : Int)
def u65 : wt5 → List Bool
 | .start .. => []
 | .p116 .. => [false, false, true, false, true, true]
 | .p29844 .. => [false, false, true, false, true, false, false, true, false, false, true, false, true, true]
def wV8 : wt5 → St E.S
 | .start l0 => st0 48 [.sl 206 l0 false] []
 | .p116 l0 i4 => mkSt 48 [0, 4] [.sl 206 l0 false, .v (.int .i64 i4)] []
 | .p29844 l0 i4 k5 => mkSt 48 [0, 4, 5] [.sl 206 l0 false, .v (.int .i64 i4), .v (.int .i64 k5)] []
abbrev xP5 : Type := ((Int × (Int × Unit)) × Unit)
def uF8 : Res E (Int × (Int × Unit)) Unit := { rows := [], flat := [], keep := 0, done := [0, 1], rl := (.cons (Rd.int .i64) (.cons (Rd.int .i64) .nil)), rb := .nil }
def ur5 : wt5 → Option xP5
 | .start l0 =>
  if (decide ((List.length l0 : Int) > (12 : Int))) = true then
   some (((0 : Int), ((8 : Int), ())), ())
  else
   ur5 (.p116 l0 (0 : Int))
 | .p116 l0 i4 =>
  if (decide (i4 < (List.length l0 : Int))) = true then
   (idx l0 i4) >>= fun t1 =>
   (ue3 (.start t1.Name)) >>= fun t2 =>
   if (!t2.1.1) = true then
    some ((i4, ((4 : Int), ())), ())
   else
    ur5 (.p29844 l0 i4 (0 : Int))
  else
   some (((0 : Int), ((0 : Int), ())), ())
 | .p29844 l0 i4 k5 =>
  if (decide (k5 < i4)) = true then
   (idx l0 k5) >>= fun t1 =>
   (idx l0 i4) >>= fun t2 =>
   if (seq t1.Name t2.Name) = true then
    some ((i4, ((5 : Int), ())), ())
   else
    ur5 (.p29844 l0 i4 (IntKind.wrap .i64 (k5 + (1 : Int))))
  else
   (idx l0 i4) >>= fun t3 =>
   (ux2 (.start t3.Width)) >>= fun t4 =>
   if (!t4.1.1) = true then
    some ((i4, ((2 : Int), ())), ())
   else
    ur5 (.p116 l0 (IntKind.wrap .i64 (i4 + (1 : Int))))
 partial_fixpoint
def xc8 : List (Plc E wt5) := [⟨116, [false, false, true, false, true, true], { slots := [0, 4], rows := [], flat := [], keep := 0 }, _, _, (.cons (Rd.sl 206 false) (.cons (Rd.int .i64) .nil)), .nil, fun a b => .p116 a.1 a.2.1⟩,
 ⟨29844, [false, false, true, false, true, false, false, true, false, false, true, false, true, true], { slots := [0, 4, 5], rows := [], flat := [], keep := 0 }, _, _, (.cons (Rd.sl 206 false) (.cons (Rd.int .i64) (.cons (Rd.int .i64) .nil))), .nil, fun a b => .p29844 a.1 a.2.1 a.2.2.1⟩]
theorem wI0 : All (ub5 48 0 u65 wV8) xc8 := ⟨⟨rfl, rfl, fun _ _ => rfl, fun _ _ => rfl⟩, ⟨⟨rfl, rfl, fun _ _ => rfl, fun _ _ => rfl⟩, trivial⟩⟩
def vn0 : Code := Tryz.f137.body.getD .skip
def v05 : Spec E.S := (Con.add vo8 (Con.add u99 ub3))
theorem vG5 : ub0 E v05 := (Con.add_ok uR6 (Con.add_ok uC6 ua6))
theorem xf2 : ∀ pt r, ur5 pt = some r → Good E Tryz.f137 vn0 0 (uF8.av r) (uF8.bx r) (u65 pt) (wV8 pt) := by
 refine ur5.partial_correctness (fun pt r => Good E Tryz.f137 vn0 0 (uF8.av r) (uF8.bx r) (u65 pt) (wV8 pt)) ?_
 intro run' ih pt r hr
 cases pt <;> exact ua8 (spec := v05) (wr := (mkWr [] [])) (l := xc8) (z := 48) (p := uF8) E_ok wI0.mem rfl vG5 ih (Eq.trans (by kernel_rfl) hr)
def xd2 : Con E := ⟨137, _, _, (.cons (Rw.sl 206) .nil), .nil, 0, xP5, fun a b => ur5 (.start a.1), uF8.av, uF8.bx⟩
theorem wz4 : xd2.Ok := fun a b r h => ub6 (fn := Tryz.f137) (code := vn0) E_ok (by kernel_rfl) (by kernel_rfl) (by kernel_rfl) (Nat.le_of_ble_eq_true rfl) (xf2 (.start a.1) r h)
inductive wx4 where
 | start (n0 : Int)
def vs6 : wx4 → List Bool
 | .start .. => []
def xw8 : wx4 → St E.S
 | .start n0 => st0 5 [.v (.int .i64 n0)] []
abbrev xH8 : Type := ((Int × Unit) × Unit)
def u17 : Res E (Int × Unit) Unit := { rows := [], flat := [], keep := 0, done := [0], rl := (.cons (Rd.int .i64) .nil), rb := .nil }
def uk0 : wx4 → Option xH8
 | .start n0 =>
  if (decide ((0 : Int) ≤ n0)) = true then
   some ((shl .i64 (1 : Int) n0, ()), ())
  else none
def wO1 : List (Plc E wx4) := []
theorem wG5 : All (ub5 5 0 vs6 xw8) wO1 := trivial
def v57 : Code := Tryz.f92.body.getD .skip
def v93 : Spec E.S := ub3
theorem vH3 : ub0 E v93 := ua6
theorem xi2 : ∀ pt r, uk0 pt = some r → Good E Tryz.f92 v57 0 (u17.av r) (u17.bx r) (vs6 pt) (xw8 pt) := by
 intro pt r hr
 cases pt <;> exact ua8 (spec := v93) (wr := (mkWr [] [])) (l := wO1) (z := 5) (p := u17) (run' := fun _ => none) E_ok wG5.mem rfl vH3 (fun _ _ h => by cases h) (Eq.trans (by kernel_rfl) hr)
def vq8 : Con E := ⟨92, _, _, (.cons (Rd.int .i64).w .nil), .nil, 0, xH8, fun a b => uk0 (.start a.1), u17.av, u17.bx⟩
theorem uO6 : vq8.Ok := fun a b r h => ub6 (fn := Tryz.f92) (code := v57) E_ok (by kernel_rfl) (by kernel_rfl) (by kernel_rfl) (Nat.le_of_ble_eq_true rfl) (xi2 (.start a.1) r h)
inductive wE7 where
 | start (n0 : Int) (width1 : Int)
def vv5 : wE7 → List Bool
 | .start .. => []
def xx3 : wE7 → St E.S
 | .start n0 width1 => st0 10 [.v (.int .i64 n0), .v (.int .i64 width1)] []
abbrev xF1 : Type := ((Bool × Unit) × Unit)
def u87 : Res E (Bool × Unit) Unit := { rows := [], flat := [], keep := 0, done := [0], rl := (.cons Rd.bool .nil), rb := .nil }
def uw1 : wE7 → Option xF1
 | .start n0 width1 =>
  (uk0 (.start width1)) >>= fun t1 =>
  (uf8 (.start n0 (0 : Int) (IntKind.wrap .i64 (t1.1.1 - (1 : Int))))) >>= fun t2 =>
  some ((t2.1.1, ()), ())
def wT5 : List (Plc E wE7) := []
theorem wu9 : All (ub5 10 0 vv5 xx3) wT5 := trivial
def vX9 : Code := Tryz.f126.body.getD .skip
def v67 : Spec E.S := (Con.add uA8 (Con.add vq8 ub3))
theorem vJ8 : ub0 E v67 := (Con.add_ok uj3 (Con.add_ok uO6 ua6))
theorem xf9 : ∀ pt r, uw1 pt = some r → Good E Tryz.f126 vX9 0 (u87.av r) (u87.bx r) (vv5 pt) (xx3 pt) := by
 intro pt r hr
 cases pt <;> exact ua8 (spec := v67) (wr := (mkWr [] [])) (l := wT5) (z := 10) (p := u87) (run' := fun _ => none) E_ok wu9.mem rfl vJ8 (fun _ _ h => by cases h) (Eq.trans (by kernel_rfl) hr)
def vm7 : Con E := ⟨126, _, _, (.cons (Rd.int .i64).w (.cons (Rd.int .i64).w .nil)), .nil, 0, xF1, fun a b => uw1 (.start a.1 a.2.1), u87.av, u87.bx⟩
theorem uP5 : vm7.Ok := fun a b r h => ub6 (fn := Tryz.f126) (code := vX9) E_ok (by kernel_rfl) (by kernel_rfl) (by kernel_rfl) (Nat.le_of_ble_eq_true rfl) (xf9 (.start a.1 a.2.1) r h)
inductive wp9 where
 | start (inputs0 : (List ub2)) (l1 : (List ua1))
 | p116 (inputs0 : (List ub2)) (l1 : (List ua1)) (i6 : Int)
 | p29844 (inputs0 : (List ub2)) (l1 : (List ua1)) (i6 : Int) (k7 : Int)
 | p59700 (inputs0 : (List ub2)) (l1 : (List ua1)) (i6 : Int) (k8 : Int)
def u42 : wp9 → List Bool
 | .start .. => []
 | .p116 .. => [false, false, true, false, true, true]
 | .p29844 .. => [false, false, true, false, true, false, false, true, false, false, true, false, true, true]
 | .p59700 .. => [false, false, true, false, true, true, false, false, true, false, false, true, false, true, true]
def wP4 : wp9 → St E.S
 | .start inputs0 l1 => st0 103 [.sl 206 inputs0 false, .sl 82 l1 false] []
 | .p116 inputs0 l1 i6 => mkSt 103 [0, 1, 6] [.sl 206 inputs0 false, .sl 82 l1 false, .v (.int .i64 i6)] []
 | .p29844 inputs0 l1 i6 k7 => mkSt 103 [0, 1, 6, 7] [.sl 206 inputs0 false, .sl 82 l1 false, .v (.int .i64 i6), .v (.int .i64 k7)] []
 | .p59700 inputs0 l1 i6 k8 => mkSt 103 [0, 1, 6, 8] [.sl 206 inputs0 false, .sl 82 l1 false, .v (.int .i64 i6), .v (.int .i64 k8)] []
abbrev xM7 : Type := ((Int × (Int × Unit)) × Unit)
def uG3 : Res E (Int × (Int × Unit)) Unit := { rows := [], flat := [], keep := 0, done := [0, 1], rl := (.cons (Rd.int .i64) (.cons (Rd.int .i64) .nil)), rb := .nil }
def ud7 : wp9 → Option xM7
 | .start inputs0 l1 =>
  if (decide ((IntKind.wrap .i64 ((List.length inputs0 : Int) + (List.length l1 : Int))) > (40 : Int))) = true then
   some (((0 : Int), ((8 : Int), ())), ())
  else
   ud7 (.p116 inputs0 l1 (0 : Int))
 | .p116 inputs0 l1 i6 =>
  if (decide (i6 < (List.length l1 : Int))) = true then
   (idx l1 i6) >>= fun t1 =>
   (ue3 (.start t1.Name)) >>= fun t2 =>
   if (!t2.1.1) = true then
    some ((i6, ((4 : Int), ())), ())
   else
    ud7 (.p29844 inputs0 l1 i6 (0 : Int))
  else
   some (((0 : Int), ((0 : Int), ())), ())
 | .p29844 inputs0 l1 i6 k7 =>
  if (decide (k7 < i6)) = true then
   (idx l1 k7) >>= fun t1 =>
   (idx l1 i6) >>= fun t2 =>
   if (seq t1.Name t2.Name) = true then
    some ((i6, ((5 : Int), ())), ())
   else
    ud7 (.p29844 inputs0 l1 i6 (IntKind.wrap .i64 (k7 + (1 : Int))))
  else
   ud7 (.p59700 inputs0 l1 i6 (0 : Int))
 | .p59700 inputs0 l1 i6 k8 =>
  if (decide (k8 < (List.length inputs0 : Int))) = true then
   (idx inputs0 k8) >>= fun t1 =>
   (idx l1 i6) >>= fun t2 =>
   if (seq t1.Name t2.Name) = true then
    some ((i6, ((5 : Int), ())), ())
   else
    ud7 (.p59700 inputs0 l1 i6 (IntKind.wrap .i64 (k8 + (1 : Int))))
  else
   (idx l1 i6) >>= fun t3 =>
   (uf8 (.start t3.Kind (0 : Int) (1 : Int))) >>= fun t4 =>
   if (!t4.1.1) = true then
    some ((i6, ((15 : Int), ())), ())
   else
    (idx l1 i6) >>= fun t5 =>
    (ux2 (.start t5.Width)) >>= fun t6 =>
    if (!t6.1.1) = true then
     some ((i6, ((2 : Int), ())), ())
    else
     (idx l1 i6) >>= fun t7 =>
     (idx l1 i6) >>= fun t8 =>
     (uw1 (.start t7.Init t8.Width)) >>= fun t9 =>
     if (!t9.1.1) = true then
      some ((i6, ((2 : Int), ())), ())
     else
      (idx l1 i6) >>= fun t10 =>
      (uf8 (.start t10.Clock (0 : Int) (3 : Int))) >>= fun t11 =>
      if (!t11.1.1) = true then
       some ((i6, ((2 : Int), ())), ())
      else
       ud7 (.p116 inputs0 l1 (IntKind.wrap .i64 (i6 + (1 : Int))))
 partial_fixpoint
def wO5 : List (Plc E wp9) := [⟨116, [false, false, true, false, true, true], { slots := [0, 1, 6], rows := [], flat := [], keep := 0 }, _, _, (.cons (Rd.sl 206 false) (.cons (Rd.sl 82 false) (.cons (Rd.int .i64) .nil))), .nil, fun a b => .p116 a.1 a.2.1 a.2.2.1⟩,
 ⟨29844, [false, false, true, false, true, false, false, true, false, false, true, false, true, true], { slots := [0, 1, 6, 7], rows := [], flat := [], keep := 0 }, _, _, (.cons (Rd.sl 206 false) (.cons (Rd.sl 82 false) (.cons (Rd.int .i64) (.cons (Rd.int .i64) .nil)))), .nil, fun a b => .p29844 a.1 a.2.1 a.2.2.1 a.2.2.2.1⟩,
 ⟨59700, [false, false, true, false, true, true, false, false, true, false, false, true, false, true, true], { slots := [0, 1, 6, 8], rows := [], flat := [], keep := 0 }, _, _, (.cons (Rd.sl 206 false) (.cons (Rd.sl 82 false) (.cons (Rd.int .i64) (.cons (Rd.int .i64) .nil)))), .nil, fun a b => .p59700 a.1 a.2.1 a.2.2.1 a.2.2.2.1⟩]
theorem wr3 : All (ub5 103 0 u42 wP4) wO5 := ⟨⟨rfl, rfl, fun _ _ => rfl, fun _ _ => rfl⟩, ⟨⟨rfl, rfl, fun _ _ => rfl, fun _ _ => rfl⟩, ⟨⟨rfl, rfl, fun _ _ => rfl, fun _ _ => rfl⟩, trivial⟩⟩⟩
def vh9 : Code := Tryz.f138.body.getD .skip
def wb7 : Spec E.S := (Con.add vm7 (Con.add vo8 (Con.add uA8 (Con.add u99 ub3))))
theorem vN7 : ub0 E wb7 := (Con.add_ok uP5 (Con.add_ok uR6 (Con.add_ok uj3 (Con.add_ok uC6 ua6))))
theorem xu3 : ∀ pt r, ud7 pt = some r → Good E Tryz.f138 vh9 0 (uG3.av r) (uG3.bx r) (u42 pt) (wP4 pt) := by
 refine ud7.partial_correctness (fun pt r => Good E Tryz.f138 vh9 0 (uG3.av r) (uG3.bx r) (u42 pt) (wP4 pt)) ?_
 intro run' ih pt r hr
 cases pt <;> exact ua8 (spec := wb7) (wr := (mkWr [] [])) (l := wO5) (z := 103) (p := uG3) E_ok wr3.mem rfl vN7 ih (Eq.trans (by kernel_rfl) hr)
def w64 : Con E := ⟨138, _, _, (.cons (Rw.sl 206) (.cons (Rw.sl 82) .nil)), .nil, 0, xM7, fun a b => ud7 (.start a.1 a.2.1), uG3.av, uG3.bx⟩
theorem wi4 : w64.Ok := fun a b r h => ub6 (fn := Tryz.f138) (code := vh9) E_ok (by kernel_rfl) (by kernel_rfl) (by kernel_rfl) (Nat.le_of_ble_eq_true rfl) (xu3 (.start a.1 a.2.1) r h)
inductive wy4 where
 | start (d0_0 : ByteArray) (d0_1 : (List ub2)) (d0_2 : (List ua1)) (d0_3 : (List ua2)) (d0_4 : (List ua5)) (d0_5 : (List ua9)) (d0_6 : (List ua7))
 | p116 (i4 : Int) (C0 : ByteArray) (C1 : (List ub2)) (C2 : (List ua1)) (C3 : (List ua2)) (C4 : (List ua5)) (C5 : (List ua9)) (C6 : (List ua7)) (B1 : (List Int))
 | p244 (i5 : Int) (C0 : ByteArray) (C1 : (List ub2)) (C2 : (List ua1)) (C3 : (List ua2)) (C4 : (List ua5)) (C5 : (List ua9)) (C6 : (List ua7)) (B1 : (List Int))
def uX7 : wy4 → List Bool
 | .start .. => []
 | .p116 .. => [false, false, true, false, true, true]
 | .p244 .. => [false, false, true, false, true, true, true]
def wN5 : wy4 → St E.S
 | .start d0_0 d0_1 d0_2 d0_3 d0_4 d0_5 d0_6 => st0 39 [.agg [.v (.string d0_0), .sl 206 d0_1 false, .sl 82 d0_2 false, .sl 208 d0_3 false, .sl 85 d0_4 false, .sl 190 d0_5 false, .sl 146 d0_6 false]] []
 | .p116 i4 C0 C1 C2 C3 C4 C5 C6 B1 => mkSt 39 [1, 3, 4] [.bp 0 0, .rw 1, .v (.int .i64 i4)] [.var 75 [.v (.string C0), .sl 206 C1 false, .sl 82 C2 false, .sl 208 C3 false, .sl 85 C4 false, .sl 190 C5 false, .sl 146 C6 false], .row 3 B1 false]
 | .p244 i5 C0 C1 C2 C3 C4 C5 C6 B1 => mkSt 39 [1, 3, 5] [.bp 0 0, .rw 1, .v (.int .i64 i5)] [.var 75 [.v (.string C0), .sl 206 C1 false, .sl 82 C2 false, .sl 208 C3 false, .sl 85 C4 false, .sl 190 C5 false, .sl 146 C6 false], .row 3 B1 false]
abbrev xN6 : Type := ((Unit × Unit) × ((List Int) × Unit))
def uF9 : Res E (Unit × Unit) ((List Int) × Unit) := { rows := [], flat := [], keep := 0, done := [0], rl := (.cons (Rd.rw 0) .nil), rb := (.cons (.row 3 true) .nil) }
def ur6 : wy4 → Option xN6
 | .start d0_0 d0_1 d0_2 d0_3 d0_4 d0_5 d0_6 =>
  ur6 (.p116 (0 : Int) d0_0 d0_1 d0_2 d0_3 d0_4 d0_5 d0_6 ([] : List Int))
 | .p116 i4 C0 C1 C2 C3 C4 C5 C6 B1 =>
  if (decide (i4 < (List.length C1 : Int))) = true then
   (idx C1 i4) >>= fun t1 =>
   if (fits (List.length B1) (List.length ([t1.Width] : List Int)) 8) = true then
    ur6 (.p116 (IntKind.wrap .i64 (i4 + (1 : Int))) C0 C1 C2 C3 C4 C5 C6 (B1 ++ ([t1.Width] : List Int)))
   else none
  else
   ur6 (.p244 (0 : Int) C0 C1 C2 C3 C4 C5 C6 B1)
 | .p244 i5 C0 C1 C2 C3 C4 C5 C6 B1 =>
  if (decide (i5 < (List.length C2 : Int))) = true then
   (idx C2 i5) >>= fun t1 =>
   if (fits (List.length B1) (List.length ([t1.Width] : List Int)) 8) = true then
    ur6 (.p244 (IntKind.wrap .i64 (i5 + (1 : Int))) C0 C1 C2 C3 C4 C5 C6 (B1 ++ ([t1.Width] : List Int)))
   else none
  else
   some (((), ()), (B1, ()))
 partial_fixpoint
def wV9 : List (Plc E wy4) := [⟨116, [false, false, true, false, true, true], { slots := [1, 3, 4], rows := [(3, 3)], flat := [], keep := 0 }, _, _, (.cons (Rd.bp 0 0) (.cons (Rd.rw 1) (.cons (Rd.int .i64) .nil))), (.cons (.var 75 (.cons Rd.str (.cons (Rd.sl 206 false) (.cons (Rd.sl 82 false) (.cons (Rd.sl 208 false) (.cons (Rd.sl 85 false) (.cons (Rd.sl 190 false) (.cons (Rd.sl 146 false) .nil)))))))) (.cons (.row 3 false) .nil)), fun a b => .p116 a.2.2.1 b.1.1 b.1.2.1 b.1.2.2.1 b.1.2.2.2.1 b.1.2.2.2.2.1 b.1.2.2.2.2.2.1 b.1.2.2.2.2.2.2.1 b.2.1⟩,
 ⟨244, [false, false, true, false, true, true, true], { slots := [1, 3, 5], rows := [], flat := [], keep := 0 }, _, _, (.cons (Rd.bp 0 0) (.cons (Rd.rw 1) (.cons (Rd.int .i64) .nil))), (.cons (.var 75 (.cons Rd.str (.cons (Rd.sl 206 false) (.cons (Rd.sl 82 false) (.cons (Rd.sl 208 false) (.cons (Rd.sl 85 false) (.cons (Rd.sl 190 false) (.cons (Rd.sl 146 false) .nil)))))))) (.cons (.row 3 false) .nil)), fun a b => .p244 a.2.2.1 b.1.1 b.1.2.1 b.1.2.2.1 b.1.2.2.2.1 b.1.2.2.2.2.1 b.1.2.2.2.2.2.1 b.1.2.2.2.2.2.2.1 b.2.1⟩]
theorem wB1 : All (ub5 39 0 uX7 wN5) wV9 := ⟨⟨rfl, rfl, fun _ _ => rfl, fun _ _ => rfl⟩, ⟨⟨rfl, rfl, fun _ _ => rfl, fun _ _ => rfl⟩, trivial⟩⟩
def vi0 : Code := Tryz.f140.body.getD .skip
def wi0 : Spec E.S := ub3
theorem vH6 : ub0 E wi0 := ua6
theorem xs4 : ∀ pt r, ur6 pt = some r → Good E Tryz.f140 vi0 0 (uF9.av r) (uF9.bx r) (uX7 pt) (wN5 pt) := by
 refine ur6.partial_correctness (fun pt r => Good E Tryz.f140 vi0 0 (uF9.av r) (uF9.bx r) (uX7 pt) (wN5 pt)) ?_
 intro run' ih pt r hr
 cases pt <;> exact ua8 (spec := wi0) (wr := (mkWr [] [])) (l := wV9) (z := 39) (p := uF9) E_ok wB1.mem rfl vH6 ih (Eq.trans (by kernel_rfl) hr)
def wS7 : Con E := ⟨140, _, _, (.cons (Rw.agg (.cons Rd.str.w (.cons (Rw.sl 206) (.cons (Rw.sl 82) (.cons (Rw.sl 208) (.cons (Rw.sl 85) (.cons (Rw.sl 190) (.cons (Rw.sl 146) .nil)))))))) .nil), .nil, 0, xN6, fun a b => ur6 (.start a.1.1 a.1.2.1 a.1.2.2.1 a.1.2.2.2.1 a.1.2.2.2.2.1 a.1.2.2.2.2.2.1 a.1.2.2.2.2.2.2.1), uF9.av, uF9.bx⟩
theorem wv0 : wS7.Ok := fun a b r h => ub6 (fn := Tryz.f140) (code := vi0) E_ok (by kernel_rfl) (by kernel_rfl) (by kernel_rfl) (Nat.le_of_ble_eq_true rfl) (xs4 (.start a.1.1 a.1.2.1 a.1.2.2.1 a.1.2.2.2.1 a.1.2.2.2.2.1 a.1.2.2.2.2.2.1 a.1.2.2.2.2.2.2.1) r h)
inductive wD7 where
 | start (op0 : Int)
 | p53 (s3 : Int) (s4 : Bool)
 | p215 (s3 : Int) (s7 : Bool)
def uV9 : wD7 → List Bool
 | .start .. => []
 | .p53 .. => [true, false, true, false, true]
 | .p215 .. => [true, true, true, false, true, false, true]
def wR0 : wD7 → St E.S
 | .start op0 => st0 14 [.v (.int .i64 op0)] []
 | .p53 s3 s4 => mkSt 14 [3, 4] [.v (.int .i64 s3), .v (.bool s4)] []
 | .p215 s3 s7 => mkSt 14 [3, 7] [.v (.int .i64 s3), .v (.bool s7)] []
abbrev xI6 : Type := ((Int × Unit) × Unit)
def uG5 : Res E (Int × Unit) Unit := { rows := [], flat := [], keep := 0, done := [0], rl := (.cons (Rd.int .i64) .nil), rb := .nil }
def um6 : wD7 → Option xI6
 | .start op0 =>
  if (op0 == (0 : Int)) = true then
   um6 (.p53 op0 (op0 == (0 : Int)))
  else
   um6 (.p53 op0 (op0 == (1 : Int)))
 | .p53 s3 s4 =>
  if s4 = true then
   some (((0 : Int), ()), ())
  else
   if (s3 == (2 : Int)) = true then
    um6 (.p215 s3 (s3 == (2 : Int)))
   else
    if (s3 == (14 : Int)) = true then
     um6 (.p215 s3 (s3 == (14 : Int)))
    else
     if (s3 == (15 : Int)) = true then
      um6 (.p215 s3 (s3 == (15 : Int)))
     else
      um6 (.p215 s3 (s3 == (16 : Int)))
 | .p215 s3 s7 =>
  if s7 = true then
   some (((1 : Int), ()), ())
  else
   if (s3 == (12 : Int)) = true then
    some (((3 : Int), ()), ())
   else
    some (((2 : Int), ()), ())
 partial_fixpoint
def xd3 : List (Plc E wD7) := [⟨53, [true, false, true, false, true], { slots := [3, 4], rows := [], flat := [], keep := 0 }, _, _, (.cons (Rd.int .i64) (.cons Rd.bool .nil)), .nil, fun a b => .p53 a.1 a.2.1⟩,
 ⟨215, [true, true, true, false, true, false, true], { slots := [3, 7], rows := [], flat := [], keep := 0 }, _, _, (.cons (Rd.int .i64) (.cons Rd.bool .nil)), .nil, fun a b => .p215 a.1 a.2.1⟩]
theorem wJ4 : All (ub5 14 0 uV9 wR0) xd3 := ⟨⟨rfl, rfl, fun _ _ => rfl, fun _ _ => rfl⟩, ⟨⟨rfl, rfl, fun _ _ => rfl, fun _ _ => rfl⟩, trivial⟩⟩
def vq1 : Code := Tryz.f192.body.getD .skip
def v90 : Spec E.S := ub3
theorem vO4 : ub0 E v90 := ua6
theorem xm6 : ∀ pt r, um6 pt = some r → Good E Tryz.f192 vq1 0 (uG5.av r) (uG5.bx r) (uV9 pt) (wR0 pt) := by
 refine um6.partial_correctness (fun pt r => Good E Tryz.f192 vq1 0 (uG5.av r) (uG5.bx r) (uV9 pt) (wR0 pt)) ?_
 intro run' ih pt r hr
 cases pt <;> exact ua8 (spec := v90) (wr := (mkWr [] [])) (l := xd3) (z := 14) (p := uG5) E_ok wJ4.mem rfl vO4 ih (Eq.trans (by kernel_rfl) hr)
def w52 : Con E := ⟨192, _, _, (.cons (Rd.int .i64).w .nil), .nil, 0, xI6, fun a b => um6 (.start a.1), uG5.av, uG5.bx⟩
theorem wt6 : w52.Ok := fun a b r h => ub6 (fn := Tryz.f192) (code := vq1) E_ok (by kernel_rfl) (by kernel_rfl) (by kernel_rfl) (Nat.le_of_ble_eq_true rfl) (xm6 (.start a.1) r h)
inductive wE4 where
 | start (nodes0 : (List ua2)) (x1_0 : Int) (x1_1 : Int) (x1_2 : (List Int)) (x1_3 : Int)
 | p116 (nodes0 : (List ua2)) (k6 : Int) (C0 : Int) (C1 : Int) (C2 : (List Int)) (C3 : Int) (B1 : (List Int))
 | p983 (s27 : Int) (s36 : Bool) (C0 : Int) (C1 : Int) (C2 : (List Int)) (C3 : Int) (B1 : (List Int))
 | p3935 (s27 : Int) (s57 : Bool) (C0 : Int) (C1 : Int) (C2 : (List Int)) (C3 : Int) (B1 : (List Int))
 | p1007615 (s118 : Bool) (C0 : Int) (C1 : Int) (C2 : (List Int)) (C3 : Int) (B1 : (List Int))
def uY9 : wE4 → List Bool
 | .start .. => []
 | .p116 .. => [false, false, true, false, true, true]
 | .p983 .. => [true, true, true, false, true, false, true, true, true]
 | .p3935 .. => [true, true, true, true, true, false, true, false, true, true, true]
 | .p1007615 .. => [true, true, true, true, true, true, true, true, true, true, true, true, true, false, true, false, true, true, true]
def wK8 : wE4 → St E.S
 | .start nodes0 x1_0 x1_1 x1_2 x1_3 => st0 133 [.sl 208 nodes0 false, .agg [.v (.int .i64 x1_0), .v (.int .i64 x1_1), .sl 3 x1_2 false, .v (.int .i64 x1_3)]] []
 | .p116 nodes0 k6 C0 C1 C2 C3 B1 => mkSt 133 [0, 3, 5, 6] [.sl 208 nodes0 false, .bp 0 0, .rw 1, .v (.int .i64 k6)] [.var 208 [.v (.int .i64 C0), .v (.int .i64 C1), .sl 3 C2 false, .v (.int .i64 C3)], .row 3 B1 false]
 | .p983 s27 s36 C0 C1 C2 C3 B1 => mkSt 133 [3, 5, 27, 36] [.bp 0 0, .rw 1, .v (.int .i64 s27), .v (.bool s36)] [.var 208 [.v (.int .i64 C0), .v (.int .i64 C1), .sl 3 C2 false, .v (.int .i64 C3)], .row 3 B1 false]
 | .p3935 s27 s57 C0 C1 C2 C3 B1 => mkSt 133 [3, 5, 27, 57] [.bp 0 0, .rw 1, .v (.int .i64 s27), .v (.bool s57)] [.var 208 [.v (.int .i64 C0), .v (.int .i64 C1), .sl 3 C2 false, .v (.int .i64 C3)], .row 3 B1 false]
 | .p1007615 s118 C0 C1 C2 C3 B1 => mkSt 133 [3, 5, 118] [.bp 0 0, .rw 1, .v (.bool s118)] [.var 208 [.v (.int .i64 C0), .v (.int .i64 C1), .sl 3 C2 false, .v (.int .i64 C3)], .row 3 B1 false]
abbrev xK7 : Type := ((Bool × Unit) × Unit)
def uG1 : Res E (Bool × Unit) Unit := { rows := [], flat := [], keep := 0, done := [0], rl := (.cons Rd.bool .nil), rb := .nil }
def ug4 : wE4 → Option xK7
 | .start nodes0 x1_0 x1_1 x1_2 x1_3 =>
  ug4 (.p116 nodes0 (0 : Int) x1_0 x1_1 x1_2 x1_3 ([] : List Int))
 | .p116 nodes0 k6 C0 C1 C2 C3 B1 =>
  if (decide (k6 < (List.length C2 : Int))) = true then
   (idx C2 k6) >>= fun t1 =>
   (idx nodes0 t1) >>= fun t2 =>
   if (fits (List.length B1) (List.length ([t2.Width] : List Int)) 8) = true then
    ug4 (.p116 nodes0 (IntKind.wrap .i64 (k6 + (1 : Int))) C0 C1 C2 C3 (B1 ++ ([t2.Width] : List Int)))
   else none
  else
   if (C0 == (2 : Int)) = true then
    if (decide ((0 : Int) ≤ (0 : Int)) && decide ((0 : Int) < (List.length B1 : Int))) = true then
     (idx B1 (0 : Int)) >>= fun t3 =>
     some ((t3 == C1, ()), ())
    else none
   else
    if (C0 == (3 : Int)) = true then
     ug4 (.p983 C0 (C0 == (3 : Int)) C0 C1 C2 C3 B1)
    else
     if (C0 == (4 : Int)) = true then
      ug4 (.p983 C0 (C0 == (4 : Int)) C0 C1 C2 C3 B1)
     else
      if (C0 == (5 : Int)) = true then
       ug4 (.p983 C0 (C0 == (5 : Int)) C0 C1 C2 C3 B1)
      else
       if (C0 == (6 : Int)) = true then
        ug4 (.p983 C0 (C0 == (6 : Int)) C0 C1 C2 C3 B1)
       else
        if (C0 == (7 : Int)) = true then
         ug4 (.p983 C0 (C0 == (7 : Int)) C0 C1 C2 C3 B1)
        else
         ug4 (.p983 C0 (C0 == (8 : Int)) C0 C1 C2 C3 B1)
 | .p983 s27 s36 C0 C1 C2 C3 B1 =>
  if s36 = true then
   if (decide ((0 : Int) ≤ (0 : Int)) && decide ((0 : Int) < (List.length B1 : Int))) = true then
    (idx B1 (0 : Int)) >>= fun t1 =>
    if (t1 == C1) = true then
     if (decide ((0 : Int) ≤ (1 : Int)) && decide ((1 : Int) < (List.length B1 : Int))) = true then
      (idx B1 (1 : Int)) >>= fun t2 =>
      some ((t2 == C1, ()), ())
     else none
    else
     some ((false, ()), ())
   else none
  else
   if (s27 == (9 : Int)) = true then
    ug4 (.p3935 s27 (s27 == (9 : Int)) C0 C1 C2 C3 B1)
   else
    if (s27 == (10 : Int)) = true then
     ug4 (.p3935 s27 (s27 == (10 : Int)) C0 C1 C2 C3 B1)
    else
     ug4 (.p3935 s27 (s27 == (11 : Int)) C0 C1 C2 C3 B1)
 | .p3935 s27 s57 C0 C1 C2 C3 B1 =>
  if s57 = true then
   if (decide ((0 : Int) ≤ (0 : Int)) && decide ((0 : Int) < (List.length B1 : Int))) = true then
    (idx B1 (0 : Int)) >>= fun t1 =>
    if (decide ((0 : Int) ≤ (1 : Int)) && decide ((1 : Int) < (List.length B1 : Int))) = true then
     (idx B1 (1 : Int)) >>= fun t2 =>
     if (t1 == t2) = true then
      some ((C1 == (1 : Int), ()), ())
     else
      some ((false, ()), ())
    else none
   else none
  else
   if (s27 == (12 : Int)) = true then
    if (decide ((0 : Int) ≤ (0 : Int)) && decide ((0 : Int) < (List.length B1 : Int))) = true then
     (idx B1 (0 : Int)) >>= fun t3 =>
     if (t3 == (1 : Int)) = true then
      if (decide ((0 : Int) ≤ (1 : Int)) && decide ((1 : Int) < (List.length B1 : Int))) = true then
       (idx B1 (1 : Int)) >>= fun t4 =>
       if (t4 == C1) = true then
        if (decide ((0 : Int) ≤ (2 : Int)) && decide ((2 : Int) < (List.length B1 : Int))) = true then
         (idx B1 (2 : Int)) >>= fun t5 =>
         some ((t5 == C1, ()), ())
        else none
       else
        some ((false, ()), ())
      else none
     else
      some ((false, ()), ())
    else none
   else
    if (s27 == (13 : Int)) = true then
     if (decide ((0 : Int) ≤ (0 : Int)) && decide ((0 : Int) < (List.length B1 : Int))) = true then
      (idx B1 (0 : Int)) >>= fun t6 =>
      if (decide ((0 : Int) ≤ (1 : Int)) && decide ((1 : Int) < (List.length B1 : Int))) = true then
       (idx B1 (1 : Int)) >>= fun t7 =>
       some (((IntKind.wrap .i64 (t6 + t7)) == C1, ()), ())
      else none
     else none
    else
     if (s27 == (14 : Int)) = true then
      if (decide ((0 : Int) ≤ (0 : Int)) && decide ((0 : Int) < (List.length B1 : Int))) = true then
       (idx B1 (0 : Int)) >>= fun t8 =>
       some ((decide ((IntKind.wrap .i64 (C3 + C1)) ≤ t8), ()), ())
      else none
     else
      if (s27 == (15 : Int)) = true then
       ug4 (.p1007615 (s27 == (15 : Int)) C0 C1 C2 C3 B1)
      else
       ug4 (.p1007615 (s27 == (16 : Int)) C0 C1 C2 C3 B1)
 | .p1007615 s118 C0 C1 C2 C3 B1 =>
  if s118 = true then
   if (decide ((0 : Int) ≤ (0 : Int)) && decide ((0 : Int) < (List.length B1 : Int))) = true then
    (idx B1 (0 : Int)) >>= fun t1 =>
    some ((decide (t1 ≤ C1), ()), ())
   else none
  else
   if (decide ((0 : Int) ≤ (0 : Int)) && decide ((0 : Int) < (List.length B1 : Int))) = true then
    (idx B1 (0 : Int)) >>= fun t2 =>
    some ((t2 == C1, ()), ())
   else none
 partial_fixpoint
def wL5 : List (Plc E wE4) := [⟨116, [false, false, true, false, true, true], { slots := [0, 3, 5, 6], rows := [(5, 3)], flat := [], keep := 0 }, _, _, (.cons (Rd.sl 208 false) (.cons (Rd.bp 0 0) (.cons (Rd.rw 1) (.cons (Rd.int .i64) .nil)))), (.cons (.var 208 (.cons (Rd.int .i64) (.cons (Rd.int .i64) (.cons (Rd.sl 3 false) (.cons (Rd.int .i64) .nil))))) (.cons (.row 3 false) .nil)), fun a b => .p116 a.1 a.2.2.2.1 b.1.1 b.1.2.1 b.1.2.2.1 b.1.2.2.2.1 b.2.1⟩,
 ⟨983, [true, true, true, false, true, false, true, true, true], { slots := [3, 5, 27, 36], rows := [], flat := [], keep := 0 }, _, _, (.cons (Rd.bp 0 0) (.cons (Rd.rw 1) (.cons (Rd.int .i64) (.cons Rd.bool .nil)))), (.cons (.var 208 (.cons (Rd.int .i64) (.cons (Rd.int .i64) (.cons (Rd.sl 3 false) (.cons (Rd.int .i64) .nil))))) (.cons (.row 3 false) .nil)), fun a b => .p983 a.2.2.1 a.2.2.2.1 b.1.1 b.1.2.1 b.1.2.2.1 b.1.2.2.2.1 b.2.1⟩,
 ⟨3935, [true, true, true, true, true, false, true, false, true, true, true], { slots := [3, 5, 27, 57], rows := [], flat := [], keep := 0 }, _, _, (.cons (Rd.bp 0 0) (.cons (Rd.rw 1) (.cons (Rd.int .i64) (.cons Rd.bool .nil)))), (.cons (.var 208 (.cons (Rd.int .i64) (.cons (Rd.int .i64) (.cons (Rd.sl 3 false) (.cons (Rd.int .i64) .nil))))) (.cons (.row 3 false) .nil)), fun a b => .p3935 a.2.2.1 a.2.2.2.1 b.1.1 b.1.2.1 b.1.2.2.1 b.1.2.2.2.1 b.2.1⟩,
 ⟨1007615, [true, true, true, true, true, true, true, true, true, true, true, true, true, false, true, false, true, true, true], { slots := [3, 5, 118], rows := [], flat := [], keep := 0 }, _, _, (.cons (Rd.bp 0 0) (.cons (Rd.rw 1) (.cons Rd.bool .nil))), (.cons (.var 208 (.cons (Rd.int .i64) (.cons (Rd.int .i64) (.cons (Rd.sl 3 false) (.cons (Rd.int .i64) .nil))))) (.cons (.row 3 false) .nil)), fun a b => .p1007615 a.2.2.1 b.1.1 b.1.2.1 b.1.2.2.1 b.1.2.2.2.1 b.2.1⟩]
theorem wo2 : All (ub5 133 0 uY9 wK8) wL5 := ⟨⟨rfl, rfl, fun _ _ => rfl, fun _ _ => rfl⟩, ⟨⟨rfl, rfl, fun _ _ => rfl, fun _ _ => rfl⟩, ⟨⟨rfl, rfl, fun _ _ => rfl, fun _ _ => rfl⟩, ⟨⟨rfl, rfl, fun _ _ => rfl, fun _ _ => rfl⟩, trivial⟩⟩⟩⟩
def vp8 : Code := Tryz.f193.body.getD .skip
def v56 : Spec E.S := ub3
theorem vK1 : ub0 E v56 := ua6
theorem xk8 : ∀ pt r, ug4 pt = some r → Good E Tryz.f193 vp8 0 (uG1.av r) (uG1.bx r) (uY9 pt) (wK8 pt) := by
 refine ug4.partial_correctness (fun pt r => Good E Tryz.f193 vp8 0 (uG1.av r) (uG1.bx r) (uY9 pt) (wK8 pt)) ?_
 intro run' ih pt r hr
 cases pt <;> exact ua8 (spec := v56) (wr := (mkWr [] [])) (l := wL5) (z := 133) (p := uG1) E_ok wo2.mem rfl vK1 ih (Eq.trans (by kernel_rfl) hr)
def wL3 : Con E := ⟨193, _, _, (.cons (Rw.sl 208) (.cons (Rw.agg (.cons (Rd.int .i64).w (.cons (Rd.int .i64).w (.cons (Rw.sl 3) (.cons (Rd.int .i64).w .nil))))) .nil)), .nil, 0, xK7, fun a b => ug4 (.start a.1 a.2.1.1 a.2.1.2.1 a.2.1.2.2.1 a.2.1.2.2.2.1), uG1.av, uG1.bx⟩
theorem wj1 : wL3.Ok := fun a b r h => ub6 (fn := Tryz.f193) (code := vp8) E_ok (by kernel_rfl) (by kernel_rfl) (by kernel_rfl) (Nat.le_of_ble_eq_true rfl) (xk8 (.start a.1 a.2.1.1 a.2.1.2.1 a.2.1.2.2.1 a.2.1.2.2.2.1) r h)
inductive wD0 where
 | start (leaves0 : (List Int)) (nodes1 : (List ua2)) (i2 : Int)
 | p1012 (leaves0 : (List Int)) (nodes1 : (List ua2)) (i2 : Int) (k8 : Int) (C0 : Int) (C1 : Int) (C2 : (List Int)) (C3 : Int)
 | p255 (nodes1 : (List ua2)) (C0 : Int) (C1 : Int) (C2 : (List Int)) (C3 : Int)
def u54 : wD0 → List Bool
 | .start .. => []
 | .p1012 .. => [false, false, true, false, true, true, true, true, true]
 | .p255 .. => [true, true, true, true, true, true, true]
def wY5 : wD0 → St E.S
 | .start leaves0 nodes1 i2 => st0 84 [.sl 3 leaves0 false, .sl 208 nodes1 false, .v (.int .i64 i2)] []
 | .p1012 leaves0 nodes1 i2 k8 C0 C1 C2 C3 => mkSt 84 [0, 1, 2, 7, 8] [.sl 3 leaves0 false, .sl 208 nodes1 false, .v (.int .i64 i2), .bp 0 0, .v (.int .i64 k8)] [.var 208 [.v (.int .i64 C0), .v (.int .i64 C1), .sl 3 C2 false, .v (.int .i64 C3)]]
 | .p255 nodes1 C0 C1 C2 C3 => mkSt 84 [1, 7] [.sl 208 nodes1 false, .bp 0 0] [.var 208 [.v (.int .i64 C0), .v (.int .i64 C1), .sl 3 C2 false, .v (.int .i64 C3)]]
abbrev wS4 : Type := ((Int × Unit) × Unit)
def uF0 : Res E (Int × Unit) Unit := { rows := [], flat := [], keep := 0, done := [0], rl := (.cons (Rd.int .i64) .nil), rb := .nil }
def uj6 : wD0 → Option wS4
 | .start leaves0 nodes1 i2 =>
  (idx nodes1 i2) >>= fun t1 =>
  (uf8 (.start t1.Op (0 : Int) (18 : Int))) >>= fun t2 =>
  if (!t2.1.1) = true then
   some (((15 : Int), ()), ())
  else
   (ux2 (.start t1.Width)) >>= fun t3 =>
   if (!t3.1.1) = true then
    some (((2 : Int), ()), ())
   else
    (um6 (.start t1.Op)) >>= fun t4 =>
    if ((List.length t1.Args : Int) != t4.1.1) = true then
     some (((10 : Int), ()), ())
    else
     uj6 (.p1012 leaves0 nodes1 i2 (0 : Int) t1.Op t1.Width t1.Args t1.Value)
 | .p1012 leaves0 nodes1 i2 k8 C0 C1 C2 C3 =>
  if (decide (k8 < (List.length C2 : Int))) = true then
   (idx C2 k8) >>= fun t1 =>
   (uf8 (.start t1 (0 : Int) (IntKind.wrap .i64 (i2 - (1 : Int))))) >>= fun t2 =>
   if (!t2.1.1) = true then
    some (((9 : Int), ()), ())
   else
    uj6 (.p1012 leaves0 nodes1 i2 (IntKind.wrap .i64 (k8 + (1 : Int))) C0 C1 C2 C3)
  else
   if (C0 == (0 : Int)) = true then
    (uw1 (.start C3 C1)) >>= fun t3 =>
    if (!t3.1.1) = true then
     some (((2 : Int), ()), ())
    else
     some (((0 : Int), ()), ())
   else
    if (C0 == (1 : Int)) = true then
     (uf8 (.start C3 (0 : Int) (IntKind.wrap .i64 ((List.length leaves0 : Int) - (1 : Int))))) >>= fun t4 =>
     if (!t4.1.1) = true then
      some (((6 : Int), ()), ())
     else
      (idx leaves0 C3) >>= fun t5 =>
      if (t5 != C1) = true then
       some (((25 : Int), ()), ())
      else
       some (((0 : Int), ()), ())
    else
     if (C0 == (14 : Int)) = true then
      (uf8 (.start C3 (0 : Int) (15 : Int))) >>= fun t6 =>
      if (!t6.1.1) = true then
       some (((2 : Int), ()), ())
      else
       uj6 (.p255 nodes1 C0 C1 C2 C3)
     else
      if (C3 != (0 : Int)) = true then
       some (((3 : Int), ()), ())
      else
       uj6 (.p255 nodes1 C0 C1 C2 C3)
 | .p255 nodes1 C0 C1 C2 C3 =>
  (ug4 (.start nodes1 C0 C1 C2 C3)) >>= fun t1 =>
  if (!t1.1.1) = true then
   some (((25 : Int), ()), ())
  else
   some (((0 : Int), ()), ())
 partial_fixpoint
def wT8 : List (Plc E wD0) := [⟨1012, [false, false, true, false, true, true, true, true, true], { slots := [0, 1, 2, 7, 8], rows := [], flat := [], keep := 0 }, _, _, (.cons (Rd.sl 3 false) (.cons (Rd.sl 208 false) (.cons (Rd.int .i64) (.cons (Rd.bp 0 0) (.cons (Rd.int .i64) .nil))))), (.cons (.var 208 (.cons (Rd.int .i64) (.cons (Rd.int .i64) (.cons (Rd.sl 3 false) (.cons (Rd.int .i64) .nil))))) .nil), fun a b => .p1012 a.1 a.2.1 a.2.2.1 a.2.2.2.2.1 b.1.1 b.1.2.1 b.1.2.2.1 b.1.2.2.2.1⟩,
 ⟨255, [true, true, true, true, true, true, true], { slots := [1, 7], rows := [], flat := [], keep := 0 }, _, _, (.cons (Rd.sl 208 false) (.cons (Rd.bp 0 0) .nil)), (.cons (.var 208 (.cons (Rd.int .i64) (.cons (Rd.int .i64) (.cons (Rd.sl 3 false) (.cons (Rd.int .i64) .nil))))) .nil), fun a b => .p255 a.1 b.1.1 b.1.2.1 b.1.2.2.1 b.1.2.2.2.1⟩]
theorem wj4 : All (ub5 84 0 u54 wY5) wT8 := ⟨⟨rfl, rfl, fun _ _ => rfl, fun _ _ => rfl⟩, ⟨⟨rfl, rfl, fun _ _ => rfl, fun _ _ => rfl⟩, trivial⟩⟩
def vo9 : Code := Tryz.f173.body.getD .skip
def v88 : Spec E.S := (Con.add wL3 (Con.add vm7 (Con.add w52 (Con.add vo8 (Con.add uA8 ub3)))))
theorem vD4 : ub0 E v88 := (Con.add_ok wj1 (Con.add_ok uP5 (Con.add_ok wt6 (Con.add_ok uR6 (Con.add_ok uj3 ua6)))))
theorem xo3 : ∀ pt r, uj6 pt = some r → Good E Tryz.f173 vo9 0 (uF0.av r) (uF0.bx r) (u54 pt) (wY5 pt) := by
 refine uj6.partial_correctness (fun pt r => Good E Tryz.f173 vo9 0 (uF0.av r) (uF0.bx r) (u54 pt) (wY5 pt)) ?_
 intro run' ih pt r hr
 cases pt <;> exact ua8 (spec := v88) (wr := (mkWr [] [])) (l := wT8) (z := 84) (p := uF0) E_ok wj4.mem rfl vD4 ih (Eq.trans (by kernel_rfl) hr)
def wN0 : Con E := ⟨173, _, _, (.cons (Rw.sl 3) (.cons (Rw.sl 208) (.cons (Rd.int .i64).w .nil))), .nil, 0, wS4, fun a b => uj6 (.start a.1 a.2.1 a.2.2.1), uF0.av, uF0.bx⟩
theorem wm4 : wN0.Ok := fun a b r h => ub6 (fn := Tryz.f173) (code := vo9) E_ok (by kernel_rfl) (by kernel_rfl) (by kernel_rfl) (Nat.le_of_ble_eq_true rfl) (xo3 (.start a.1 a.2.1 a.2.2.1) r h)
inductive ws7 where
 | start (leaves0 : (List Int)) (nodes1 : (List ua2))
 | p116 (leaves0 : (List Int)) (nodes1 : (List ua2)) (i6 : Int)
def uZ1 : ws7 → List Bool
 | .start .. => []
 | .p116 .. => [false, false, true, false, true, true]
def wU6 : ws7 → St E.S
 | .start leaves0 nodes1 => st0 25 [.sl 3 leaves0 false, .sl 208 nodes1 false] []
 | .p116 leaves0 nodes1 i6 => mkSt 25 [0, 1, 6] [.sl 3 leaves0 false, .sl 208 nodes1 false, .v (.int .i64 i6)] []
abbrev xH5 : Type := ((Int × (Int × Unit)) × Unit)
def uH1 : Res E (Int × (Int × Unit)) Unit := { rows := [], flat := [], keep := 0, done := [0, 1], rl := (.cons (Rd.int .i64) (.cons (Rd.int .i64) .nil)), rb := .nil }
def ul7 : ws7 → Option xH5
 | .start leaves0 nodes1 =>
  if (decide ((List.length nodes1 : Int) > (400 : Int))) = true then
   some (((0 : Int), ((8 : Int), ())), ())
  else
   ul7 (.p116 leaves0 nodes1 (0 : Int))
 | .p116 leaves0 nodes1 i6 =>
  if (decide (i6 < (List.length nodes1 : Int))) = true then
   (uj6 (.start leaves0 nodes1 i6)) >>= fun t1 =>
   if (t1.1.1 != (0 : Int)) = true then
    some ((i6, (t1.1.1, ())), ())
   else
    ul7 (.p116 leaves0 nodes1 (IntKind.wrap .i64 (i6 + (1 : Int))))
  else
   some (((0 : Int), ((0 : Int), ())), ())
 partial_fixpoint
def wW2 : List (Plc E ws7) := [⟨116, [false, false, true, false, true, true], { slots := [0, 1, 6], rows := [], flat := [], keep := 0 }, _, _, (.cons (Rd.sl 3 false) (.cons (Rd.sl 208 false) (.cons (Rd.int .i64) .nil))), .nil, fun a b => .p116 a.1 a.2.1 a.2.2.1⟩]
theorem wD1 : All (ub5 25 0 uZ1 wU6) wW2 := ⟨⟨rfl, rfl, fun _ _ => rfl, fun _ _ => rfl⟩, trivial⟩
def vj7 : Code := Tryz.f139.body.getD .skip
def vY1 : Spec E.S := (Con.add wN0 ub3)
theorem vE3 : ub0 E vY1 := (Con.add_ok wm4 ua6)
theorem xm1 : ∀ pt r, ul7 pt = some r → Good E Tryz.f139 vj7 0 (uH1.av r) (uH1.bx r) (uZ1 pt) (wU6 pt) := by
 refine ul7.partial_correctness (fun pt r => Good E Tryz.f139 vj7 0 (uH1.av r) (uH1.bx r) (uZ1 pt) (wU6 pt)) ?_
 intro run' ih pt r hr
 cases pt <;> exact ua8 (spec := vY1) (wr := (mkWr [] [])) (l := wW2) (z := 25) (p := uH1) E_ok wD1.mem rfl vE3 ih (Eq.trans (by kernel_rfl) hr)
def wS9 : Con E := ⟨139, _, _, (.cons (Rw.sl 3) (.cons (Rw.sl 208) .nil)), .nil, 0, xH5, fun a b => ul7 (.start a.1 a.2.1), uH1.av, uH1.bx⟩
theorem wr5 : wS9.Ok := fun a b r h => ub6 (fn := Tryz.f139) (code := vj7) E_ok (by kernel_rfl) (by kernel_rfl) (by kernel_rfl) (Nat.le_of_ble_eq_true rfl) (xm1 (.start a.1 a.2.1) r h)
inductive wt4 where
 | start (nodes0 : (List ua2)) (i1 : Int)
def vx8 : wt4 → List Bool
 | .start .. => []
def xD5 : wt4 → St E.S
 | .start nodes0 i1 => st0 10 [.sl 208 nodes0 false, .v (.int .i64 i1)] []
abbrev xR3 : Type := ((Bool × Unit) × Unit)
def u50 : Res E (Bool × Unit) Unit := { rows := [], flat := [], keep := 0, done := [0], rl := (.cons Rd.bool .nil), rb := .nil }
def uJ6 : wt4 → Option xR3
 | .start nodes0 i1 =>
  (uf8 (.start i1 (0 : Int) (IntKind.wrap .i64 ((List.length nodes0 : Int) - (1 : Int))))) >>= fun t1 =>
  some ((t1.1.1, ()), ())
def wP0 : List (Plc E wt4) := []
theorem wi6 : All (ub5 10 0 vx8 xD5) wP0 := trivial
def v98 : Code := Tryz.f174.body.getD .skip
def vY2 : Spec E.S := (Con.add uA8 ub3)
theorem vV2 : ub0 E vY2 := (Con.add_ok uj3 ua6)
theorem xh2 : ∀ pt r, uJ6 pt = some r → Good E Tryz.f174 v98 0 (u50.av r) (u50.bx r) (vx8 pt) (xD5 pt) := by
 intro pt r hr
 cases pt <;> exact ua8 (spec := vY2) (wr := (mkWr [] [])) (l := wP0) (z := 10) (p := u50) (run' := fun _ => none) E_ok wi6.mem rfl vV2 (fun _ _ h => by cases h) (Eq.trans (by kernel_rfl) hr)
def vp9 : Con E := ⟨174, _, _, (.cons (Rw.sl 208) (.cons (Rd.int .i64).w .nil)), .nil, 0, xR3, fun a b => uJ6 (.start a.1 a.2.1), u50.av, u50.bx⟩
theorem uR1 : vp9.Ok := fun a b r h => ub6 (fn := Tryz.f174) (code := v98) E_ok (by kernel_rfl) (by kernel_rfl) (by kernel_rfl) (Nat.le_of_ble_eq_true rfl) (xh2 (.start a.1 a.2.1) r h)
inductive wi9 where
 | start (nodes0 : (List ua2)) (l1 : (List ua9))
 | p116 (nodes0 : (List ua2)) (l1 : (List ua9)) (i6 : Int)
 | p29844 (nodes0 : (List ua2)) (l1 : (List ua9)) (i6 : Int) (k7 : Int)
def uY1 : wi9 → List Bool
 | .start .. => []
 | .p116 .. => [false, false, true, false, true, true]
 | .p29844 .. => [false, false, true, false, true, false, false, true, false, false, true, false, true, true]
def wZ3 : wi9 → St E.S
 | .start nodes0 l1 => st0 51 [.sl 208 nodes0 false, .sl 190 l1 false] []
 | .p116 nodes0 l1 i6 => mkSt 51 [0, 1, 6] [.sl 208 nodes0 false, .sl 190 l1 false, .v (.int .i64 i6)] []
 | .p29844 nodes0 l1 i6 k7 => mkSt 51 [0, 1, 6, 7] [.sl 208 nodes0 false, .sl 190 l1 false, .v (.int .i64 i6), .v (.int .i64 k7)] []
abbrev xN2 : Type := ((Int × (Int × Unit)) × Unit)
def uF6 : Res E (Int × (Int × Unit)) Unit := { rows := [], flat := [], keep := 0, done := [0, 1], rl := (.cons (Rd.int .i64) (.cons (Rd.int .i64) .nil)), rb := .nil }
def us8 : wi9 → Option xN2
 | .start nodes0 l1 =>
  if (decide ((List.length l1 : Int) > (12 : Int))) = true then
   some (((0 : Int), ((8 : Int), ())), ())
  else
   us8 (.p116 nodes0 l1 (0 : Int))
 | .p116 nodes0 l1 i6 =>
  if (decide (i6 < (List.length l1 : Int))) = true then
   (idx l1 i6) >>= fun t1 =>
   (ue3 (.start t1.Name)) >>= fun t2 =>
   if (!t2.1.1) = true then
    some ((i6, ((4 : Int), ())), ())
   else
    us8 (.p29844 nodes0 l1 i6 (0 : Int))
  else
   some (((0 : Int), ((0 : Int), ())), ())
 | .p29844 nodes0 l1 i6 k7 =>
  if (decide (k7 < i6)) = true then
   (idx l1 k7) >>= fun t1 =>
   (idx l1 i6) >>= fun t2 =>
   if (seq t1.Name t2.Name) = true then
    some ((i6, ((5 : Int), ())), ())
   else
    us8 (.p29844 nodes0 l1 i6 (IntKind.wrap .i64 (k7 + (1 : Int))))
  else
   (idx l1 i6) >>= fun t3 =>
   (uJ6 (.start nodes0 t3.Node)) >>= fun t4 =>
   if (!t4.1.1) = true then
    some ((i6, ((9 : Int), ())), ())
   else
    us8 (.p116 nodes0 l1 (IntKind.wrap .i64 (i6 + (1 : Int))))
 partial_fixpoint
def wO2 : List (Plc E wi9) := [⟨116, [false, false, true, false, true, true], { slots := [0, 1, 6], rows := [], flat := [], keep := 0 }, _, _, (.cons (Rd.sl 208 false) (.cons (Rd.sl 190 false) (.cons (Rd.int .i64) .nil))), .nil, fun a b => .p116 a.1 a.2.1 a.2.2.1⟩,
 ⟨29844, [false, false, true, false, true, false, false, true, false, false, true, false, true, true], { slots := [0, 1, 6, 7], rows := [], flat := [], keep := 0 }, _, _, (.cons (Rd.sl 208 false) (.cons (Rd.sl 190 false) (.cons (Rd.int .i64) (.cons (Rd.int .i64) .nil)))), .nil, fun a b => .p29844 a.1 a.2.1 a.2.2.1 a.2.2.2.1⟩]
theorem wm7 : All (ub5 51 0 uY1 wZ3) wO2 := ⟨⟨rfl, rfl, fun _ _ => rfl, fun _ _ => rfl⟩, ⟨⟨rfl, rfl, fun _ _ => rfl, fun _ _ => rfl⟩, trivial⟩⟩
def vn4 : Code := Tryz.f143.body.getD .skip
def vX2 : Spec E.S := (Con.add vp9 (Con.add u99 ub3))
theorem vK6 : ub0 E vX2 := (Con.add_ok uR1 (Con.add_ok uC6 ua6))
theorem xq0 : ∀ pt r, us8 pt = some r → Good E Tryz.f143 vn4 0 (uF6.av r) (uF6.bx r) (uY1 pt) (wZ3 pt) := by
 refine us8.partial_correctness (fun pt r => Good E Tryz.f143 vn4 0 (uF6.av r) (uF6.bx r) (uY1 pt) (wZ3 pt)) ?_
 intro run' ih pt r hr
 cases pt <;> exact ua8 (spec := vX2) (wr := (mkWr [] [])) (l := wO2) (z := 51) (p := uF6) E_ok wm7.mem rfl vK6 ih (Eq.trans (by kernel_rfl) hr)
def wK2 : Con E := ⟨143, _, _, (.cons (Rw.sl 208) (.cons (Rw.sl 190) .nil)), .nil, 0, xN2, fun a b => us8 (.start a.1 a.2.1), uF6.av, uF6.bx⟩
theorem wt3 : wK2.Ok := fun a b r h => ub6 (fn := Tryz.f143) (code := vn4) E_ok (by kernel_rfl) (by kernel_rfl) (by kernel_rfl) (Nat.le_of_ble_eq_true rfl) (xq0 (.start a.1 a.2.1) r h)
inductive wB5 where
 | start (nodes0 : (List ua2)) (i1 : Int)
def vr5 : wB5 → List Bool
 | .start .. => []
def xx7 : wB5 → St E.S
 | .start nodes0 i1 => st0 16 [.sl 208 nodes0 false, .v (.int .i64 i1)] []
abbrev xG2 : Type := ((Bool × Unit) × Unit)
def u74 : Res E (Bool × Unit) Unit := { rows := [], flat := [], keep := 0, done := [0], rl := (.cons Rd.bool .nil), rb := .nil }
def uP2 : wB5 → Option xG2
 | .start nodes0 i1 =>
  (uJ6 (.start nodes0 i1)) >>= fun t1 =>
  if t1.1.1 = true then
   (idx nodes0 i1) >>= fun t2 =>
   some ((t2.Width == (1 : Int), ()), ())
  else
   some ((false, ()), ())
def w08 : List (Plc E wB5) := []
theorem wp5 : All (ub5 16 0 vr5 xx7) w08 := trivial
def vY9 : Code := Tryz.f141.body.getD .skip
def wb9 : Spec E.S := (Con.add vp9 ub3)
theorem vW4 : ub0 E wb9 := (Con.add_ok uR1 ua6)
theorem xh9 : ∀ pt r, uP2 pt = some r → Good E Tryz.f141 vY9 0 (u74.av r) (u74.bx r) (vr5 pt) (xx7 pt) := by
 intro pt r hr
 cases pt <;> exact ua8 (spec := wb9) (wr := (mkWr [] [])) (l := w08) (z := 16) (p := u74) (run' := fun _ => none) E_ok wp5.mem rfl vW4 (fun _ _ h => by cases h) (Eq.trans (by kernel_rfl) hr)
def vM2 : Con E := ⟨141, _, _, (.cons (Rw.sl 208) (.cons (Rd.int .i64).w .nil)), .nil, 0, xG2, fun a b => uP2 (.start a.1 a.2.1), u74.av, u74.bx⟩
theorem vd3 : vM2.Ok := fun a b r h => ub6 (fn := Tryz.f141) (code := vY9) E_ok (by kernel_rfl) (by kernel_rfl) (by kernel_rfl) (Nat.le_of_ble_eq_true rfl) (xh9 (.start a.1 a.2.1) r h)
inductive wv8 where
 | start (elements0 : (List ua1)) (nodes1 : (List ua2)) (l2 : (List ub4))
 | p116 (elements0 : (List ua1)) (nodes1 : (List ua2)) (l2 : (List ub4)) (i7 : Int)
 | p3731 (elements0 : (List ua1)) (nodes1 : (List ua2)) (l2 : (List ub4)) (i7 : Int)
def u67 : wv8 → List Bool
 | .start .. => []
 | .p116 .. => [false, false, true, false, true, true]
 | .p3731 .. => [true, true, false, false, true, false, false, true, false, true, true]
def wV2 : wv8 → St E.S
 | .start elements0 nodes1 l2 => st0 64 [.sl 82 elements0 false, .sl 208 nodes1 false, .sl 151 l2 false] []
 | .p116 elements0 nodes1 l2 i7 => mkSt 64 [0, 1, 2, 7] [.sl 82 elements0 false, .sl 208 nodes1 false, .sl 151 l2 false, .v (.int .i64 i7)] []
 | .p3731 elements0 nodes1 l2 i7 => mkSt 64 [0, 1, 2, 7] [.sl 82 elements0 false, .sl 208 nodes1 false, .sl 151 l2 false, .v (.int .i64 i7)] []
abbrev xK8 : Type := ((Int × Unit) × Unit)
def uD5 : Res E (Int × Unit) Unit := { rows := [], flat := [], keep := 0, done := [0], rl := (.cons (Rd.int .i64) .nil), rb := .nil }
def uv6 : wv8 → Option xK8
 | .start elements0 nodes1 l2 =>
  if (decide ((List.length l2 : Int) > (16 : Int))) = true then
   some (((8 : Int), ()), ())
  else
   uv6 (.p116 elements0 nodes1 l2 (0 : Int))
 | .p116 elements0 nodes1 l2 i7 =>
  if (decide (i7 < (List.length l2 : Int))) = true then
   (idx l2 i7) >>= fun t1 =>
   (uf8 (.start t1.Element (0 : Int) (IntKind.wrap .i64 ((List.length elements0 : Int) - (1 : Int))))) >>= fun t2 =>
   if (!t2.1.1) = true then
    some (((6 : Int), ()), ())
   else
    (idx l2 i7) >>= fun t3 =>
    (uP2 (.start nodes1 t3.When)) >>= fun t4 =>
    if (!t4.1.1) = true then
     some (((9 : Int), ()), ())
    else
     (idx l2 i7) >>= fun t5 =>
     (uJ6 (.start nodes1 t5.Value)) >>= fun t6 =>
     if (!t6.1.1) = true then
      some (((9 : Int), ()), ())
     else
      uv6 (.p3731 elements0 nodes1 l2 i7)
  else
   some (((0 : Int), ()), ())
 | .p3731 elements0 nodes1 l2 i7 =>
  (idx l2 i7) >>= fun t1 =>
  (idx nodes1 t1.Value) >>= fun t2 =>
  (idx l2 i7) >>= fun t3 =>
  (idx elements0 t3.Element) >>= fun t4 =>
  if (t2.Width != t4.Width) = true then
   some (((25 : Int), ()), ())
  else
   uv6 (.p116 elements0 nodes1 l2 (IntKind.wrap .i64 (i7 + (1 : Int))))
 partial_fixpoint
def w59 : List (Plc E wv8) := [⟨116, [false, false, true, false, true, true], { slots := [0, 1, 2, 7], rows := [], flat := [], keep := 0 }, _, _, (.cons (Rd.sl 82 false) (.cons (Rd.sl 208 false) (.cons (Rd.sl 151 false) (.cons (Rd.int .i64) .nil)))), .nil, fun a b => .p116 a.1 a.2.1 a.2.2.1 a.2.2.2.1⟩,
 ⟨3731, [true, true, false, false, true, false, false, true, false, true, true], { slots := [0, 1, 2, 7], rows := [], flat := [], keep := 0 }, _, _, (.cons (Rd.sl 82 false) (.cons (Rd.sl 208 false) (.cons (Rd.sl 151 false) (.cons (Rd.int .i64) .nil)))), .nil, fun a b => .p3731 a.1 a.2.1 a.2.2.1 a.2.2.2.1⟩]
theorem wn1 : All (ub5 64 0 u67 wV2) w59 := ⟨⟨rfl, rfl, fun _ _ => rfl, fun _ _ => rfl⟩, ⟨⟨rfl, rfl, fun _ _ => rfl, fun _ _ => rfl⟩, trivial⟩⟩
def vl0 : Code := Tryz.f142.body.getD .skip
def wd4 : Spec E.S := (Con.add vp9 (Con.add vM2 (Con.add uA8 ub3)))
theorem vU5 : ub0 E wd4 := (Con.add_ok uR1 (Con.add_ok vd3 (Con.add_ok uj3 ua6)))
theorem xq1 : ∀ pt r, uv6 pt = some r → Good E Tryz.f142 vl0 0 (uD5.av r) (uD5.bx r) (u67 pt) (wV2 pt) := by
 refine uv6.partial_correctness (fun pt r => Good E Tryz.f142 vl0 0 (uD5.av r) (uD5.bx r) (u67 pt) (wV2 pt)) ?_
 intro run' ih pt r hr
 cases pt <;> exact ua8 (spec := wd4) (wr := (mkWr [] [])) (l := w59) (z := 64) (p := uD5) E_ok wn1.mem rfl vU5 ih (Eq.trans (by kernel_rfl) hr)
def wQ5 : Con E := ⟨142, _, _, (.cons (Rw.sl 82) (.cons (Rw.sl 208) (.cons (Rw.sl 151) .nil))), .nil, 0, xK8, fun a b => uv6 (.start a.1 a.2.1 a.2.2.1), uD5.av, uD5.bx⟩
theorem wm1 : wQ5.Ok := fun a b r h => ub6 (fn := Tryz.f142) (code := vl0) E_ok (by kernel_rfl) (by kernel_rfl) (by kernel_rfl) (Nat.le_of_ble_eq_true rfl) (xq1 (.start a.1 a.2.1 a.2.2.1) r h)
inductive wD6 where
 | start (l0 : (List Int)) (n1 : Int)
 | p52 (l0 : (List Int)) (n1 : Int) (i5 : Int)
def uW9 : wD6 → List Bool
 | .start .. => []
 | .p52 .. => [false, false, true, false, true]
def w45 : wD6 → St E.S
 | .start l0 n1 => st0 18 [.sl 3 l0 false, .v (.int .i64 n1)] []
 | .p52 l0 n1 i5 => mkSt 18 [0, 1, 5] [.sl 3 l0 false, .v (.int .i64 n1), .v (.int .i64 i5)] []
abbrev xO2 : Type := ((Bool × Unit) × Unit)
def uG2 : Res E (Bool × Unit) Unit := { rows := [], flat := [], keep := 0, done := [0], rl := (.cons Rd.bool .nil), rb := .nil }
def ud8 : wD6 → Option xO2
 | .start l0 n1 =>
  ud8 (.p52 l0 n1 (0 : Int))
 | .p52 l0 n1 i5 =>
  if (decide (i5 < (List.length l0 : Int))) = true then
   (idx l0 i5) >>= fun t1 =>
   if (t1 == n1) = true then
    some ((true, ()), ())
   else
    ud8 (.p52 l0 n1 (IntKind.wrap .i64 (i5 + (1 : Int))))
  else
   some ((false, ()), ())
 partial_fixpoint
def wQ7 : List (Plc E wD6) := [⟨52, [false, false, true, false, true], { slots := [0, 1, 5], rows := [], flat := [], keep := 0 }, _, _, (.cons (Rd.sl 3 false) (.cons (Rd.int .i64) (.cons (Rd.int .i64) .nil))), .nil, fun a b => .p52 a.1 a.2.1 a.2.2.1⟩]
theorem wE9 : All (ub5 18 0 uW9 w45) wQ7 := ⟨⟨rfl, rfl, fun _ _ => rfl, fun _ _ => rfl⟩, trivial⟩
def vh8 : Code := Tryz.f144.body.getD .skip
def wg4 : Spec E.S := ub3
theorem vE9 : ub0 E wg4 := ua6
theorem xk5 : ∀ pt r, ud8 pt = some r → Good E Tryz.f144 vh8 0 (uG2.av r) (uG2.bx r) (uW9 pt) (w45 pt) := by
 refine ud8.partial_correctness (fun pt r => Good E Tryz.f144 vh8 0 (uG2.av r) (uG2.bx r) (uW9 pt) (w45 pt)) ?_
 intro run' ih pt r hr
 cases pt <;> exact ua8 (spec := wg4) (wr := (mkWr [] [])) (l := wQ7) (z := 18) (p := uG2) E_ok wE9.mem rfl vE9 ih (Eq.trans (by kernel_rfl) hr)
def uB4 : Con E := ⟨144, _, _, (.cons (Rw.sl 3) (.cons (Rd.int .i64).w .nil)), .nil, 0, xO2, fun a b => ud8 (.start a.1 a.2.1), uG2.av, uG2.bx⟩
theorem um8 : uB4.Ok := fun a b r h => ub6 (fn := Tryz.f144) (code := vh8) E_ok (by kernel_rfl) (by kernel_rfl) (by kernel_rfl) (Nat.le_of_ble_eq_true rfl) (xk5 (.start a.1 a.2.1) r h)
inductive wI2 where
 | start (d0_0 : ByteArray) (d0_1 : (List ub2)) (d0_2 : (List ua1)) (d0_3 : (List ua2)) (d0_4 : (List ua5)) (d0_5 : (List ua9)) (d0_6 : (List ua7))
 | p2036 (i10 : Int) (C0 : ByteArray) (C1 : (List ub2)) (C2 : (List ua1)) (C3 : (List ua2)) (C4 : (List ua5)) (C5 : (List ua9)) (C6 : (List ua7))
 | p1042740 (i10 : Int) (k12 : Int) (C0 : ByteArray) (C1 : (List ub2)) (C2 : (List ua1)) (C3 : (List ua2)) (C4 : (List ua5)) (C5 : (List ua9)) (C6 : (List ua7)) (D0 : ByteArray) (D1 : Int) (D2 : (List ub4))
 | p16372 (i16 : Int) (C0 : ByteArray) (C1 : (List ub2)) (C2 : (List ua1)) (C3 : (List ua2)) (C4 : (List ua5)) (C5 : (List ua9)) (C6 : (List ua7))
 | p1047847 (i16 : Int) (C0 : ByteArray) (C1 : (List ub2)) (C2 : (List ua1)) (C3 : (List ua2)) (C4 : (List ua5)) (C5 : (List ua9)) (C6 : (List ua7)) (D0 : Int) (D1 : (List Int))
 | p8382780 (i16 : Int) (k18 : Int) (C0 : ByteArray) (C1 : (List ub2)) (C2 : (List ua1)) (C3 : (List ua2)) (C4 : (List ua5)) (C5 : (List ua9)) (C6 : (List ua7)) (D0 : Int) (D1 : (List Int))
def u71 : wI2 → List Bool
 | .start .. => []
 | .p2036 .. => [false, false, true, false, true, true, true, true, true, true]
 | .p1042740 .. => [false, false, true, false, true, true, false, false, true, false, false, true, false, true, true, true, true, true, true]
 | .p16372 .. => [false, false, true, false, true, true, true, true, true, true, true, true, true]
 | .p1047847 .. => [true, true, true, false, false, true, false, false, true, false, true, true, true, true, true, true, true, true, true]
 | .p8382780 .. => [false, false, true, true, true, true, false, false, true, false, false, true, false, true, true, true, true, true, true, true, true, true]
def w39 : wI2 → St E.S
 | .start d0_0 d0_1 d0_2 d0_3 d0_4 d0_5 d0_6 => st0 185 [.agg [.v (.string d0_0), .sl 206 d0_1 false, .sl 82 d0_2 false, .sl 208 d0_3 false, .sl 85 d0_4 false, .sl 190 d0_5 false, .sl 146 d0_6 false]] []
 | .p2036 i10 C0 C1 C2 C3 C4 C5 C6 => mkSt 185 [1, 10] [.bp 0 0, .v (.int .i64 i10)] [.var 75 [.v (.string C0), .sl 206 C1 false, .sl 82 C2 false, .sl 208 C3 false, .sl 85 C4 false, .sl 190 C5 false, .sl 146 C6 false]]
 | .p1042740 i10 k12 C0 C1 C2 C3 C4 C5 C6 D0 D1 D2 => mkSt 185 [1, 10, 11, 12] [.bp 0 0, .v (.int .i64 i10), .bp 1 0, .v (.int .i64 k12)] [.var 75 [.v (.string C0), .sl 206 C1 false, .sl 82 C2 false, .sl 208 C3 false, .sl 85 C4 false, .sl 190 C5 false, .sl 146 C6 false], .var 85 [.v (.string D0), .v (.int .i64 D1), .sl 151 D2 false]]
 | .p16372 i16 C0 C1 C2 C3 C4 C5 C6 => mkSt 185 [1, 16] [.bp 0 0, .v (.int .i64 i16)] [.var 75 [.v (.string C0), .sl 206 C1 false, .sl 82 C2 false, .sl 208 C3 false, .sl 85 C4 false, .sl 190 C5 false, .sl 146 C6 false]]
 | .p1047847 i16 C0 C1 C2 C3 C4 C5 C6 D0 D1 => mkSt 185 [1, 16, 17] [.bp 0 0, .v (.int .i64 i16), .bp 1 0] [.var 75 [.v (.string C0), .sl 206 C1 false, .sl 82 C2 false, .sl 208 C3 false, .sl 85 C4 false, .sl 190 C5 false, .sl 146 C6 false], .var 146 [.v (.int .i64 D0), .sl 3 D1 false]]
 | .p8382780 i16 k18 C0 C1 C2 C3 C4 C5 C6 D0 D1 => mkSt 185 [1, 16, 17, 18] [.bp 0 0, .v (.int .i64 i16), .bp 1 0, .v (.int .i64 k18)] [.var 75 [.v (.string C0), .sl 206 C1 false, .sl 82 C2 false, .sl 208 C3 false, .sl 85 C4 false, .sl 190 C5 false, .sl 146 C6 false], .var 146 [.v (.int .i64 D0), .sl 3 D1 false]]
abbrev xE3 : Type := ((Int × (Int × Unit)) × Unit)
def uE5 : Res E (Int × (Int × Unit)) Unit := { rows := [], flat := [], keep := 0, done := [0, 1], rl := (.cons (Rd.int .i64) (.cons (Rd.int .i64) .nil)), rb := .nil }
def ui9 : wI2 → Option xE3
 | .start d0_0 d0_1 d0_2 d0_3 d0_4 d0_5 d0_6 =>
  (ue3 (.start d0_0)) >>= fun t1 =>
  if (!t1.1.1) = true then
   some (((0 : Int), ((4 : Int), ())), ())
  else
   (ur5 (.start d0_1)) >>= fun t2 =>
   if (t2.1.2.1 != (0 : Int)) = true then
    some ((t2.1.1, (t2.1.2.1, ())), ())
   else
    (ud7 (.start d0_1 d0_2)) >>= fun t3 =>
    if (t3.1.2.1 != (0 : Int)) = true then
     some ((t3.1.1, (t3.1.2.1, ())), ())
    else
     (ur6 (.start d0_0 d0_1 d0_2 d0_3 d0_4 d0_5 d0_6)) >>= fun t4 =>
     (ul7 (.start t4.2.1 d0_3)) >>= fun t5 =>
     if (t5.1.2.1 != (0 : Int)) = true then
      some ((t5.1.1, (t5.1.2.1, ())), ())
     else
      if (decide ((List.length d0_4 : Int) > (16 : Int))) = true then
       some (((0 : Int), ((8 : Int), ())), ())
      else
       ui9 (.p2036 (0 : Int) d0_0 d0_1 d0_2 d0_3 d0_4 d0_5 d0_6)
 | .p2036 i10 C0 C1 C2 C3 C4 C5 C6 =>
  if (decide (i10 < (List.length C4 : Int))) = true then
   (idx C4 i10) >>= fun t1 =>
   (ue3 (.start t1.Name)) >>= fun t2 =>
   if (!t2.1.1) = true then
    some ((i10, ((4 : Int), ())), ())
   else
    ui9 (.p1042740 i10 (0 : Int) C0 C1 C2 C3 C4 C5 C6 t1.Name t1.Guard t1.Writes)
  else
   (us8 (.start C3 C5)) >>= fun t3 =>
   if (t3.1.2.1 != (0 : Int)) = true then
    some ((t3.1.1, (t3.1.2.1, ())), ())
   else
    if (decide ((List.length C6 : Int) > (16 : Int))) = true then
     some (((0 : Int), ((8 : Int), ())), ())
    else
     ui9 (.p16372 (0 : Int) C0 C1 C2 C3 C4 C5 C6)
 | .p1042740 i10 k12 C0 C1 C2 C3 C4 C5 C6 D0 D1 D2 =>
  if (decide (k12 < i10)) = true then
   (idx C4 k12) >>= fun t1 =>
   if (seq t1.Name D0) = true then
    some ((i10, ((5 : Int), ())), ())
   else
    ui9 (.p1042740 i10 (IntKind.wrap .i64 (k12 + (1 : Int))) C0 C1 C2 C3 C4 C5 C6 D0 D1 D2)
  else
   (uP2 (.start C3 D1)) >>= fun t2 =>
   if (!t2.1.1) = true then
    some ((i10, ((9 : Int), ())), ())
   else
    (uv6 (.start C2 C3 D2)) >>= fun t3 =>
    if (t3.1.1 != (0 : Int)) = true then
     some ((i10, (t3.1.1, ())), ())
    else
     ui9 (.p2036 (IntKind.wrap .i64 (i10 + (1 : Int))) C0 C1 C2 C3 C4 C5 C6)
 | .p16372 i16 C0 C1 C2 C3 C4 C5 C6 =>
  if (decide (i16 < (List.length C6 : Int))) = true then
   (idx C6 i16) >>= fun t1 =>
   (uf8 (.start t1.Kind (0 : Int) (3 : Int))) >>= fun t2 =>
   if (!t2.1.1) = true then
    some ((i16, ((15 : Int), ())), ())
   else
    if ((List.length t1.Rules : Int) == (0 : Int)) = true then
     some ((i16, ((10 : Int), ())), ())
    else
     if (decide ((List.length t1.Rules : Int) > (16 : Int))) = true then
      some ((i16, ((10 : Int), ())), ())
     else
      ui9 (.p1047847 i16 C0 C1 C2 C3 C4 C5 C6 t1.Kind t1.Rules)
  else
   some (((0 : Int), ((0 : Int), ())), ())
 | .p1047847 i16 C0 C1 C2 C3 C4 C5 C6 D0 D1 =>
  ui9 (.p8382780 i16 (0 : Int) C0 C1 C2 C3 C4 C5 C6 D0 D1)
 | .p8382780 i16 k18 C0 C1 C2 C3 C4 C5 C6 D0 D1 =>
  if (decide (k18 < (List.length D1 : Int))) = true then
   (idx D1 k18) >>= fun t1 =>
   (uf8 (.start t1 (0 : Int) (IntKind.wrap .i64 ((List.length C4 : Int) - (1 : Int))))) >>= fun t2 =>
   if (!t2.1.1) = true then
    some ((i16, ((6 : Int), ())), ())
   else
    (span (List.length D1) (0 : Int) k18) >>= fun t3 =>
    (idx D1 k18) >>= fun t4 =>
    (ud8 (.start (cut D1 t3) t4)) >>= fun t5 =>
    if t5.1.1 = true then
     some ((i16, ((23 : Int), ())), ())
    else
     ui9 (.p8382780 i16 (IntKind.wrap .i64 (k18 + (1 : Int))) C0 C1 C2 C3 C4 C5 C6 D0 D1)
  else
   ui9 (.p16372 (IntKind.wrap .i64 (i16 + (1 : Int))) C0 C1 C2 C3 C4 C5 C6)
 partial_fixpoint
def w86 : List (Plc E wI2) := [⟨2036, [false, false, true, false, true, true, true, true, true, true], { slots := [1, 10], rows := [], flat := [], keep := 0 }, _, _, (.cons (Rd.bp 0 0) (.cons (Rd.int .i64) .nil)), (.cons (.var 75 (.cons Rd.str (.cons (Rd.sl 206 false) (.cons (Rd.sl 82 false) (.cons (Rd.sl 208 false) (.cons (Rd.sl 85 false) (.cons (Rd.sl 190 false) (.cons (Rd.sl 146 false) .nil)))))))) .nil), fun a b => .p2036 a.2.1 b.1.1 b.1.2.1 b.1.2.2.1 b.1.2.2.2.1 b.1.2.2.2.2.1 b.1.2.2.2.2.2.1 b.1.2.2.2.2.2.2.1⟩,
 ⟨1042740, [false, false, true, false, true, true, false, false, true, false, false, true, false, true, true, true, true, true, true], { slots := [1, 10, 11, 12], rows := [], flat := [], keep := 0 }, _, _, (.cons (Rd.bp 0 0) (.cons (Rd.int .i64) (.cons (Rd.bp 1 0) (.cons (Rd.int .i64) .nil)))), (.cons (.var 75 (.cons Rd.str (.cons (Rd.sl 206 false) (.cons (Rd.sl 82 false) (.cons (Rd.sl 208 false) (.cons (Rd.sl 85 false) (.cons (Rd.sl 190 false) (.cons (Rd.sl 146 false) .nil)))))))) (.cons (.var 85 (.cons Rd.str (.cons (Rd.int .i64) (.cons (Rd.sl 151 false) .nil)))) .nil)), fun a b => .p1042740 a.2.1 a.2.2.2.1 b.1.1 b.1.2.1 b.1.2.2.1 b.1.2.2.2.1 b.1.2.2.2.2.1 b.1.2.2.2.2.2.1 b.1.2.2.2.2.2.2.1 b.2.1.1 b.2.1.2.1 b.2.1.2.2.1⟩,
 ⟨16372, [false, false, true, false, true, true, true, true, true, true, true, true, true], { slots := [1, 16], rows := [], flat := [], keep := 0 }, _, _, (.cons (Rd.bp 0 0) (.cons (Rd.int .i64) .nil)), (.cons (.var 75 (.cons Rd.str (.cons (Rd.sl 206 false) (.cons (Rd.sl 82 false) (.cons (Rd.sl 208 false) (.cons (Rd.sl 85 false) (.cons (Rd.sl 190 false) (.cons (Rd.sl 146 false) .nil)))))))) .nil), fun a b => .p16372 a.2.1 b.1.1 b.1.2.1 b.1.2.2.1 b.1.2.2.2.1 b.1.2.2.2.2.1 b.1.2.2.2.2.2.1 b.1.2.2.2.2.2.2.1⟩,
 ⟨1047847, [true, true, true, false, false, true, false, false, true, false, true, true, true, true, true, true, true, true, true], { slots := [1, 16, 17], rows := [], flat := [], keep := 0 }, _, _, (.cons (Rd.bp 0 0) (.cons (Rd.int .i64) (.cons (Rd.bp 1 0) .nil))), (.cons (.var 75 (.cons Rd.str (.cons (Rd.sl 206 false) (.cons (Rd.sl 82 false) (.cons (Rd.sl 208 false) (.cons (Rd.sl 85 false) (.cons (Rd.sl 190 false) (.cons (Rd.sl 146 false) .nil)))))))) (.cons (.var 146 (.cons (Rd.int .i64) (.cons (Rd.sl 3 false) .nil))) .nil)), fun a b => .p1047847 a.2.1 b.1.1 b.1.2.1 b.1.2.2.1 b.1.2.2.2.1 b.1.2.2.2.2.1 b.1.2.2.2.2.2.1 b.1.2.2.2.2.2.2.1 b.2.1.1 b.2.1.2.1⟩,
 ⟨8382780, [false, false, true, true, true, true, false, false, true, false, false, true, false, true, true, true, true, true, true, true, true, true], { slots := [1, 16, 17, 18], rows := [], flat := [], keep := 0 }, _, _, (.cons (Rd.bp 0 0) (.cons (Rd.int .i64) (.cons (Rd.bp 1 0) (.cons (Rd.int .i64) .nil)))), (.cons (.var 75 (.cons Rd.str (.cons (Rd.sl 206 false) (.cons (Rd.sl 82 false) (.cons (Rd.sl 208 false) (.cons (Rd.sl 85 false) (.cons (Rd.sl 190 false) (.cons (Rd.sl 146 false) .nil)))))))) (.cons (.var 146 (.cons (Rd.int .i64) (.cons (Rd.sl 3 false) .nil))) .nil)), fun a b => .p8382780 a.2.1 a.2.2.2.1 b.1.1 b.1.2.1 b.1.2.2.1 b.1.2.2.2.1 b.1.2.2.2.2.1 b.1.2.2.2.2.2.1 b.1.2.2.2.2.2.2.1 b.2.1.1 b.2.1.2.1⟩]
theorem wv2 : All (ub5 185 0 u71 w39) w86 := ⟨⟨rfl, rfl, fun _ _ => rfl, fun _ _ => rfl⟩, ⟨⟨rfl, rfl, fun _ _ => rfl, fun _ _ => rfl⟩, ⟨⟨rfl, rfl, fun _ _ => rfl, fun _ _ => rfl⟩, ⟨⟨rfl, rfl, fun _ _ => rfl, fun _ _ => rfl⟩, ⟨⟨rfl, rfl, fun _ _ => rfl, fun _ _ => rfl⟩, trivial⟩⟩⟩⟩⟩
def vl7 : Code := Tryz.f91.body.getD .skip
def wa6 : Spec E.S := (Con.add uB4 (Con.add uA8 (Con.add wQ5 (Con.add vM2 (Con.add wK2 (Con.add wS9 (Con.add wS7 (Con.add w64 (Con.add xd2 (Con.add u99 ub3))))))))))
theorem vI1 : ub0 E wa6 := (Con.add_ok um8 (Con.add_ok uj3 (Con.add_ok wm1 (Con.add_ok vd3 (Con.add_ok wt3 (Con.add_ok wr5 (Con.add_ok wv0 (Con.add_ok wi4 (Con.add_ok wz4 (Con.add_ok uC6 ua6))))))))))
theorem xt5 : ∀ pt r, ui9 pt = some r → Good E Tryz.f91 vl7 0 (uE5.av r) (uE5.bx r) (u71 pt) (w39 pt) := by
 refine ui9.partial_correctness (fun pt r => Good E Tryz.f91 vl7 0 (uE5.av r) (uE5.bx r) (u71 pt) (w39 pt)) ?_
 intro run' ih pt r hr
 cases pt <;> exact ua8 (spec := wa6) (wr := (mkWr [] [])) (l := w86) (z := 185) (p := uE5) E_ok wv2.mem rfl vI1 ih (Eq.trans (by kernel_rfl) hr)
def w46 : Con E := ⟨91, _, _, (.cons (Rw.agg (.cons Rd.str.w (.cons (Rw.sl 206) (.cons (Rw.sl 82) (.cons (Rw.sl 208) (.cons (Rw.sl 85) (.cons (Rw.sl 190) (.cons (Rw.sl 146) .nil)))))))) .nil), .nil, 0, xE3, fun a b => ui9 (.start a.1.1 a.1.2.1 a.1.2.2.1 a.1.2.2.2.1 a.1.2.2.2.2.1 a.1.2.2.2.2.2.1 a.1.2.2.2.2.2.2.1), uE5.av, uE5.bx⟩
theorem wI4 : w46.Ok := fun a b r h => ub6 (fn := Tryz.f91) (code := vl7) E_ok (by kernel_rfl) (by kernel_rfl) (by kernel_rfl) (Nat.le_of_ble_eq_true rfl) (xt5 (.start a.1.1 a.1.2.1 a.1.2.2.1 a.1.2.2.2.1 a.1.2.2.2.2.1 a.1.2.2.2.2.2.1 a.1.2.2.2.2.2.2.1) r h)
inductive xr3 where
 | start (d0_0 : ByteArray) (d0_1 : (List ub2)) (d0_2 : (List ua1)) (d0_3 : (List ua2)) (d0_4 : (List ua5)) (d0_5 : (List ua9)) (d0_6 : (List ua7))
def vv6 : xr3 → List Bool
 | .start .. => []
def xA7 : xr3 → St E.S
 | .start d0_0 d0_1 d0_2 d0_3 d0_4 d0_5 d0_6 => st0 12 [.agg [.v (.string d0_0), .sl 206 d0_1 false, .sl 82 d0_2 false, .sl 208 d0_3 false, .sl 85 d0_4 false, .sl 190 d0_5 false, .sl 146 d0_6 false]] []
abbrev x09 : Type := ((Bool × Unit) × Unit)
def u32 : Res E (Bool × Unit) Unit := { rows := [], flat := [], keep := 0, done := [0], rl := (.cons Rd.bool .nil), rb := .nil }
def u69 : xr3 → Option x09
 | .start d0_0 d0_1 d0_2 d0_3 d0_4 d0_5 d0_6 =>
  (ui9 (.start d0_0 d0_1 d0_2 d0_3 d0_4 d0_5 d0_6)) >>= fun t1 =>
  some ((t1.1.2.1 == (0 : Int), ()), ())
def wZ2 : List (Plc E xr3) := []
theorem wC9 : All (ub5 12 0 vv6 xA7) wZ2 := trivial
def v81 : Code := Tryz.f41.body.getD .skip
def v36 : Spec E.S := (Con.add w46 ub3)
theorem vR9 : ub0 E v36 := (Con.add_ok wI4 ua6)
theorem xv0 : ∀ pt r, u69 pt = some r → Good E Tryz.f41 v81 0 (u32.av r) (u32.bx r) (vv6 pt) (xA7 pt) := by
 intro pt r hr
 cases pt <;> exact ua8 (spec := v36) (wr := (mkWr [] [])) (l := wZ2) (z := 12) (p := u32) (run' := fun _ => none) E_ok wC9.mem rfl vR9 (fun _ _ h => by cases h) (Eq.trans (by kernel_rfl) hr)
def xb2 : Con E := ⟨41, _, _, (.cons (Rw.agg (.cons Rd.str.w (.cons (Rw.sl 206) (.cons (Rw.sl 82) (.cons (Rw.sl 208) (.cons (Rw.sl 85) (.cons (Rw.sl 190) (.cons (Rw.sl 146) .nil)))))))) .nil), .nil, 0, x09, fun a b => u69 (.start a.1.1 a.1.2.1 a.1.2.2.1 a.1.2.2.2.1 a.1.2.2.2.2.1 a.1.2.2.2.2.2.1 a.1.2.2.2.2.2.2.1), u32.av, u32.bx⟩
theorem wJ0 : xb2.Ok := fun a b r h => ub6 (fn := Tryz.f41) (code := v81) E_ok (by kernel_rfl) (by kernel_rfl) (by kernel_rfl) (Nat.le_of_ble_eq_true rfl) (xv0 (.start a.1.1 a.1.2.1 a.1.2.2.1 a.1.2.2.2.1 a.1.2.2.2.2.1 a.1.2.2.2.2.2.1 a.1.2.2.2.2.2.2.1) r h)
inductive wj9 where
 | start (n0 : Int) (pairs1 : (List ub1))
 | p56 (n0 : Int) (pairs1 : (List ub1)) (B0 : (List Int))
 | p7252 (n0 : Int) (pairs1 : (List ub1)) (next7 : Int) (r8 : Int) (B0 : (List Int))
 | p1856660 (n0 : Int) (pairs1 : (List ub1)) (next7 : Int) (r8 : Int) (free9 : Bool) (i10 : Int) (B0 : (List Int))
def uU9 : wj9 → List Bool
 | .start .. => []
 | .p56 .. => [false, false, false, true, true]
 | .p7252 .. => [false, false, true, false, true, false, true, false, false, false, true, true]
 | .p1856660 .. => [false, false, true, false, true, false, false, true, false, false, true, false, true, false, true, false, false, false, true, true]
def xc5 : wj9 → St E.S
 | .start n0 pairs1 => st0 57 [.v (.int .i64 n0), .sl 181 pairs1 false] []
 | .p56 n0 pairs1 B0 => mkSt 57 [0, 1, 6] [.v (.int .i64 n0), .sl 181 pairs1 false, .rw 0] [.row 3 B0 false]
 | .p7252 n0 pairs1 next7 r8 B0 => mkSt 57 [0, 1, 6, 7, 8] [.v (.int .i64 n0), .sl 181 pairs1 false, .rw 0, .v (.int .i64 next7), .v (.int .i64 r8)] [.row 3 B0 false]
 | .p1856660 n0 pairs1 next7 r8 free9 i10 B0 => mkSt 57 [0, 1, 6, 7, 8, 9, 10] [.v (.int .i64 n0), .sl 181 pairs1 false, .rw 0, .v (.int .i64 next7), .v (.int .i64 r8), .v (.bool free9), .v (.int .i64 i10)] [.row 3 B0 false]
abbrev xM9 : Type := ((Unit × (Bool × Unit)) × ((List Int) × Unit))
def uJ9 : Res E (Unit × (Bool × Unit)) ((List Int) × Unit) := { rows := [(0, 3)], flat := [], keep := 0, done := [0, 1], rl := (.cons (Rd.rw 0) (.cons Rd.bool .nil)), rb := (.cons (.row 3 true) .nil) }
def ui0 : wj9 → Option xM9
 | .start n0 pairs1 =>
  ui0 (.p56 n0 pairs1 ([] : List Int))
 | .p56 n0 pairs1 B0 =>
  if (decide ((List.length B0 : Int) < n0)) = true then
   ui0 (.p7252 n0 pairs1 (-1 : Int) (IntKind.wrap .i64 (n0 - (1 : Int))) B0)
  else
   some (((), (true, ())), (B0, ()))
 | .p7252 n0 pairs1 next7 r8 B0 =>
  if (decide (r8 ≥ (0 : Int))) = true then
   (ud8 (.start B0 r8)) >>= fun t1 =>
   ui0 (.p1856660 n0 pairs1 next7 r8 (!t1.1.1) (0 : Int) B0)
  else
   if (decide (next7 < (0 : Int))) = true then
    some (((), (false, ())), (([] : List Int), ()))
   else
    if (fits (List.length B0) (List.length ([next7] : List Int)) 8) = true then
     ui0 (.p56 n0 pairs1 (B0 ++ ([next7] : List Int)))
    else none
 | .p1856660 n0 pairs1 next7 r8 free9 i10 B0 =>
  if (decide (i10 < (List.length pairs1 : Int))) = true then
   (idx pairs1 i10) >>= fun t1 =>
   if (t1.a1 == r8) = true then
    (idx pairs1 i10) >>= fun t2 =>
    (ud8 (.start B0 t2.a0)) >>= fun t3 =>
    if (!t3.1.1) = true then
     ui0 (.p1856660 n0 pairs1 next7 r8 false (IntKind.wrap .i64 (i10 + (1 : Int))) B0)
    else
     ui0 (.p1856660 n0 pairs1 next7 r8 free9 (IntKind.wrap .i64 (i10 + (1 : Int))) B0)
   else
    ui0 (.p1856660 n0 pairs1 next7 r8 free9 (IntKind.wrap .i64 (i10 + (1 : Int))) B0)
  else
   if free9 = true then
    ui0 (.p7252 n0 pairs1 r8 (IntKind.wrap .i64 (r8 - (1 : Int))) B0)
   else
    ui0 (.p7252 n0 pairs1 next7 (IntKind.wrap .i64 (r8 - (1 : Int))) B0)
 partial_fixpoint
def wU8 : List (Plc E wj9) := [⟨56, [false, false, false, true, true], { slots := [0, 1, 6], rows := [(6, 3)], flat := [], keep := 0 }, _, _, (.cons (Rd.int .i64) (.cons (Rd.sl 181 false) (.cons (Rd.rw 0) .nil))), (.cons (.row 3 false) .nil), fun a b => .p56 a.1 a.2.1 b.1⟩,
 ⟨7252, [false, false, true, false, true, false, true, false, false, false, true, true], { slots := [0, 1, 6, 7, 8], rows := [], flat := [], keep := 0 }, _, _, (.cons (Rd.int .i64) (.cons (Rd.sl 181 false) (.cons (Rd.rw 0) (.cons (Rd.int .i64) (.cons (Rd.int .i64) .nil))))), (.cons (.row 3 false) .nil), fun a b => .p7252 a.1 a.2.1 a.2.2.2.1 a.2.2.2.2.1 b.1⟩,
 ⟨1856660, [false, false, true, false, true, false, false, true, false, false, true, false, true, false, true, false, false, false, true, true], { slots := [0, 1, 6, 7, 8, 9, 10], rows := [], flat := [], keep := 0 }, _, _, (.cons (Rd.int .i64) (.cons (Rd.sl 181 false) (.cons (Rd.rw 0) (.cons (Rd.int .i64) (.cons (Rd.int .i64) (.cons Rd.bool (.cons (Rd.int .i64) .nil))))))), (.cons (.row 3 false) .nil), fun a b => .p1856660 a.1 a.2.1 a.2.2.2.1 a.2.2.2.2.1 a.2.2.2.2.2.1 a.2.2.2.2.2.2.1 b.1⟩]
theorem wu2 : All (ub5 57 0 uU9 xc5) wU8 := ⟨⟨rfl, rfl, fun _ _ => rfl, fun _ _ => rfl⟩, ⟨⟨rfl, rfl, fun _ _ => rfl, fun _ _ => rfl⟩, ⟨⟨rfl, rfl, fun _ _ => rfl, fun _ _ => rfl⟩, trivial⟩⟩⟩
def vj8 : Code := Tryz.f112.body.getD .skip
def v44 : Spec E.S := (Con.add uB4 ub3)
theorem vP2 : ub0 E v44 := (Con.add_ok um8 ua6)
theorem xr8 : ∀ pt r, ui0 pt = some r → Good E Tryz.f112 vj8 0 (uJ9.av r) (uJ9.bx r) (uU9 pt) (xc5 pt) := by
 refine ui0.partial_correctness (fun pt r => Good E Tryz.f112 vj8 0 (uJ9.av r) (uJ9.bx r) (uU9 pt) (xc5 pt)) ?_
 intro run' ih pt r hr
 cases pt <;> exact ua8 (spec := v44) (wr := (mkWr [] [])) (l := wU8) (z := 57) (p := uJ9) E_ok wu2.mem rfl vP2 ih (Eq.trans (by kernel_rfl) hr)
def w62 : Con E := ⟨112, _, _, (.cons (Rd.int .i64).w (.cons (Rw.sl 181) .nil)), .nil, 0, xM9, fun a b => ui0 (.start a.1 a.2.1), uJ9.av, uJ9.bx⟩
theorem wA3 : w62.Ok := fun a b r h => ub6 (fn := Tryz.f112) (code := vj8) E_ok (by kernel_rfl) (by kernel_rfl) (by kernel_rfl) (Nat.le_of_ble_eq_true rfl) (xr8 (.start a.1 a.2.1) r h)
inductive ww7 where
 | start (d0_0 : ByteArray) (d0_1 : (List ub2)) (d0_2 : (List ua1)) (d0_3 : (List ua2)) (d0_4 : (List ua5)) (d0_5 : (List ua9)) (d0_6 : (List ua7)) (a1 : Int) (b2 : Int)
 | p52 (a1 : Int) (b2 : Int) (i7 : Int) (C0 : ByteArray) (C1 : (List ub2)) (C2 : (List ua1)) (C3 : (List ua2)) (C4 : (List ua5)) (C5 : (List ua9)) (C6 : (List ua7))
 | p1683 (a1 : Int) (b2 : Int) (i7 : Int) (C0 : ByteArray) (C1 : (List ub2)) (C2 : (List ua1)) (C3 : (List ua2)) (C4 : (List ua5)) (C5 : (List ua9)) (C6 : (List ua7)) (D0 : Int) (D1 : (List Int))
 | p13468 (a1 : Int) (b2 : Int) (i7 : Int) (k9 : Int) (C0 : ByteArray) (C1 : (List ub2)) (C2 : (List ua1)) (C3 : (List ua2)) (C4 : (List ua5)) (C5 : (List ua9)) (C6 : (List ua7)) (D0 : Int) (D1 : (List Int))
 | p26937 (a1 : Int) (b2 : Int) (i7 : Int) (k9 : Int) (C0 : ByteArray) (C1 : (List ub2)) (C2 : (List ua1)) (C3 : (List ua2)) (C4 : (List ua5)) (C5 : (List ua9)) (C6 : (List ua7)) (D0 : Int) (D1 : (List Int))
def uV2 : ww7 → List Bool
 | .start .. => []
 | .p52 .. => [false, false, true, false, true]
 | .p1683 .. => [true, true, false, false, true, false, false, true, false, true]
 | .p13468 .. => [false, false, true, true, true, false, false, true, false, false, true, false, true]
 | .p26937 .. => [true, false, false, true, true, true, false, false, true, false, false, true, false, true]
def wZ1 : ww7 → St E.S
 | .start d0_0 d0_1 d0_2 d0_3 d0_4 d0_5 d0_6 a1 b2 => st0 69 [.agg [.v (.string d0_0), .sl 206 d0_1 false, .sl 82 d0_2 false, .sl 208 d0_3 false, .sl 85 d0_4 false, .sl 190 d0_5 false, .sl 146 d0_6 false], .v (.int .i64 a1), .v (.int .i64 b2)] []
 | .p52 a1 b2 i7 C0 C1 C2 C3 C4 C5 C6 => mkSt 69 [1, 2, 3, 7] [.v (.int .i64 a1), .v (.int .i64 b2), .bp 0 0, .v (.int .i64 i7)] [.var 75 [.v (.string C0), .sl 206 C1 false, .sl 82 C2 false, .sl 208 C3 false, .sl 85 C4 false, .sl 190 C5 false, .sl 146 C6 false]]
 | .p1683 a1 b2 i7 C0 C1 C2 C3 C4 C5 C6 D0 D1 => mkSt 69 [1, 2, 3, 7, 8] [.v (.int .i64 a1), .v (.int .i64 b2), .bp 0 0, .v (.int .i64 i7), .bp 1 0] [.var 75 [.v (.string C0), .sl 206 C1 false, .sl 82 C2 false, .sl 208 C3 false, .sl 85 C4 false, .sl 190 C5 false, .sl 146 C6 false], .var 146 [.v (.int .i64 D0), .sl 3 D1 false]]
 | .p13468 a1 b2 i7 k9 C0 C1 C2 C3 C4 C5 C6 D0 D1 => mkSt 69 [1, 2, 3, 7, 8, 9] [.v (.int .i64 a1), .v (.int .i64 b2), .bp 0 0, .v (.int .i64 i7), .bp 1 0, .v (.int .i64 k9)] [.var 75 [.v (.string C0), .sl 206 C1 false, .sl 82 C2 false, .sl 208 C3 false, .sl 85 C4 false, .sl 190 C5 false, .sl 146 C6 false], .var 146 [.v (.int .i64 D0), .sl 3 D1 false]]
 | .p26937 a1 b2 i7 k9 C0 C1 C2 C3 C4 C5 C6 D0 D1 => mkSt 69 [1, 2, 3, 7, 8, 9] [.v (.int .i64 a1), .v (.int .i64 b2), .bp 0 0, .v (.int .i64 i7), .bp 1 0, .v (.int .i64 k9)] [.var 75 [.v (.string C0), .sl 206 C1 false, .sl 82 C2 false, .sl 208 C3 false, .sl 85 C4 false, .sl 190 C5 false, .sl 146 C6 false], .var 146 [.v (.int .i64 D0), .sl 3 D1 false]]
abbrev xI0 : Type := ((Bool × Unit) × Unit)
def uI3 : Res E (Bool × Unit) Unit := { rows := [], flat := [], keep := 0, done := [0], rl := (.cons Rd.bool .nil), rb := .nil }
def uj0 : ww7 → Option xI0
 | .start d0_0 d0_1 d0_2 d0_3 d0_4 d0_5 d0_6 a1 b2 =>
  uj0 (.p52 a1 b2 (0 : Int) d0_0 d0_1 d0_2 d0_3 d0_4 d0_5 d0_6)
 | .p52 a1 b2 i7 C0 C1 C2 C3 C4 C5 C6 =>
  if (decide (i7 < (List.length C6 : Int))) = true then
   (idx C6 i7) >>= fun t1 =>
   if (t1.Kind == (1 : Int)) = true then
    (idx t1.Rules (0 : Int)) >>= fun t2 =>
    if (t2 == a1) = true then
     (span (List.length t1.Rules) (1 : Int) (List.length t1.Rules : Int)) >>= fun t3 =>
     (ud8 (.start (cut t1.Rules t3) b2)) >>= fun t4 =>
     if t4.1.1 = true then
      some ((true, ()), ())
     else
      uj0 (.p1683 a1 b2 i7 C0 C1 C2 C3 C4 C5 C6 t1.Kind t1.Rules)
    else
     uj0 (.p1683 a1 b2 i7 C0 C1 C2 C3 C4 C5 C6 t1.Kind t1.Rules)
   else
    uj0 (.p1683 a1 b2 i7 C0 C1 C2 C3 C4 C5 C6 t1.Kind t1.Rules)
  else
   some ((false, ()), ())
 | .p1683 a1 b2 i7 C0 C1 C2 C3 C4 C5 C6 D0 D1 =>
  uj0 (.p13468 a1 b2 i7 (1 : Int) C0 C1 C2 C3 C4 C5 C6 D0 D1)
 | .p13468 a1 b2 i7 k9 C0 C1 C2 C3 C4 C5 C6 D0 D1 =>
  if (D0 == (0 : Int)) = true then
   if (decide (k9 < (List.length D1 : Int))) = true then
    uj0 (.p26937 a1 b2 i7 k9 C0 C1 C2 C3 C4 C5 C6 D0 D1)
   else
    uj0 (.p52 a1 b2 (IntKind.wrap .i64 (i7 + (1 : Int))) C0 C1 C2 C3 C4 C5 C6)
  else
   uj0 (.p52 a1 b2 (IntKind.wrap .i64 (i7 + (1 : Int))) C0 C1 C2 C3 C4 C5 C6)
 | .p26937 a1 b2 i7 k9 C0 C1 C2 C3 C4 C5 C6 D0 D1 =>
  (idx D1 (IntKind.wrap .i64 (k9 - (1 : Int)))) >>= fun t1 =>
  if (t1 == a1) = true then
   (idx D1 k9) >>= fun t2 =>
   if (t2 == b2) = true then
    some ((true, ()), ())
   else
    uj0 (.p13468 a1 b2 i7 (IntKind.wrap .i64 (k9 + (1 : Int))) C0 C1 C2 C3 C4 C5 C6 D0 D1)
  else
   uj0 (.p13468 a1 b2 i7 (IntKind.wrap .i64 (k9 + (1 : Int))) C0 C1 C2 C3 C4 C5 C6 D0 D1)
 partial_fixpoint
def xd0 : List (Plc E ww7) := [⟨52, [false, false, true, false, true], { slots := [1, 2, 3, 7], rows := [], flat := [], keep := 0 }, _, _, (.cons (Rd.int .i64) (.cons (Rd.int .i64) (.cons (Rd.bp 0 0) (.cons (Rd.int .i64) .nil)))), (.cons (.var 75 (.cons Rd.str (.cons (Rd.sl 206 false) (.cons (Rd.sl 82 false) (.cons (Rd.sl 208 false) (.cons (Rd.sl 85 false) (.cons (Rd.sl 190 false) (.cons (Rd.sl 146 false) .nil)))))))) .nil), fun a b => .p52 a.1 a.2.1 a.2.2.2.1 b.1.1 b.1.2.1 b.1.2.2.1 b.1.2.2.2.1 b.1.2.2.2.2.1 b.1.2.2.2.2.2.1 b.1.2.2.2.2.2.2.1⟩,
 ⟨1683, [true, true, false, false, true, false, false, true, false, true], { slots := [1, 2, 3, 7, 8], rows := [], flat := [], keep := 0 }, _, _, (.cons (Rd.int .i64) (.cons (Rd.int .i64) (.cons (Rd.bp 0 0) (.cons (Rd.int .i64) (.cons (Rd.bp 1 0) .nil))))), (.cons (.var 75 (.cons Rd.str (.cons (Rd.sl 206 false) (.cons (Rd.sl 82 false) (.cons (Rd.sl 208 false) (.cons (Rd.sl 85 false) (.cons (Rd.sl 190 false) (.cons (Rd.sl 146 false) .nil)))))))) (.cons (.var 146 (.cons (Rd.int .i64) (.cons (Rd.sl 3 false) .nil))) .nil)), fun a b => .p1683 a.1 a.2.1 a.2.2.2.1 b.1.1 b.1.2.1 b.1.2.2.1 b.1.2.2.2.1 b.1.2.2.2.2.1 b.1.2.2.2.2.2.1 b.1.2.2.2.2.2.2.1 b.2.1.1 b.2.1.2.1⟩,
 ⟨13468, [false, false, true, true, true, false, false, true, false, false, true, false, true], { slots := [1, 2, 3, 7, 8, 9], rows := [], flat := [], keep := 0 }, _, _, (.cons (Rd.int .i64) (.cons (Rd.int .i64) (.cons (Rd.bp 0 0) (.cons (Rd.int .i64) (.cons (Rd.bp 1 0) (.cons (Rd.int .i64) .nil)))))), (.cons (.var 75 (.cons Rd.str (.cons (Rd.sl 206 false) (.cons (Rd.sl 82 false) (.cons (Rd.sl 208 false) (.cons (Rd.sl 85 false) (.cons (Rd.sl 190 false) (.cons (Rd.sl 146 false) .nil)))))))) (.cons (.var 146 (.cons (Rd.int .i64) (.cons (Rd.sl 3 false) .nil))) .nil)), fun a b => .p13468 a.1 a.2.1 a.2.2.2.1 a.2.2.2.2.2.1 b.1.1 b.1.2.1 b.1.2.2.1 b.1.2.2.2.1 b.1.2.2.2.2.1 b.1.2.2.2.2.2.1 b.1.2.2.2.2.2.2.1 b.2.1.1 b.2.1.2.1⟩,
 ⟨26937, [true, false, false, true, true, true, false, false, true, false, false, true, false, true], { slots := [1, 2, 3, 7, 8, 9], rows := [], flat := [], keep := 0 }, _, _, (.cons (Rd.int .i64) (.cons (Rd.int .i64) (.cons (Rd.bp 0 0) (.cons (Rd.int .i64) (.cons (Rd.bp 1 0) (.cons (Rd.int .i64) .nil)))))), (.cons (.var 75 (.cons Rd.str (.cons (Rd.sl 206 false) (.cons (Rd.sl 82 false) (.cons (Rd.sl 208 false) (.cons (Rd.sl 85 false) (.cons (Rd.sl 190 false) (.cons (Rd.sl 146 false) .nil)))))))) (.cons (.var 146 (.cons (Rd.int .i64) (.cons (Rd.sl 3 false) .nil))) .nil)), fun a b => .p26937 a.1 a.2.1 a.2.2.2.1 a.2.2.2.2.2.1 b.1.1 b.1.2.1 b.1.2.2.1 b.1.2.2.2.1 b.1.2.2.2.2.1 b.1.2.2.2.2.2.1 b.1.2.2.2.2.2.2.1 b.2.1.1 b.2.1.2.1⟩]
theorem wm0 : All (ub5 69 0 uV2 wZ1) xd0 := ⟨⟨rfl, rfl, fun _ _ => rfl, fun _ _ => rfl⟩, ⟨⟨rfl, rfl, fun _ _ => rfl, fun _ _ => rfl⟩, ⟨⟨rfl, rfl, fun _ _ => rfl, fun _ _ => rfl⟩, ⟨⟨rfl, rfl, fun _ _ => rfl, fun _ _ => rfl⟩, trivial⟩⟩⟩⟩
def vp7 : Code := Tryz.f111.body.getD .skip
def v04 : Spec E.S := (Con.add uB4 ub3)
theorem vP5 : ub0 E v04 := (Con.add_ok um8 ua6)
theorem xj5 : ∀ pt r, uj0 pt = some r → Good E Tryz.f111 vp7 0 (uI3.av r) (uI3.bx r) (uV2 pt) (wZ1 pt) := by
 refine uj0.partial_correctness (fun pt r => Good E Tryz.f111 vp7 0 (uI3.av r) (uI3.bx r) (uV2 pt) (wZ1 pt)) ?_
 intro run' ih pt r hr
 cases pt <;> exact ua8 (spec := v04) (wr := (mkWr [] [])) (l := xd0) (z := 69) (p := uI3) E_ok wm0.mem rfl vP5 ih (Eq.trans (by kernel_rfl) hr)
def wN8 : Con E := ⟨111, _, _, (.cons (Rw.agg (.cons Rd.str.w (.cons (Rw.sl 206) (.cons (Rw.sl 82) (.cons (Rw.sl 208) (.cons (Rw.sl 85) (.cons (Rw.sl 190) (.cons (Rw.sl 146) .nil)))))))) (.cons (Rd.int .i64).w (.cons (Rd.int .i64).w .nil))), .nil, 0, xI0, fun a b => uj0 (.start a.1.1 a.1.2.1 a.1.2.2.1 a.1.2.2.2.1 a.1.2.2.2.2.1 a.1.2.2.2.2.2.1 a.1.2.2.2.2.2.2.1 a.2.1 a.2.2.1), uI3.av, uI3.bx⟩
theorem wp6 : wN8.Ok := fun a b r h => ub6 (fn := Tryz.f111) (code := vp7) E_ok (by kernel_rfl) (by kernel_rfl) (by kernel_rfl) (Nat.le_of_ble_eq_true rfl) (xj5 (.start a.1.1 a.1.2.1 a.1.2.2.1 a.1.2.2.2.1 a.1.2.2.2.2.1 a.1.2.2.2.2.2.1 a.1.2.2.2.2.2.2.1 a.2.1 a.2.2.1) r h)
inductive wo6 where
 | start (d0_0 : ByteArray) (d0_1 : (List ub2)) (d0_2 : (List ua1)) (d0_3 : (List ua2)) (d0_4 : (List ua5)) (d0_5 : (List ua9)) (d0_6 : (List ua7)) (rule1 : Int)
 | p116 (rule1 : Int) (k6 : Int) (C0 : ByteArray) (C1 : (List ub2)) (C2 : (List ua1)) (C3 : (List ua2)) (C4 : (List ua5)) (C5 : (List ua9)) (C6 : (List ua7)) (B1 : (List Int))
 | p29844 (rule1 : Int) (k6 : Int) (is7 : Bool) (i8 : Int) (C0 : ByteArray) (C1 : (List ub2)) (C2 : (List ua1)) (C3 : (List ua2)) (C4 : (List ua5)) (C5 : (List ua9)) (C6 : (List ua7)) (B1 : (List Int))
def u07 : wo6 → List Bool
 | .start .. => []
 | .p116 .. => [false, false, true, false, true, true]
 | .p29844 .. => [false, false, true, false, true, false, false, true, false, false, true, false, true, true]
def xd5 : wo6 → St E.S
 | .start d0_0 d0_1 d0_2 d0_3 d0_4 d0_5 d0_6 rule1 => st0 48 [.agg [.v (.string d0_0), .sl 206 d0_1 false, .sl 82 d0_2 false, .sl 208 d0_3 false, .sl 85 d0_4 false, .sl 190 d0_5 false, .sl 146 d0_6 false], .v (.int .i64 rule1)] []
 | .p116 rule1 k6 C0 C1 C2 C3 C4 C5 C6 B1 => mkSt 48 [1, 2, 5, 6] [.v (.int .i64 rule1), .bp 0 0, .rw 1, .v (.int .i64 k6)] [.var 75 [.v (.string C0), .sl 206 C1 false, .sl 82 C2 false, .sl 208 C3 false, .sl 85 C4 false, .sl 190 C5 false, .sl 146 C6 false], .row 3 B1 false]
 | .p29844 rule1 k6 is7 i8 C0 C1 C2 C3 C4 C5 C6 B1 => mkSt 48 [1, 2, 5, 6, 7, 8] [.v (.int .i64 rule1), .bp 0 0, .rw 1, .v (.int .i64 k6), .v (.bool is7), .v (.int .i64 i8)] [.var 75 [.v (.string C0), .sl 206 C1 false, .sl 82 C2 false, .sl 208 C3 false, .sl 85 C4 false, .sl 190 C5 false, .sl 146 C6 false], .row 3 B1 false]
abbrev xH9 : Type := ((Unit × Unit) × ((List Int) × Unit))
def uJ5 : Res E (Unit × Unit) ((List Int) × Unit) := { rows := [(0, 3)], flat := [], keep := 0, done := [0], rl := (.cons (Rd.rw 0) .nil), rb := (.cons (.row 3 true) .nil) }
def ug9 : wo6 → Option xH9
 | .start d0_0 d0_1 d0_2 d0_3 d0_4 d0_5 d0_6 rule1 =>
  ug9 (.p116 rule1 (0 : Int) d0_0 d0_1 d0_2 d0_3 d0_4 d0_5 d0_6 ([] : List Int))
 | .p116 rule1 k6 C0 C1 C2 C3 C4 C5 C6 B1 =>
  if (decide (k6 < (List.length C2 : Int))) = true then
   ug9 (.p29844 rule1 k6 false (0 : Int) C0 C1 C2 C3 C4 C5 C6 B1)
  else
   some (((), ()), (B1, ()))
 | .p29844 rule1 k6 is7 i8 C0 C1 C2 C3 C4 C5 C6 B1 =>
  (idx C4 rule1) >>= fun t1 =>
  if (decide (i8 < (List.length t1.Writes : Int))) = true then
   if is7 = true then
    ug9 (.p29844 rule1 k6 true (IntKind.wrap .i64 (i8 + (1 : Int))) C0 C1 C2 C3 C4 C5 C6 B1)
   else
    (idx C4 rule1) >>= fun t2 =>
    (idx t2.Writes i8) >>= fun t3 =>
    ug9 (.p29844 rule1 k6 (t3.Element == k6) (IntKind.wrap .i64 (i8 + (1 : Int))) C0 C1 C2 C3 C4 C5 C6 B1)
  else
   if is7 = true then
    if (fits (List.length B1) (List.length ([k6] : List Int)) 8) = true then
     ug9 (.p116 rule1 (IntKind.wrap .i64 (k6 + (1 : Int))) C0 C1 C2 C3 C4 C5 C6 (B1 ++ ([k6] : List Int)))
    else none
   else
    ug9 (.p116 rule1 (IntKind.wrap .i64 (k6 + (1 : Int))) C0 C1 C2 C3 C4 C5 C6 B1)
 partial_fixpoint
def wU9 : List (Plc E wo6) := [⟨116, [false, false, true, false, true, true], { slots := [1, 2, 5, 6], rows := [(5, 3)], flat := [], keep := 0 }, _, _, (.cons (Rd.int .i64) (.cons (Rd.bp 0 0) (.cons (Rd.rw 1) (.cons (Rd.int .i64) .nil)))), (.cons (.var 75 (.cons Rd.str (.cons (Rd.sl 206 false) (.cons (Rd.sl 82 false) (.cons (Rd.sl 208 false) (.cons (Rd.sl 85 false) (.cons (Rd.sl 190 false) (.cons (Rd.sl 146 false) .nil)))))))) (.cons (.row 3 false) .nil)), fun a b => .p116 a.1 a.2.2.2.1 b.1.1 b.1.2.1 b.1.2.2.1 b.1.2.2.2.1 b.1.2.2.2.2.1 b.1.2.2.2.2.2.1 b.1.2.2.2.2.2.2.1 b.2.1⟩,
 ⟨29844, [false, false, true, false, true, false, false, true, false, false, true, false, true, true], { slots := [1, 2, 5, 6, 7, 8], rows := [], flat := [], keep := 0 }, _, _, (.cons (Rd.int .i64) (.cons (Rd.bp 0 0) (.cons (Rd.rw 1) (.cons (Rd.int .i64) (.cons Rd.bool (.cons (Rd.int .i64) .nil)))))), (.cons (.var 75 (.cons Rd.str (.cons (Rd.sl 206 false) (.cons (Rd.sl 82 false) (.cons (Rd.sl 208 false) (.cons (Rd.sl 85 false) (.cons (Rd.sl 190 false) (.cons (Rd.sl 146 false) .nil)))))))) (.cons (.row 3 false) .nil)), fun a b => .p29844 a.1 a.2.2.2.1 a.2.2.2.2.1 a.2.2.2.2.2.1 b.1.1 b.1.2.1 b.1.2.2.1 b.1.2.2.2.1 b.1.2.2.2.2.1 b.1.2.2.2.2.2.1 b.1.2.2.2.2.2.2.1 b.2.1⟩]
theorem wI9 : All (ub5 48 0 u07 xd5) wU9 := ⟨⟨rfl, rfl, fun _ _ => rfl, fun _ _ => rfl⟩, ⟨⟨rfl, rfl, fun _ _ => rfl, fun _ _ => rfl⟩, trivial⟩⟩
def vk6 : Code := Tryz.f166.body.getD .skip
def wh4 : Spec E.S := ub3
theorem vT1 : ub0 E wh4 := ua6
theorem xk3 : ∀ pt r, ug9 pt = some r → Good E Tryz.f166 vk6 0 (uJ5.av r) (uJ5.bx r) (u07 pt) (xd5 pt) := by
 refine ug9.partial_correctness (fun pt r => Good E Tryz.f166 vk6 0 (uJ5.av r) (uJ5.bx r) (u07 pt) (xd5 pt)) ?_
 intro run' ih pt r hr
 cases pt <;> exact ua8 (spec := wh4) (wr := (mkWr [] [])) (l := wU9) (z := 48) (p := uJ5) E_ok wI9.mem rfl vT1 ih (Eq.trans (by kernel_rfl) hr)
def vq7 : Con E := ⟨166, _, _, (.cons (Rw.agg (.cons Rd.str.w (.cons (Rw.sl 206) (.cons (Rw.sl 82) (.cons (Rw.sl 208) (.cons (Rw.sl 85) (.cons (Rw.sl 190) (.cons (Rw.sl 146) .nil)))))))) (.cons (Rd.int .i64).w .nil)), .nil, 0, xH9, fun a b => ug9 (.start a.1.1 a.1.2.1 a.1.2.2.1 a.1.2.2.2.1 a.1.2.2.2.2.1 a.1.2.2.2.2.2.1 a.1.2.2.2.2.2.2.1 a.2.1), uJ5.av, uJ5.bx⟩
theorem uQ1 : vq7.Ok := fun a b r h => ub6 (fn := Tryz.f166) (code := vk6) E_ok (by kernel_rfl) (by kernel_rfl) (by kernel_rfl) (Nat.le_of_ble_eq_true rfl) (xk3 (.start a.1.1 a.1.2.1 a.1.2.2.1 a.1.2.2.2.1 a.1.2.2.2.2.1 a.1.2.2.2.2.2.1 a.1.2.2.2.2.2.2.1 a.2.1) r h)
inductive wx6 where
 | start (nodes0 : (List ua2)) (from1 : (List Int))
 | p116 (nodes0 : (List ua2)) (from1 : (List Int)) (i6 : Int) (B0 : (List Bool))
 | p244 (nodes0 : (List ua2)) (i7 : Int) (B0 : (List Bool))
 | p15652 (nodes0 : (List ua2)) (i7 : Int) (k8 : Int) (B0 : (List Bool))
 | p31305 (nodes0 : (List ua2)) (i7 : Int) (k8 : Int) (B0 : (List Bool))
def vb2 : wx6 → List Bool
 | .start .. => []
 | .p116 .. => [false, false, true, false, true, true]
 | .p244 .. => [false, false, true, false, true, true, true]
 | .p15652 .. => [false, false, true, false, false, true, false, false, true, false, true, true, true]
 | .p31305 .. => [true, false, false, true, false, false, true, false, false, true, false, true, true, true]
def wR4 : wx6 → St E.S
 | .start nodes0 from1 => st0 58 [.sl 208 nodes0 false, .sl 3 from1 false] []
 | .p116 nodes0 from1 i6 B0 => mkSt 58 [0, 1, 5, 6] [.sl 208 nodes0 false, .sl 3 from1 false, .rw 0, .v (.int .i64 i6)] [.row 4 B0 false]
 | .p244 nodes0 i7 B0 => mkSt 58 [0, 5, 7] [.sl 208 nodes0 false, .rw 0, .v (.int .i64 i7)] [.row 4 B0 false]
 | .p15652 nodes0 i7 k8 B0 => mkSt 58 [0, 5, 7, 8] [.sl 208 nodes0 false, .rw 0, .v (.int .i64 i7), .v (.int .i64 k8)] [.row 4 B0 false]
 | .p31305 nodes0 i7 k8 B0 => mkSt 58 [0, 5, 7, 8] [.sl 208 nodes0 false, .rw 0, .v (.int .i64 i7), .v (.int .i64 k8)] [.row 4 B0 false]
abbrev xG4 : Type := ((Unit × Unit) × ((List Bool) × Unit))
def uH9 : Res E (Unit × Unit) ((List Bool) × Unit) := { rows := [], flat := [], keep := 0, done := [0], rl := (.cons (Rd.rw 0) .nil), rb := (.cons (.row 4 true) .nil) }
def ul3 : wx6 → Option xG4
 | .start nodes0 from1 =>
  if (uz7 (List.length nodes0 : Int) (List.length nodes0 : Int) 1) = true then
   ul3 (.p116 nodes0 from1 (0 : Int) (List.replicate (Int.toNat (List.length nodes0 : Int)) false))
  else none
 | .p116 nodes0 from1 i6 B0 =>
  if (decide (i6 < (List.length from1 : Int))) = true then
   (idx from1 i6) >>= fun t1 =>
   if (decide ((0 : Int) ≤ t1) && decide (t1 < (List.length B0 : Int))) = true then
    (idx B0 t1) >>= fun t2 =>
    ul3 (.p116 nodes0 from1 (IntKind.wrap .i64 (i6 + (1 : Int))) (List.set B0 (Int.toNat t1) true))
   else none
  else
   ul3 (.p244 nodes0 (IntKind.wrap .i64 ((List.length nodes0 : Int) - (1 : Int))) B0)
 | .p244 nodes0 i7 B0 =>
  if (decide (i7 ≥ (0 : Int))) = true then
   ul3 (.p15652 nodes0 i7 (0 : Int) B0)
  else
   some (((), ()), (B0, ()))
 | .p15652 nodes0 i7 k8 B0 =>
  if (decide ((0 : Int) ≤ i7) && decide (i7 < (List.length B0 : Int))) = true then
   (idx B0 i7) >>= fun t1 =>
   if t1 = true then
    (idx nodes0 i7) >>= fun t2 =>
    if (decide (k8 < (List.length t2.Args : Int))) = true then
     ul3 (.p31305 nodes0 i7 k8 B0)
    else
     ul3 (.p244 nodes0 (IntKind.wrap .i64 (i7 - (1 : Int))) B0)
   else
    ul3 (.p244 nodes0 (IntKind.wrap .i64 (i7 - (1 : Int))) B0)
  else none
 | .p31305 nodes0 i7 k8 B0 =>
  (idx nodes0 i7) >>= fun t1 =>
  (idx t1.Args k8) >>= fun t2 =>
  if (decide ((0 : Int) ≤ t2) && decide (t2 < (List.length B0 : Int))) = true then
   (idx B0 t2) >>= fun t3 =>
   ul3 (.p15652 nodes0 i7 (IntKind.wrap .i64 (k8 + (1 : Int))) (List.set B0 (Int.toNat t2) true))
  else none
 partial_fixpoint
def wM3 : List (Plc E wx6) := [⟨116, [false, false, true, false, true, true], { slots := [0, 1, 5, 6], rows := [], flat := [], keep := 0 }, _, _, (.cons (Rd.sl 208 false) (.cons (Rd.sl 3 false) (.cons (Rd.rw 0) (.cons (Rd.int .i64) .nil)))), (.cons (.row 4 false) .nil), fun a b => .p116 a.1 a.2.1 a.2.2.2.1 b.1⟩,
 ⟨244, [false, false, true, false, true, true, true], { slots := [0, 5, 7], rows := [], flat := [], keep := 0 }, _, _, (.cons (Rd.sl 208 false) (.cons (Rd.rw 0) (.cons (Rd.int .i64) .nil))), (.cons (.row 4 false) .nil), fun a b => .p244 a.1 a.2.2.1 b.1⟩,
 ⟨15652, [false, false, true, false, false, true, false, false, true, false, true, true, true], { slots := [0, 5, 7, 8], rows := [], flat := [], keep := 0 }, _, _, (.cons (Rd.sl 208 false) (.cons (Rd.rw 0) (.cons (Rd.int .i64) (.cons (Rd.int .i64) .nil)))), (.cons (.row 4 false) .nil), fun a b => .p15652 a.1 a.2.2.1 a.2.2.2.1 b.1⟩,
 ⟨31305, [true, false, false, true, false, false, true, false, false, true, false, true, true, true], { slots := [0, 5, 7, 8], rows := [], flat := [], keep := 0 }, _, _, (.cons (Rd.sl 208 false) (.cons (Rd.rw 0) (.cons (Rd.int .i64) (.cons (Rd.int .i64) .nil)))), (.cons (.row 4 false) .nil), fun a b => .p31305 a.1 a.2.2.1 a.2.2.2.1 b.1⟩]
theorem wB3 : All (ub5 58 0 vb2 wR4) wM3 := ⟨⟨rfl, rfl, fun _ _ => rfl, fun _ _ => rfl⟩, ⟨⟨rfl, rfl, fun _ _ => rfl, fun _ _ => rfl⟩, ⟨⟨rfl, rfl, fun _ _ => rfl, fun _ _ => rfl⟩, ⟨⟨rfl, rfl, fun _ _ => rfl, fun _ _ => rfl⟩, trivial⟩⟩⟩⟩
def vm3 : Code := Tryz.f203.body.getD .skip
def wc2 : Spec E.S := ub3
theorem vD2 : ub0 E wc2 := ua6
theorem xj2 : ∀ pt r, ul3 pt = some r → Good E Tryz.f203 vm3 0 (uH9.av r) (uH9.bx r) (vb2 pt) (wR4 pt) := by
 refine ul3.partial_correctness (fun pt r => Good E Tryz.f203 vm3 0 (uH9.av r) (uH9.bx r) (vb2 pt) (wR4 pt)) ?_
 intro run' ih pt r hr
 cases pt <;> exact ua8 (spec := wc2) (wr := (mkWr [4, 5, 11, 18, 23, 31, 33, 47, 56, 57] [])) (l := wM3) (z := 58) (p := uH9) E_ok wB3.mem rfl vD2 ih (Eq.trans (by kernel_rfl) hr)
def wL2 : Con E := ⟨203, _, _, (.cons (Rw.sl 208) (.cons (Rw.sl 3) .nil)), .nil, 0, xG4, fun a b => ul3 (.start a.1 a.2.1), uH9.av, uH9.bx⟩
theorem wm5 : wL2.Ok := fun a b r h => ub6 (fn := Tryz.f203) (code := vm3) E_ok (by kernel_rfl) (by kernel_rfl) (by kernel_rfl) (Nat.le_of_ble_eq_true rfl) (xj2 (.start a.1 a.2.1) r h)
inductive wz8 where
 | start (nodes0 : (List ua2)) (from1 : (List Int)) (leaves2 : Int)
 | p244 (nodes0 : (List ua2)) (leaves2 : Int) (i9 : Int) (B0 : (List Bool)) (B1 : (List Bool))
 | p3913 (nodes0 : (List ua2)) (leaves2 : Int) (i9 : Int) (s34 : Bool) (B0 : (List Bool)) (B1 : (List Bool))
 | p1012 (leaves2 : Int) (i11 : Int) (B0 : (List Bool)) (B1 : (List Int))
def uX1 : wz8 → List Bool
 | .start .. => []
 | .p244 .. => [false, false, true, false, true, true, true]
 | .p3913 .. => [true, false, false, true, false, false, true, false, true, true, true]
 | .p1012 .. => [false, false, true, false, true, true, true, true, true]
def xa2 : wz8 → St E.S
 | .start nodes0 from1 leaves2 => st0 56 [.sl 208 nodes0 false, .sl 3 from1 false, .v (.int .i64 leaves2)] []
 | .p244 nodes0 leaves2 i9 B0 B1 => mkSt 56 [0, 2, 7, 8, 9] [.sl 208 nodes0 false, .v (.int .i64 leaves2), .rw 0, .rw 1, .v (.int .i64 i9)] [.row 4 B0 true, .row 4 B1 false]
 | .p3913 nodes0 leaves2 i9 s34 B0 B1 => mkSt 56 [0, 2, 7, 8, 9, 34] [.sl 208 nodes0 false, .v (.int .i64 leaves2), .rw 0, .rw 1, .v (.int .i64 i9), .v (.bool s34)] [.row 4 B0 true, .row 4 B1 false]
 | .p1012 leaves2 i11 B0 B1 => mkSt 56 [2, 8, 10, 11] [.v (.int .i64 leaves2), .rw 0, .rw 1, .v (.int .i64 i11)] [.row 4 B0 false, .row 3 B1 false]
abbrev xN5 : Type := ((Unit × Unit) × ((List Int) × Unit))
def uI2 : Res E (Unit × Unit) ((List Int) × Unit) := { rows := [], flat := [], keep := 0, done := [0], rl := (.cons (Rd.rw 0) .nil), rb := (.cons (.row 3 true) .nil) }
def ul0 : wz8 → Option xN5
 | .start nodes0 from1 leaves2 =>
  (ul3 (.start nodes0 from1)) >>= fun t1 =>
  if (uz7 leaves2 leaves2 1) = true then
   ul0 (.p244 nodes0 leaves2 (0 : Int) t1.2.1 (List.replicate (Int.toNat leaves2) false))
  else none
 | .p244 nodes0 leaves2 i9 B0 B1 =>
  if (decide (i9 < (List.length nodes0 : Int))) = true then
   if (decide ((0 : Int) ≤ i9) && decide (i9 < (List.length B0 : Int))) = true then
    (idx B0 i9) >>= fun t1 =>
    if t1 = true then
     (idx nodes0 i9) >>= fun t2 =>
     ul0 (.p3913 nodes0 leaves2 i9 (t2.Op == (1 : Int)) B0 B1)
    else
     ul0 (.p3913 nodes0 leaves2 i9 false B0 B1)
   else none
  else
   ul0 (.p1012 leaves2 (0 : Int) B1 ([] : List Int))
 | .p3913 nodes0 leaves2 i9 s34 B0 B1 =>
  if s34 = true then
   (idx nodes0 i9) >>= fun t1 =>
   if (decide ((0 : Int) ≤ t1.Value) && decide (t1.Value < (List.length B1 : Int))) = true then
    (idx B1 t1.Value) >>= fun t2 =>
    ul0 (.p244 nodes0 leaves2 (IntKind.wrap .i64 (i9 + (1 : Int))) B0 (List.set B1 (Int.toNat t1.Value) true))
   else none
  else
   ul0 (.p244 nodes0 leaves2 (IntKind.wrap .i64 (i9 + (1 : Int))) B0 B1)
 | .p1012 leaves2 i11 B0 B1 =>
  if (decide (i11 < leaves2)) = true then
   if (decide ((0 : Int) ≤ i11) && decide (i11 < (List.length B0 : Int))) = true then
    (idx B0 i11) >>= fun t1 =>
    if t1 = true then
     if (fits (List.length B1) (List.length ([i11] : List Int)) 8) = true then
      ul0 (.p1012 leaves2 (IntKind.wrap .i64 (i11 + (1 : Int))) B0 (B1 ++ ([i11] : List Int)))
     else none
    else
     ul0 (.p1012 leaves2 (IntKind.wrap .i64 (i11 + (1 : Int))) B0 B1)
   else none
  else
   some (((), ()), (B1, ()))
 partial_fixpoint
def wR1 : List (Plc E wz8) := [⟨244, [false, false, true, false, true, true, true], { slots := [0, 2, 7, 8, 9], rows := [], flat := [], keep := 0 }, _, _, (.cons (Rd.sl 208 false) (.cons (Rd.int .i64) (.cons (Rd.rw 0) (.cons (Rd.rw 1) (.cons (Rd.int .i64) .nil))))), (.cons (.row 4 true) (.cons (.row 4 false) .nil)), fun a b => .p244 a.1 a.2.1 a.2.2.2.2.1 b.1 b.2.1⟩,
 ⟨3913, [true, false, false, true, false, false, true, false, true, true, true], { slots := [0, 2, 7, 8, 9, 34], rows := [], flat := [], keep := 0 }, _, _, (.cons (Rd.sl 208 false) (.cons (Rd.int .i64) (.cons (Rd.rw 0) (.cons (Rd.rw 1) (.cons (Rd.int .i64) (.cons Rd.bool .nil)))))), (.cons (.row 4 true) (.cons (.row 4 false) .nil)), fun a b => .p3913 a.1 a.2.1 a.2.2.2.2.1 a.2.2.2.2.2.1 b.1 b.2.1⟩,
 ⟨1012, [false, false, true, false, true, true, true, true, true], { slots := [2, 8, 10, 11], rows := [(10, 3)], flat := [], keep := 0 }, _, _, (.cons (Rd.int .i64) (.cons (Rd.rw 0) (.cons (Rd.rw 1) (.cons (Rd.int .i64) .nil)))), (.cons (.row 4 false) (.cons (.row 3 false) .nil)), fun a b => .p1012 a.1 a.2.2.2.1 b.1 b.2.1⟩]
theorem wn7 : All (ub5 56 0 uX1 xa2) wR1 := ⟨⟨rfl, rfl, fun _ _ => rfl, fun _ _ => rfl⟩, ⟨⟨rfl, rfl, fun _ _ => rfl, fun _ _ => rfl⟩, ⟨⟨rfl, rfl, fun _ _ => rfl, fun _ _ => rfl⟩, trivial⟩⟩⟩
def vp3 : Code := Tryz.f186.body.getD .skip
def wb2 : Spec E.S := (Con.add wL2 ub3)
theorem vL0 : ub0 E wb2 := (Con.add_ok wm5 ua6)
theorem xr0 : ∀ pt r, ul0 pt = some r → Good E Tryz.f186 vp3 0 (uI2.av r) (uI2.bx r) (uX1 pt) (xa2 pt) := by
 refine ul0.partial_correctness (fun pt r => Good E Tryz.f186 vp3 0 (uI2.av r) (uI2.bx r) (uX1 pt) (xa2 pt)) ?_
 intro run' ih pt r hr
 cases pt <;> exact ua8 (spec := wb2) (wr := (mkWr [8, 16, 35, 41, 47, 49] [])) (l := wR1) (z := 56) (p := uI2) E_ok wn7.mem rfl vL0 ih (Eq.trans (by kernel_rfl) hr)
def wQ1 : Con E := ⟨186, _, _, (.cons (Rw.sl 208) (.cons (Rw.sl 3) (.cons (Rd.int .i64).w .nil))), .nil, 0, xN5, fun a b => ul0 (.start a.1 a.2.1 a.2.2.1), uI2.av, uI2.bx⟩
theorem wB7 : wQ1.Ok := fun a b r h => ub6 (fn := Tryz.f186) (code := vp3) E_ok (by kernel_rfl) (by kernel_rfl) (by kernel_rfl) (Nat.le_of_ble_eq_true rfl) (xr0 (.start a.1 a.2.1 a.2.2.1) r h)
inductive wI8 where
 | start (d0_0 : ByteArray) (d0_1 : (List ub2)) (d0_2 : (List ua1)) (d0_3 : (List ua2)) (d0_4 : (List ua5)) (d0_5 : (List ua9)) (d0_6 : (List ua7)) (rule1 : Int)
 | p244 (i7 : Int) (C0 : ByteArray) (C1 : (List ub2)) (C2 : (List ua1)) (C3 : (List ua2)) (C4 : (List ua5)) (C5 : (List ua9)) (C6 : (List ua7)) (D0 : ByteArray) (D1 : Int) (D2 : (List ub4)) (B2 : (List Int))
 | p2036 (i10 : Int) (C0 : ByteArray) (C1 : (List ub2)) (C2 : (List ua1)) (C3 : (List ua2)) (C4 : (List ua5)) (C5 : (List ua9)) (C6 : (List ua7)) (B1 : (List Int)) (B2 : (List Int))
def u70 : wI8 → List Bool
 | .start .. => []
 | .p244 .. => [false, false, true, false, true, true, true]
 | .p2036 .. => [false, false, true, false, true, true, true, true, true, true]
def w54 : wI8 → St E.S
 | .start d0_0 d0_1 d0_2 d0_3 d0_4 d0_5 d0_6 rule1 => st0 78 [.agg [.v (.string d0_0), .sl 206 d0_1 false, .sl 82 d0_2 false, .sl 208 d0_3 false, .sl 85 d0_4 false, .sl 190 d0_5 false, .sl 146 d0_6 false], .v (.int .i64 rule1)] []
 | .p244 i7 C0 C1 C2 C3 C4 C5 C6 D0 D1 D2 B2 => mkSt 78 [2, 5, 6, 7] [.bp 0 0, .bp 1 0, .rw 2, .v (.int .i64 i7)] [.var 75 [.v (.string C0), .sl 206 C1 false, .sl 82 C2 false, .sl 208 C3 false, .sl 85 C4 false, .sl 190 C5 false, .sl 146 C6 false], .var 85 [.v (.string D0), .v (.int .i64 D1), .sl 151 D2 false], .row 3 B2 true]
 | .p2036 i10 C0 C1 C2 C3 C4 C5 C6 B1 B2 => mkSt 78 [2, 8, 9, 10] [.bp 0 0, .rw 1, .rw 2, .v (.int .i64 i10)] [.var 75 [.v (.string C0), .sl 206 C1 false, .sl 82 C2 false, .sl 208 C3 false, .sl 85 C4 false, .sl 190 C5 false, .sl 146 C6 false], .row 3 B1 true, .row 3 B2 false]
abbrev xE4 : Type := ((Unit × Unit) × ((List Int) × Unit))
def uD4 : Res E (Unit × Unit) ((List Int) × Unit) := { rows := [], flat := [], keep := 0, done := [0], rl := (.cons (Rd.rw 0) .nil), rb := (.cons (.row 3 true) .nil) }
def uj7 : wI8 → Option xE4
 | .start d0_0 d0_1 d0_2 d0_3 d0_4 d0_5 d0_6 rule1 =>
  (idx d0_4 rule1) >>= fun t1 =>
  uj7 (.p244 (0 : Int) d0_0 d0_1 d0_2 d0_3 d0_4 d0_5 d0_6 t1.Name t1.Guard t1.Writes ([t1.Guard] : List Int))
 | .p244 i7 C0 C1 C2 C3 C4 C5 C6 D0 D1 D2 B2 =>
  if (decide (i7 < (List.length D2 : Int))) = true then
   (idx D2 i7) >>= fun t1 =>
   (idx D2 i7) >>= fun t2 =>
   if (fits (List.length B2) (List.length ([t1.When, t2.Value] : List Int)) 8) = true then
    uj7 (.p244 (IntKind.wrap .i64 (i7 + (1 : Int))) C0 C1 C2 C3 C4 C5 C6 D0 D1 D2 (B2 ++ ([t1.When, t2.Value] : List Int)))
   else none
  else
   (ul0 (.start C3 B2 (IntKind.wrap .i64 ((List.length C1 : Int) + (List.length C2 : Int))))) >>= fun t3 =>
   uj7 (.p2036 (0 : Int) C0 C1 C2 C3 C4 C5 C6 t3.2.1 ([] : List Int))
 | .p2036 i10 C0 C1 C2 C3 C4 C5 C6 B1 B2 =>
  if (decide (i10 < (List.length B1 : Int))) = true then
   if (decide ((0 : Int) ≤ i10) && decide (i10 < (List.length B1 : Int))) = true then
    (idx B1 i10) >>= fun t1 =>
    if (decide (t1 ≥ (List.length C1 : Int))) = true then
     if (decide ((0 : Int) ≤ i10) && decide (i10 < (List.length B1 : Int))) = true then
      (idx B1 i10) >>= fun t2 =>
      if (fits (List.length B2) (List.length ([IntKind.wrap .i64 (t2 - (List.length C1 : Int))] : List Int)) 8) = true then
       uj7 (.p2036 (IntKind.wrap .i64 (i10 + (1 : Int))) C0 C1 C2 C3 C4 C5 C6 B1 (B2 ++ ([IntKind.wrap .i64 (t2 - (List.length C1 : Int))] : List Int)))
      else none
     else none
    else
     uj7 (.p2036 (IntKind.wrap .i64 (i10 + (1 : Int))) C0 C1 C2 C3 C4 C5 C6 B1 B2)
   else none
  else
   some (((), ()), (B2, ()))
 partial_fixpoint
def w19 : List (Plc E wI8) := [⟨244, [false, false, true, false, true, true, true], { slots := [2, 5, 6, 7], rows := [(6, 3)], flat := [], keep := 0 }, _, _, (.cons (Rd.bp 0 0) (.cons (Rd.bp 1 0) (.cons (Rd.rw 2) (.cons (Rd.int .i64) .nil)))), (.cons (.var 75 (.cons Rd.str (.cons (Rd.sl 206 false) (.cons (Rd.sl 82 false) (.cons (Rd.sl 208 false) (.cons (Rd.sl 85 false) (.cons (Rd.sl 190 false) (.cons (Rd.sl 146 false) .nil)))))))) (.cons (.var 85 (.cons Rd.str (.cons (Rd.int .i64) (.cons (Rd.sl 151 false) .nil)))) (.cons (.row 3 true) .nil))), fun a b => .p244 a.2.2.2.1 b.1.1 b.1.2.1 b.1.2.2.1 b.1.2.2.2.1 b.1.2.2.2.2.1 b.1.2.2.2.2.2.1 b.1.2.2.2.2.2.2.1 b.2.1.1 b.2.1.2.1 b.2.1.2.2.1 b.2.2.1⟩,
 ⟨2036, [false, false, true, false, true, true, true, true, true, true], { slots := [2, 8, 9, 10], rows := [(9, 3)], flat := [], keep := 0 }, _, _, (.cons (Rd.bp 0 0) (.cons (Rd.rw 1) (.cons (Rd.rw 2) (.cons (Rd.int .i64) .nil)))), (.cons (.var 75 (.cons Rd.str (.cons (Rd.sl 206 false) (.cons (Rd.sl 82 false) (.cons (Rd.sl 208 false) (.cons (Rd.sl 85 false) (.cons (Rd.sl 190 false) (.cons (Rd.sl 146 false) .nil)))))))) (.cons (.row 3 true) (.cons (.row 3 false) .nil))), fun a b => .p2036 a.2.2.2.1 b.1.1 b.1.2.1 b.1.2.2.1 b.1.2.2.2.1 b.1.2.2.2.2.1 b.1.2.2.2.2.2.1 b.1.2.2.2.2.2.2.1 b.2.1 b.2.2.1⟩]
theorem wv3 : All (ub5 78 0 u70 w54) w19 := ⟨⟨rfl, rfl, fun _ _ => rfl, fun _ _ => rfl⟩, ⟨⟨rfl, rfl, fun _ _ => rfl, fun _ _ => rfl⟩, trivial⟩⟩
def vi3 : Code := Tryz.f167.body.getD .skip
def v54 : Spec E.S := (Con.add wQ1 ub3)
theorem vI3 : ub0 E v54 := (Con.add_ok wB7 ua6)
theorem xk1 : ∀ pt r, uj7 pt = some r → Good E Tryz.f167 vi3 0 (uD4.av r) (uD4.bx r) (u70 pt) (w54 pt) := by
 refine uj7.partial_correctness (fun pt r => Good E Tryz.f167 vi3 0 (uD4.av r) (uD4.bx r) (u70 pt) (w54 pt)) ?_
 intro run' ih pt r hr
 cases pt <;> exact ua8 (spec := v54) (wr := (mkWr [] [])) (l := w19) (z := 78) (p := uD4) E_ok wv3.mem rfl vI3 ih (Eq.trans (by kernel_rfl) hr)
def vG6 : Con E := ⟨167, _, _, (.cons (Rw.agg (.cons Rd.str.w (.cons (Rw.sl 206) (.cons (Rw.sl 82) (.cons (Rw.sl 208) (.cons (Rw.sl 85) (.cons (Rw.sl 190) (.cons (Rw.sl 146) .nil)))))))) (.cons (Rd.int .i64).w .nil)), .nil, 0, xE4, fun a b => uj7 (.start a.1.1 a.1.2.1 a.1.2.2.1 a.1.2.2.2.1 a.1.2.2.2.2.1 a.1.2.2.2.2.2.1 a.1.2.2.2.2.2.2.1 a.2.1), uD4.av, uD4.bx⟩
theorem vf2 : vG6.Ok := fun a b r h => ub6 (fn := Tryz.f167) (code := vi3) E_ok (by kernel_rfl) (by kernel_rfl) (by kernel_rfl) (Nat.le_of_ble_eq_true rfl) (xk1 (.start a.1.1 a.1.2.1 a.1.2.2.1 a.1.2.2.2.1 a.1.2.2.2.2.1 a.1.2.2.2.2.2.1 a.1.2.2.2.2.2.2.1 a.2.1) r h)
inductive wn2 where
 | start (d0_0 : ByteArray) (d0_1 : (List ub2)) (d0_2 : (List ua1)) (d0_3 : (List ua2)) (d0_4 : (List ua5)) (d0_5 : (List ua9)) (d0_6 : (List ua7)) (a1 : Int) (b2 : Int)
 | p52 (a1 : Int) (b2 : Int) (k7 : Int) (C0 : ByteArray) (C1 : (List ub2)) (C2 : (List ua1)) (C3 : (List ua2)) (C4 : (List ua5)) (C5 : (List ua9)) (C6 : (List ua7))
def u48 : wn2 → List Bool
 | .start .. => []
 | .p52 .. => [false, false, true, false, true]
def xe1 : wn2 → St E.S
 | .start d0_0 d0_1 d0_2 d0_3 d0_4 d0_5 d0_6 a1 b2 => st0 56 [.agg [.v (.string d0_0), .sl 206 d0_1 false, .sl 82 d0_2 false, .sl 208 d0_3 false, .sl 85 d0_4 false, .sl 190 d0_5 false, .sl 146 d0_6 false], .v (.int .i64 a1), .v (.int .i64 b2)] []
 | .p52 a1 b2 k7 C0 C1 C2 C3 C4 C5 C6 => mkSt 56 [1, 2, 3, 7] [.v (.int .i64 a1), .v (.int .i64 b2), .bp 0 0, .v (.int .i64 k7)] [.var 75 [.v (.string C0), .sl 206 C1 false, .sl 82 C2 false, .sl 208 C3 false, .sl 85 C4 false, .sl 190 C5 false, .sl 146 C6 false]]
abbrev xR1 : Type := ((Bool × Unit) × Unit)
def uH3 : Res E (Bool × Unit) Unit := { rows := [], flat := [], keep := 0, done := [0], rl := (.cons Rd.bool .nil), rb := .nil }
def ui1 : wn2 → Option xR1
 | .start d0_0 d0_1 d0_2 d0_3 d0_4 d0_5 d0_6 a1 b2 =>
  ui1 (.p52 a1 b2 (0 : Int) d0_0 d0_1 d0_2 d0_3 d0_4 d0_5 d0_6)
 | .p52 a1 b2 k7 C0 C1 C2 C3 C4 C5 C6 =>
  if (decide (k7 < (List.length C2 : Int))) = true then
   (idx C2 k7) >>= fun t1 =>
   if (!(t1.Kind == (1 : Int))) = true then
    (ug9 (.start C0 C1 C2 C3 C4 C5 C6 a1)) >>= fun t2 =>
    (ud8 (.start t2.2.1 k7)) >>= fun t3 =>
    if t3.1.1 = true then
     (uj7 (.start C0 C1 C2 C3 C4 C5 C6 b2)) >>= fun t4 =>
     (ud8 (.start t4.2.1 k7)) >>= fun t5 =>
     if t5.1.1 = true then
      some ((false, ()), ())
     else
      if (t1.Kind == (1 : Int)) = true then
       (uj7 (.start C0 C1 C2 C3 C4 C5 C6 a1)) >>= fun t6 =>
       (ud8 (.start t6.2.1 k7)) >>= fun t7 =>
       if t7.1.1 = true then
        (ug9 (.start C0 C1 C2 C3 C4 C5 C6 b2)) >>= fun t8 =>
        (ud8 (.start t8.2.1 k7)) >>= fun t9 =>
        if t9.1.1 = true then
         some ((false, ()), ())
        else
         ui1 (.p52 a1 b2 (IntKind.wrap .i64 (k7 + (1 : Int))) C0 C1 C2 C3 C4 C5 C6)
       else
        ui1 (.p52 a1 b2 (IntKind.wrap .i64 (k7 + (1 : Int))) C0 C1 C2 C3 C4 C5 C6)
      else
       ui1 (.p52 a1 b2 (IntKind.wrap .i64 (k7 + (1 : Int))) C0 C1 C2 C3 C4 C5 C6)
    else
     if (t1.Kind == (1 : Int)) = true then
      (uj7 (.start C0 C1 C2 C3 C4 C5 C6 a1)) >>= fun t10 =>
      (ud8 (.start t10.2.1 k7)) >>= fun t11 =>
      if t11.1.1 = true then
       (ug9 (.start C0 C1 C2 C3 C4 C5 C6 b2)) >>= fun t12 =>
       (ud8 (.start t12.2.1 k7)) >>= fun t13 =>
       if t13.1.1 = true then
        some ((false, ()), ())
       else
        ui1 (.p52 a1 b2 (IntKind.wrap .i64 (k7 + (1 : Int))) C0 C1 C2 C3 C4 C5 C6)
      else
       ui1 (.p52 a1 b2 (IntKind.wrap .i64 (k7 + (1 : Int))) C0 C1 C2 C3 C4 C5 C6)
     else
      ui1 (.p52 a1 b2 (IntKind.wrap .i64 (k7 + (1 : Int))) C0 C1 C2 C3 C4 C5 C6)
   else
    if (t1.Kind == (1 : Int)) = true then
     (uj7 (.start C0 C1 C2 C3 C4 C5 C6 a1)) >>= fun t14 =>
     (ud8 (.start t14.2.1 k7)) >>= fun t15 =>
     if t15.1.1 = true then
      (ug9 (.start C0 C1 C2 C3 C4 C5 C6 b2)) >>= fun t16 =>
      (ud8 (.start t16.2.1 k7)) >>= fun t17 =>
      if t17.1.1 = true then
       some ((false, ()), ())
      else
       ui1 (.p52 a1 b2 (IntKind.wrap .i64 (k7 + (1 : Int))) C0 C1 C2 C3 C4 C5 C6)
     else
      ui1 (.p52 a1 b2 (IntKind.wrap .i64 (k7 + (1 : Int))) C0 C1 C2 C3 C4 C5 C6)
    else
     ui1 (.p52 a1 b2 (IntKind.wrap .i64 (k7 + (1 : Int))) C0 C1 C2 C3 C4 C5 C6)
  else
   some ((true, ()), ())
 partial_fixpoint
def xe3 : List (Plc E wn2) := [⟨52, [false, false, true, false, true], { slots := [1, 2, 3, 7], rows := [], flat := [], keep := 0 }, _, _, (.cons (Rd.int .i64) (.cons (Rd.int .i64) (.cons (Rd.bp 0 0) (.cons (Rd.int .i64) .nil)))), (.cons (.var 75 (.cons Rd.str (.cons (Rd.sl 206 false) (.cons (Rd.sl 82 false) (.cons (Rd.sl 208 false) (.cons (Rd.sl 85 false) (.cons (Rd.sl 190 false) (.cons (Rd.sl 146 false) .nil)))))))) .nil), fun a b => .p52 a.1 a.2.1 a.2.2.2.1 b.1.1 b.1.2.1 b.1.2.2.1 b.1.2.2.2.1 b.1.2.2.2.2.1 b.1.2.2.2.2.2.1 b.1.2.2.2.2.2.2.1⟩]
theorem wx8 : All (ub5 56 0 u48 xe1) xe3 := ⟨⟨rfl, rfl, fun _ _ => rfl, fun _ _ => rfl⟩, trivial⟩
def vn1 : Code := Tryz.f165.body.getD .skip
def wc6 : Spec E.S := (Con.add vG6 (Con.add uB4 (Con.add vq7 ub3)))
theorem vP1 : ub0 E wc6 := (Con.add_ok vf2 (Con.add_ok um8 (Con.add_ok uQ1 ua6)))
theorem xt4 : ∀ pt r, ui1 pt = some r → Good E Tryz.f165 vn1 0 (uH3.av r) (uH3.bx r) (u48 pt) (xe1 pt) := by
 refine ui1.partial_correctness (fun pt r => Good E Tryz.f165 vn1 0 (uH3.av r) (uH3.bx r) (u48 pt) (xe1 pt)) ?_
 intro run' ih pt r hr
 cases pt <;> exact ua8 (spec := wc6) (wr := (mkWr [] [])) (l := xe3) (z := 56) (p := uH3) E_ok wx8.mem rfl vP1 ih (Eq.trans (by kernel_rfl) hr)
def wU3 : Con E := ⟨165, _, _, (.cons (Rw.agg (.cons Rd.str.w (.cons (Rw.sl 206) (.cons (Rw.sl 82) (.cons (Rw.sl 208) (.cons (Rw.sl 85) (.cons (Rw.sl 190) (.cons (Rw.sl 146) .nil)))))))) (.cons (Rd.int .i64).w (.cons (Rd.int .i64).w .nil))), .nil, 0, xR1, fun a b => ui1 (.start a.1.1 a.1.2.1 a.1.2.2.1 a.1.2.2.2.1 a.1.2.2.2.2.1 a.1.2.2.2.2.2.1 a.1.2.2.2.2.2.2.1 a.2.1 a.2.2.1), uH3.av, uH3.bx⟩
theorem wz7 : wU3.Ok := fun a b r h => ub6 (fn := Tryz.f165) (code := vn1) E_ok (by kernel_rfl) (by kernel_rfl) (by kernel_rfl) (Nat.le_of_ble_eq_true rfl) (xt4 (.start a.1.1 a.1.2.1 a.1.2.2.1 a.1.2.2.2.1 a.1.2.2.2.2.1 a.1.2.2.2.2.2.1 a.1.2.2.2.2.2.2.1 a.2.1 a.2.2.1) r h)
inductive wo5 where
 | start (d0_0 : ByteArray) (d0_1 : (List ub2)) (d0_2 : (List ua1)) (d0_3 : (List ua2)) (d0_4 : (List ua5)) (d0_5 : (List ua9)) (d0_6 : (List ua7)) (a1 : Int) (b2 : Int)
 | p29 (a1 : Int) (b2 : Int) (before7 : Bool) (after8 : Bool) (s22 : Bool) (C0 : ByteArray) (C1 : (List ub2)) (C2 : (List ua1)) (C3 : (List ua2)) (C4 : (List ua5)) (C5 : (List ua9)) (C6 : (List ua7))
 | p1876 (a1 : Int) (i10 : Int) (C0 : ByteArray) (C1 : (List ub2)) (C2 : (List ua1)) (C3 : (List ua2)) (C4 : (List ua5)) (C5 : (List ua9)) (C6 : (List ua7)) (B1 : (List Int))
def uV7 : wo5 → List Bool
 | .start .. => []
 | .p29 .. => [true, false, true, true]
 | .p1876 .. => [false, false, true, false, true, false, true, false, true, true]
def wK4 : wo5 → St E.S
 | .start d0_0 d0_1 d0_2 d0_3 d0_4 d0_5 d0_6 a1 b2 => st0 42 [.agg [.v (.string d0_0), .sl 206 d0_1 false, .sl 82 d0_2 false, .sl 208 d0_3 false, .sl 85 d0_4 false, .sl 190 d0_5 false, .sl 146 d0_6 false], .v (.int .i64 a1), .v (.int .i64 b2)] []
 | .p29 a1 b2 before7 after8 s22 C0 C1 C2 C3 C4 C5 C6 => mkSt 42 [1, 2, 3, 7, 8, 22] [.v (.int .i64 a1), .v (.int .i64 b2), .bp 0 0, .v (.bool before7), .v (.bool after8), .v (.bool s22)] [.var 75 [.v (.string C0), .sl 206 C1 false, .sl 82 C2 false, .sl 208 C3 false, .sl 85 C4 false, .sl 190 C5 false, .sl 146 C6 false]]
 | .p1876 a1 i10 C0 C1 C2 C3 C4 C5 C6 B1 => mkSt 42 [1, 3, 9, 10] [.v (.int .i64 a1), .bp 0 0, .rw 1, .v (.int .i64 i10)] [.var 75 [.v (.string C0), .sl 206 C1 false, .sl 82 C2 false, .sl 208 C3 false, .sl 85 C4 false, .sl 190 C5 false, .sl 146 C6 false], .row 3 B1 true]
abbrev xE5 : Type := ((Int × Unit) × Unit)
def uE7 : Res E (Int × Unit) Unit := { rows := [], flat := [], keep := 0, done := [0], rl := (.cons (Rd.int .i64) .nil), rb := .nil }
def ut3 : wo5 → Option xE5
 | .start d0_0 d0_1 d0_2 d0_3 d0_4 d0_5 d0_6 a1 b2 =>
  (ui1 (.start d0_0 d0_1 d0_2 d0_3 d0_4 d0_5 d0_6 a1 b2)) >>= fun t1 =>
  (ui1 (.start d0_0 d0_1 d0_2 d0_3 d0_4 d0_5 d0_6 b2 a1)) >>= fun t2 =>
  if t1.1.1 = true then
   ut3 (.p29 a1 b2 t1.1.1 t2.1.1 t2.1.1 d0_0 d0_1 d0_2 d0_3 d0_4 d0_5 d0_6)
  else
   ut3 (.p29 a1 b2 t1.1.1 t2.1.1 false d0_0 d0_1 d0_2 d0_3 d0_4 d0_5 d0_6)
 | .p29 a1 b2 before7 after8 s22 C0 C1 C2 C3 C4 C5 C6 =>
  if s22 = true then
   (ug9 (.start C0 C1 C2 C3 C4 C5 C6 b2)) >>= fun t1 =>
   ut3 (.p1876 a1 (0 : Int) C0 C1 C2 C3 C4 C5 C6 t1.2.1)
  else
   if before7 = true then
    some (((2 : Int), ()), ())
   else
    if after8 = true then
     some (((3 : Int), ()), ())
    else
     some (((4 : Int), ()), ())
 | .p1876 a1 i10 C0 C1 C2 C3 C4 C5 C6 B1 =>
  if (decide (i10 < (List.length B1 : Int))) = true then
   (ug9 (.start C0 C1 C2 C3 C4 C5 C6 a1)) >>= fun t1 =>
   if (decide ((0 : Int) ≤ i10) && decide (i10 < (List.length B1 : Int))) = true then
    (idx B1 i10) >>= fun t2 =>
    (ud8 (.start t1.2.1 t2)) >>= fun t3 =>
    if t3.1.1 = true then
     some (((1 : Int), ()), ())
    else
     ut3 (.p1876 a1 (IntKind.wrap .i64 (i10 + (1 : Int))) C0 C1 C2 C3 C4 C5 C6 B1)
   else none
  else
   some (((0 : Int), ()), ())
 partial_fixpoint
def w40 : List (Plc E wo5) := [⟨29, [true, false, true, true], { slots := [1, 2, 3, 7, 8, 22], rows := [], flat := [], keep := 0 }, _, _, (.cons (Rd.int .i64) (.cons (Rd.int .i64) (.cons (Rd.bp 0 0) (.cons Rd.bool (.cons Rd.bool (.cons Rd.bool .nil)))))), (.cons (.var 75 (.cons Rd.str (.cons (Rd.sl 206 false) (.cons (Rd.sl 82 false) (.cons (Rd.sl 208 false) (.cons (Rd.sl 85 false) (.cons (Rd.sl 190 false) (.cons (Rd.sl 146 false) .nil)))))))) .nil), fun a b => .p29 a.1 a.2.1 a.2.2.2.1 a.2.2.2.2.1 a.2.2.2.2.2.1 b.1.1 b.1.2.1 b.1.2.2.1 b.1.2.2.2.1 b.1.2.2.2.2.1 b.1.2.2.2.2.2.1 b.1.2.2.2.2.2.2.1⟩,
 ⟨1876, [false, false, true, false, true, false, true, false, true, true], { slots := [1, 3, 9, 10], rows := [], flat := [], keep := 0 }, _, _, (.cons (Rd.int .i64) (.cons (Rd.bp 0 0) (.cons (Rd.rw 1) (.cons (Rd.int .i64) .nil)))), (.cons (.var 75 (.cons Rd.str (.cons (Rd.sl 206 false) (.cons (Rd.sl 82 false) (.cons (Rd.sl 208 false) (.cons (Rd.sl 85 false) (.cons (Rd.sl 190 false) (.cons (Rd.sl 146 false) .nil)))))))) (.cons (.row 3 true) .nil)), fun a b => .p1876 a.1 a.2.2.2.1 b.1.1 b.1.2.1 b.1.2.2.1 b.1.2.2.2.1 b.1.2.2.2.2.1 b.1.2.2.2.2.2.1 b.1.2.2.2.2.2.2.1 b.2.1⟩]
theorem wC7 : All (ub5 42 0 uV7 wK4) w40 := ⟨⟨rfl, rfl, fun _ _ => rfl, fun _ _ => rfl⟩, ⟨⟨rfl, rfl, fun _ _ => rfl, fun _ _ => rfl⟩, trivial⟩⟩
def vh3 : Code := Tryz.f113.body.getD .skip
def wi2 : Spec E.S := (Con.add uB4 (Con.add vq7 (Con.add wU3 ub3)))
theorem vQ2 : ub0 E wi2 := (Con.add_ok um8 (Con.add_ok uQ1 (Con.add_ok wz7 ua6)))
theorem xk4 : ∀ pt r, ut3 pt = some r → Good E Tryz.f113 vh3 0 (uE7.av r) (uE7.bx r) (uV7 pt) (wK4 pt) := by
 refine ut3.partial_correctness (fun pt r => Good E Tryz.f113 vh3 0 (uE7.av r) (uE7.bx r) (uV7 pt) (wK4 pt)) ?_
 intro run' ih pt r hr
 cases pt <;> exact ua8 (spec := wi2) (wr := (mkWr [] [])) (l := w40) (z := 42) (p := uE7) E_ok wC7.mem rfl vQ2 ih (Eq.trans (by kernel_rfl) hr)
def wO6 : Con E := ⟨113, _, _, (.cons (Rw.agg (.cons Rd.str.w (.cons (Rw.sl 206) (.cons (Rw.sl 82) (.cons (Rw.sl 208) (.cons (Rw.sl 85) (.cons (Rw.sl 190) (.cons (Rw.sl 146) .nil)))))))) (.cons (Rd.int .i64).w (.cons (Rd.int .i64).w .nil))), .nil, 0, xE5, fun a b => ut3 (.start a.1.1 a.1.2.1 a.1.2.2.1 a.1.2.2.2.1 a.1.2.2.2.2.1 a.1.2.2.2.2.2.1 a.1.2.2.2.2.2.2.1 a.2.1 a.2.2.1), uE7.av, uE7.bx⟩
theorem wj0 : wO6.Ok := fun a b r h => ub6 (fn := Tryz.f113) (code := vh3) E_ok (by kernel_rfl) (by kernel_rfl) (by kernel_rfl) (Nat.le_of_ble_eq_true rfl) (xk4 (.start a.1.1 a.1.2.1 a.1.2.2.1 a.1.2.2.2.1 a.1.2.2.2.2.1 a.1.2.2.2.2.2.1 a.1.2.2.2.2.2.2.1 a.2.1 a.2.2.1) r h)
inductive wv9 where
 | start (d0_0 : ByteArray) (d0_1 : (List ub2)) (d0_2 : (List ua1)) (d0_3 : (List ua2)) (d0_4 : (List ua5)) (d0_5 : (List ua9)) (d0_6 : (List ua7)) (a1 : Int) (b2 : Int)
 | p52 (a1 : Int) (b2 : Int) (i7 : Int) (C0 : ByteArray) (C1 : (List ub2)) (C2 : (List ua1)) (C3 : (List ua2)) (C4 : (List ua5)) (C5 : (List ua9)) (C6 : (List ua7))
def u83 : wv9 → List Bool
 | .start .. => []
 | .p52 .. => [false, false, true, false, true]
def w70 : wv9 → St E.S
 | .start d0_0 d0_1 d0_2 d0_3 d0_4 d0_5 d0_6 a1 b2 => st0 54 [.agg [.v (.string d0_0), .sl 206 d0_1 false, .sl 82 d0_2 false, .sl 208 d0_3 false, .sl 85 d0_4 false, .sl 190 d0_5 false, .sl 146 d0_6 false], .v (.int .i64 a1), .v (.int .i64 b2)] []
 | .p52 a1 b2 i7 C0 C1 C2 C3 C4 C5 C6 => mkSt 54 [1, 2, 3, 7] [.v (.int .i64 a1), .v (.int .i64 b2), .bp 0 0, .v (.int .i64 i7)] [.var 75 [.v (.string C0), .sl 206 C1 false, .sl 82 C2 false, .sl 208 C3 false, .sl 85 C4 false, .sl 190 C5 false, .sl 146 C6 false]]
abbrev xR0 : Type := ((Bool × Unit) × Unit)
def uD7 : Res E (Bool × Unit) Unit := { rows := [], flat := [], keep := 0, done := [0], rl := (.cons Rd.bool .nil), rb := .nil }
def uo8 : wv9 → Option xR0
 | .start d0_0 d0_1 d0_2 d0_3 d0_4 d0_5 d0_6 a1 b2 =>
  uo8 (.p52 a1 b2 (0 : Int) d0_0 d0_1 d0_2 d0_3 d0_4 d0_5 d0_6)
 | .p52 a1 b2 i7 C0 C1 C2 C3 C4 C5 C6 =>
  if (decide (i7 < (List.length C6 : Int))) = true then
   (idx C6 i7) >>= fun t1 =>
   if (t1.Kind == (1 : Int)) = true then
    (idx t1.Rules (0 : Int)) >>= fun t2 =>
    if (t2 == a1) = true then
     (span (List.length t1.Rules) (1 : Int) (List.length t1.Rules : Int)) >>= fun t3 =>
     (ud8 (.start (cut t1.Rules t3) b2)) >>= fun t4 =>
     if t4.1.1 = true then
      some ((true, ()), ())
     else
      (idx t1.Rules (0 : Int)) >>= fun t5 =>
      if (t5 == b2) = true then
       (span (List.length t1.Rules) (1 : Int) (List.length t1.Rules : Int)) >>= fun t6 =>
       (ud8 (.start (cut t1.Rules t6) a1)) >>= fun t7 =>
       if t7.1.1 = true then
        some ((true, ()), ())
       else
        uo8 (.p52 a1 b2 (IntKind.wrap .i64 (i7 + (1 : Int))) C0 C1 C2 C3 C4 C5 C6)
      else
       uo8 (.p52 a1 b2 (IntKind.wrap .i64 (i7 + (1 : Int))) C0 C1 C2 C3 C4 C5 C6)
    else
     (idx t1.Rules (0 : Int)) >>= fun t8 =>
     if (t8 == b2) = true then
      (span (List.length t1.Rules) (1 : Int) (List.length t1.Rules : Int)) >>= fun t9 =>
      (ud8 (.start (cut t1.Rules t9) a1)) >>= fun t10 =>
      if t10.1.1 = true then
       some ((true, ()), ())
      else
       uo8 (.p52 a1 b2 (IntKind.wrap .i64 (i7 + (1 : Int))) C0 C1 C2 C3 C4 C5 C6)
     else
      uo8 (.p52 a1 b2 (IntKind.wrap .i64 (i7 + (1 : Int))) C0 C1 C2 C3 C4 C5 C6)
   else
    uo8 (.p52 a1 b2 (IntKind.wrap .i64 (i7 + (1 : Int))) C0 C1 C2 C3 C4 C5 C6)
  else
   some ((false, ()), ())
 partial_fixpoint
def wW1 : List (Plc E wv9) := [⟨52, [false, false, true, false, true], { slots := [1, 2, 3, 7], rows := [], flat := [], keep := 0 }, _, _, (.cons (Rd.int .i64) (.cons (Rd.int .i64) (.cons (Rd.bp 0 0) (.cons (Rd.int .i64) .nil)))), (.cons (.var 75 (.cons Rd.str (.cons (Rd.sl 206 false) (.cons (Rd.sl 82 false) (.cons (Rd.sl 208 false) (.cons (Rd.sl 85 false) (.cons (Rd.sl 190 false) (.cons (Rd.sl 146 false) .nil)))))))) .nil), fun a b => .p52 a.1 a.2.1 a.2.2.2.1 b.1.1 b.1.2.1 b.1.2.2.1 b.1.2.2.2.1 b.1.2.2.2.2.1 b.1.2.2.2.2.2.1 b.1.2.2.2.2.2.2.1⟩]
theorem wj5 : All (ub5 54 0 u83 w70) wW1 := ⟨⟨rfl, rfl, fun _ _ => rfl, fun _ _ => rfl⟩, trivial⟩
def vj4 : Code := Tryz.f114.body.getD .skip
def wf7 : Spec E.S := (Con.add uB4 ub3)
theorem vG0 : ub0 E wf7 := (Con.add_ok um8 ua6)
theorem xh1 : ∀ pt r, uo8 pt = some r → Good E Tryz.f114 vj4 0 (uD7.av r) (uD7.bx r) (u83 pt) (w70 pt) := by
 refine uo8.partial_correctness (fun pt r => Good E Tryz.f114 vj4 0 (uD7.av r) (uD7.bx r) (u83 pt) (w70 pt)) ?_
 intro run' ih pt r hr
 cases pt <;> exact ua8 (spec := wf7) (wr := (mkWr [] [])) (l := wW1) (z := 54) (p := uD7) E_ok wj5.mem rfl vG0 ih (Eq.trans (by kernel_rfl) hr)
def w20 : Con E := ⟨114, _, _, (.cons (Rw.agg (.cons Rd.str.w (.cons (Rw.sl 206) (.cons (Rw.sl 82) (.cons (Rw.sl 208) (.cons (Rw.sl 85) (.cons (Rw.sl 190) (.cons (Rw.sl 146) .nil)))))))) (.cons (Rd.int .i64).w (.cons (Rd.int .i64).w .nil))), .nil, 0, xR0, fun a b => uo8 (.start a.1.1 a.1.2.1 a.1.2.2.1 a.1.2.2.2.1 a.1.2.2.2.2.1 a.1.2.2.2.2.2.1 a.1.2.2.2.2.2.2.1 a.2.1 a.2.2.1), uD7.av, uD7.bx⟩
theorem ww2 : w20.Ok := fun a b r h => ub6 (fn := Tryz.f114) (code := vj4) E_ok (by kernel_rfl) (by kernel_rfl) (by kernel_rfl) (Nat.le_of_ble_eq_true rfl) (xh1 (.start a.1.1 a.1.2.1 a.1.2.2.1 a.1.2.2.2.1 a.1.2.2.2.2.1 a.1.2.2.2.2.2.1 a.1.2.2.2.2.2.2.1 a.2.1 a.2.2.1) r h)
inductive wF8 where
 | start (d0_0 : ByteArray) (d0_1 : (List ub2)) (d0_2 : (List ua1)) (d0_3 : (List ua2)) (d0_4 : (List ua5)) (d0_5 : (List ua9)) (d0_6 : (List ua7)) (a1 : Int) (b2 : Int)
 | p52 (a1 : Int) (b2 : Int) (k7 : Int) (C0 : ByteArray) (C1 : (List ub2)) (C2 : (List ua1)) (C3 : (List ua2)) (C4 : (List ua5)) (C5 : (List ua9)) (C6 : (List ua7))
def u37 : wF8 → List Bool
 | .start .. => []
 | .p52 .. => [false, false, true, false, true]
def w63 : wF8 → St E.S
 | .start d0_0 d0_1 d0_2 d0_3 d0_4 d0_5 d0_6 a1 b2 => st0 36 [.agg [.v (.string d0_0), .sl 206 d0_1 false, .sl 82 d0_2 false, .sl 208 d0_3 false, .sl 85 d0_4 false, .sl 190 d0_5 false, .sl 146 d0_6 false], .v (.int .i64 a1), .v (.int .i64 b2)] []
 | .p52 a1 b2 k7 C0 C1 C2 C3 C4 C5 C6 => mkSt 36 [1, 2, 3, 7] [.v (.int .i64 a1), .v (.int .i64 b2), .bp 0 0, .v (.int .i64 k7)] [.var 75 [.v (.string C0), .sl 206 C1 false, .sl 82 C2 false, .sl 208 C3 false, .sl 85 C4 false, .sl 190 C5 false, .sl 146 C6 false]]
abbrev xO9 : Type := ((Bool × Unit) × Unit)
def uF7 : Res E (Bool × Unit) Unit := { rows := [], flat := [], keep := 0, done := [0], rl := (.cons Rd.bool .nil), rb := .nil }
def ut5 : wF8 → Option xO9
 | .start d0_0 d0_1 d0_2 d0_3 d0_4 d0_5 d0_6 a1 b2 =>
  ut5 (.p52 a1 b2 (0 : Int) d0_0 d0_1 d0_2 d0_3 d0_4 d0_5 d0_6)
 | .p52 a1 b2 k7 C0 C1 C2 C3 C4 C5 C6 =>
  if (decide (k7 < (List.length C2 : Int))) = true then
   (idx C2 k7) >>= fun t1 =>
   if (t1.Kind == (1 : Int)) = true then
    (ug9 (.start C0 C1 C2 C3 C4 C5 C6 a1)) >>= fun t2 =>
    (ud8 (.start t2.2.1 k7)) >>= fun t3 =>
    if t3.1.1 = true then
     (uj7 (.start C0 C1 C2 C3 C4 C5 C6 b2)) >>= fun t4 =>
     (ud8 (.start t4.2.1 k7)) >>= fun t5 =>
     if t5.1.1 = true then
      some ((true, ()), ())
     else
      ut5 (.p52 a1 b2 (IntKind.wrap .i64 (k7 + (1 : Int))) C0 C1 C2 C3 C4 C5 C6)
    else
     ut5 (.p52 a1 b2 (IntKind.wrap .i64 (k7 + (1 : Int))) C0 C1 C2 C3 C4 C5 C6)
   else
    ut5 (.p52 a1 b2 (IntKind.wrap .i64 (k7 + (1 : Int))) C0 C1 C2 C3 C4 C5 C6)
  else
   some ((false, ()), ())
 partial_fixpoint
def wP9 : List (Plc E wF8) := [⟨52, [false, false, true, false, true], { slots := [1, 2, 3, 7], rows := [], flat := [], keep := 0 }, _, _, (.cons (Rd.int .i64) (.cons (Rd.int .i64) (.cons (Rd.bp 0 0) (.cons (Rd.int .i64) .nil)))), (.cons (.var 75 (.cons Rd.str (.cons (Rd.sl 206 false) (.cons (Rd.sl 82 false) (.cons (Rd.sl 208 false) (.cons (Rd.sl 85 false) (.cons (Rd.sl 190 false) (.cons (Rd.sl 146 false) .nil)))))))) .nil), fun a b => .p52 a.1 a.2.1 a.2.2.2.1 b.1.1 b.1.2.1 b.1.2.2.1 b.1.2.2.2.1 b.1.2.2.2.2.1 b.1.2.2.2.2.2.1 b.1.2.2.2.2.2.2.1⟩]
theorem wx1 : All (ub5 36 0 u37 w63) wP9 := ⟨⟨rfl, rfl, fun _ _ => rfl, fun _ _ => rfl⟩, trivial⟩
def vp0 : Code := Tryz.f115.body.getD .skip
def v62 : Spec E.S := (Con.add vG6 (Con.add uB4 (Con.add vq7 ub3)))
theorem vH1 : ub0 E v62 := (Con.add_ok vf2 (Con.add_ok um8 (Con.add_ok uQ1 ua6)))
theorem xg0 : ∀ pt r, ut5 pt = some r → Good E Tryz.f115 vp0 0 (uF7.av r) (uF7.bx r) (u37 pt) (w63 pt) := by
 refine ut5.partial_correctness (fun pt r => Good E Tryz.f115 vp0 0 (uF7.av r) (uF7.bx r) (u37 pt) (w63 pt)) ?_
 intro run' ih pt r hr
 cases pt <;> exact ua8 (spec := v62) (wr := (mkWr [] [])) (l := wP9) (z := 36) (p := uF7) E_ok wx1.mem rfl vH1 ih (Eq.trans (by kernel_rfl) hr)
def wT7 : Con E := ⟨115, _, _, (.cons (Rw.agg (.cons Rd.str.w (.cons (Rw.sl 206) (.cons (Rw.sl 82) (.cons (Rw.sl 208) (.cons (Rw.sl 85) (.cons (Rw.sl 190) (.cons (Rw.sl 146) .nil)))))))) (.cons (Rd.int .i64).w (.cons (Rd.int .i64).w .nil))), .nil, 0, xO9, fun a b => ut5 (.start a.1.1 a.1.2.1 a.1.2.2.1 a.1.2.2.2.1 a.1.2.2.2.2.1 a.1.2.2.2.2.2.1 a.1.2.2.2.2.2.2.1 a.2.1 a.2.2.1), uF7.av, uF7.bx⟩
theorem wq3 : wT7.Ok := fun a b r h => ub6 (fn := Tryz.f115) (code := vp0) E_ok (by kernel_rfl) (by kernel_rfl) (by kernel_rfl) (Nat.le_of_ble_eq_true rfl) (xg0 (.start a.1.1 a.1.2.1 a.1.2.2.1 a.1.2.2.2.1 a.1.2.2.2.2.1 a.1.2.2.2.2.2.1 a.1.2.2.2.2.2.2.1 a.2.1 a.2.2.1) r h)
inductive wi8 where
 | start (d0_0 : ByteArray) (d0_1 : (List ub2)) (d0_2 : (List ua1)) (d0_3 : (List ua2)) (d0_4 : (List ua5)) (d0_5 : (List ua9)) (d0_6 : (List ua7))
 | p244 (n4 : Int) (a6 : Int) (C0 : ByteArray) (C1 : (List ub2)) (C2 : (List ua1)) (C3 : (List ua2)) (C4 : (List ua5)) (C5 : (List ua9)) (C6 : (List ua7)) (B2 : (List ub1))
 | p15652 (n4 : Int) (a6 : Int) (b7 : Int) (C0 : ByteArray) (C1 : (List ub2)) (C2 : (List ua1)) (C3 : (List ua2)) (C4 : (List ua5)) (C5 : (List ua9)) (C6 : (List ua7)) (B2 : (List ub1))
 | p16372 (n4 : Int) (i13 : Int) (C0 : ByteArray) (C1 : (List ub2)) (C2 : (List ua1)) (C3 : (List ua2)) (C4 : (List ua5)) (C5 : (List ua9)) (C6 : (List ua7)) (B2 : (List Int)) (B4 : (List ub1)) (B5 : (List Bool))
 | p1047844 (n4 : Int) (i13 : Int) (k14 : Int) (C0 : ByteArray) (C1 : (List ub2)) (C2 : (List ua1)) (C3 : (List ua2)) (C4 : (List ua5)) (C5 : (List ua9)) (C6 : (List ua7)) (B2 : (List Int)) (B4 : (List ub1)) (B5 : (List Bool))
 | p134124109 (n4 : Int) (i13 : Int) (k14 : Int) (q15 : Int) (r16 : Int) (relation17 : Int) (s101 : Bool) (C0 : ByteArray) (C1 : (List ub2)) (C2 : (List ua1)) (C3 : (List ua2)) (C4 : (List ua5)) (C5 : (List ua9)) (C6 : (List ua7)) (B2 : (List Int)) (B4 : (List ub1)) (B5 : (List Bool))
 | p134124111 (n4 : Int) (i13 : Int) (k14 : Int) (q15 : Int) (r16 : Int) (relation17 : Int) (C0 : ByteArray) (C1 : (List ub2)) (C2 : (List ua1)) (C3 : (List ua2)) (C4 : (List ua5)) (C5 : (List ua9)) (C6 : (List ua7)) (B2 : (List Int)) (B4 : (List ub1)) (B5 : (List Bool))
 | p536496447 (n4 : Int) (i13 : Int) (k14 : Int) (q15 : Int) (r16 : Int) (C0 : ByteArray) (C1 : (List ub2)) (C2 : (List ua1)) (C3 : (List ua2)) (C4 : (List ua5)) (C5 : (List ua9)) (C6 : (List ua7)) (B2 : (List Int)) (B4 : (List ub1)) (B5 : (List Bool)) (L0 : Int) (L1 : Int)
 | p65524 (n4 : Int) (a22 : Int) (B2 : (List Bool)) (B3 : (List Int)) (B4 : (List Int)) (B5 : (List ub1))
 | p4193572 (n4 : Int) (a22 : Int) (b23 : Int) (B2 : (List Bool)) (B3 : (List Int)) (B4 : (List Int)) (B5 : (List ub1))
def u63 : wi8 → List Bool
 | .start .. => []
 | .p244 .. => [false, false, true, false, true, true, true]
 | .p15652 .. => [false, false, true, false, false, true, false, false, true, false, true, true, true]
 | .p16372 .. => [false, false, true, false, true, true, true, true, true, true, true, true, true]
 | .p1047844 .. => [false, false, true, false, false, true, false, false, true, false, true, true, true, true, true, true, true, true, true]
 | .p134124109 .. => [true, false, true, true, false, false, true, false, false, true, false, false, true, false, false, true, false, true, true, true, true, true, true, true, true, true]
 | .p134124111 .. => [true, true, true, true, false, false, true, false, false, true, false, false, true, false, false, true, false, true, true, true, true, true, true, true, true, true]
 | .p536496447 .. => [true, true, true, true, true, true, false, false, true, false, false, true, false, false, true, false, false, true, false, true, true, true, true, true, true, true, true, true]
 | .p65524 .. => [false, false, true, false, true, true, true, true, true, true, true, true, true, true, true]
 | .p4193572 .. => [false, false, true, false, false, true, false, false, true, false, true, true, true, true, true, true, true, true, true, true, true]
def wP2 : wi8 → St E.S
 | .start d0_0 d0_1 d0_2 d0_3 d0_4 d0_5 d0_6 => st0 188 [.agg [.v (.string d0_0), .sl 206 d0_1 false, .sl 82 d0_2 false, .sl 208 d0_3 false, .sl 85 d0_4 false, .sl 190 d0_5 false, .sl 146 d0_6 false]] []
 | .p244 n4 a6 C0 C1 C2 C3 C4 C5 C6 B2 => mkSt 188 [1, 2, 4, 5, 6] [.bp 0 0, .bp 1 0, .v (.int .i64 n4), .rw 2, .v (.int .i64 a6)] [.var 75 [.v (.string C0), .sl 206 C1 false, .sl 82 C2 false, .sl 208 C3 false, .sl 85 C4 false, .sl 190 C5 false, .sl 146 C6 false], .var 109 [.nl, .nl, .nl], .row 181 B2 false]
 | .p15652 n4 a6 b7 C0 C1 C2 C3 C4 C5 C6 B2 => mkSt 188 [1, 2, 4, 5, 6, 7] [.bp 0 0, .bp 1 0, .v (.int .i64 n4), .rw 2, .v (.int .i64 a6), .v (.int .i64 b7)] [.var 75 [.v (.string C0), .sl 206 C1 false, .sl 82 C2 false, .sl 208 C3 false, .sl 85 C4 false, .sl 190 C5 false, .sl 146 C6 false], .var 109 [.nl, .nl, .nl], .row 181 B2 false]
 | .p16372 n4 i13 C0 C1 C2 C3 C4 C5 C6 B2 B4 B5 => mkSt 188 [1, 2, 4, 8, 10, 11, 12, 13] [.bp 0 0, .bp 1 0, .v (.int .i64 n4), .rw 2, .bp 3 0, .rw 4, .rw 5, .v (.int .i64 i13)] [.var 75 [.v (.string C0), .sl 206 C1 false, .sl 82 C2 false, .sl 208 C3 false, .sl 85 C4 false, .sl 190 C5 false, .sl 146 C6 false], .var 109 [.nl, .nl, .nl], .row 3 B2 true, .var 109 [.rw 2, .nl, .nl], .row 181 B4 true, .row 4 B5 false]
 | .p1047844 n4 i13 k14 C0 C1 C2 C3 C4 C5 C6 B2 B4 B5 => mkSt 188 [1, 2, 4, 8, 10, 11, 12, 13, 14] [.bp 0 0, .bp 1 0, .v (.int .i64 n4), .rw 2, .bp 3 0, .rw 4, .rw 5, .v (.int .i64 i13), .v (.int .i64 k14)] [.var 75 [.v (.string C0), .sl 206 C1 false, .sl 82 C2 false, .sl 208 C3 false, .sl 85 C4 false, .sl 190 C5 false, .sl 146 C6 false], .var 109 [.nl, .nl, .nl], .row 3 B2 true, .var 109 [.rw 2, .nl, .nl], .row 181 B4 true, .row 4 B5 false]
 | .p134124109 n4 i13 k14 q15 r16 relation17 s101 C0 C1 C2 C3 C4 C5 C6 B2 B4 B5 => mkSt 188 [1, 2, 4, 8, 10, 11, 12, 13, 14, 15, 16, 17, 101] [.bp 0 0, .bp 1 0, .v (.int .i64 n4), .rw 2, .bp 3 0, .rw 4, .rw 5, .v (.int .i64 i13), .v (.int .i64 k14), .v (.int .i64 q15), .v (.int .i64 r16), .v (.int .i64 relation17), .v (.bool s101)] [.var 75 [.v (.string C0), .sl 206 C1 false, .sl 82 C2 false, .sl 208 C3 false, .sl 85 C4 false, .sl 190 C5 false, .sl 146 C6 false], .var 109 [.nl, .nl, .nl], .row 3 B2 true, .var 109 [.rw 2, .nl, .nl], .row 181 B4 true, .row 4 B5 false]
 | .p134124111 n4 i13 k14 q15 r16 relation17 C0 C1 C2 C3 C4 C5 C6 B2 B4 B5 => mkSt 188 [1, 2, 4, 8, 10, 11, 12, 13, 14, 15, 16, 17] [.bp 0 0, .bp 1 0, .v (.int .i64 n4), .rw 2, .bp 3 0, .rw 4, .rw 5, .v (.int .i64 i13), .v (.int .i64 k14), .v (.int .i64 q15), .v (.int .i64 r16), .v (.int .i64 relation17)] [.var 75 [.v (.string C0), .sl 206 C1 false, .sl 82 C2 false, .sl 208 C3 false, .sl 85 C4 false, .sl 190 C5 false, .sl 146 C6 false], .var 109 [.nl, .nl, .nl], .row 3 B2 true, .var 109 [.rw 2, .nl, .nl], .row 181 B4 true, .row 4 B5 false]
 | .p536496447 n4 i13 k14 q15 r16 C0 C1 C2 C3 C4 C5 C6 B2 B4 B5 L0 L1 => mkSt 188 [1, 2, 4, 8, 10, 11, 12, 13, 14, 15, 16, 18] [.bp 0 0, .bp 1 0, .v (.int .i64 n4), .rw 2, .bp 3 0, .rw 4, .rw 5, .v (.int .i64 i13), .v (.int .i64 k14), .v (.int .i64 q15), .v (.int .i64 r16), .bp 6 0] [.var 75 [.v (.string C0), .sl 206 C1 false, .sl 82 C2 false, .sl 208 C3 false, .sl 85 C4 false, .sl 190 C5 false, .sl 146 C6 false], .var 109 [.nl, .nl, .nl], .row 3 B2 true, .var 109 [.rw 2, .nl, .nl], .row 181 B4 true, .row 4 B5 false, .var 181 [.v (.int .i64 L0), .v (.int .i64 L1)]]
 | .p65524 n4 a22 B2 B3 B4 B5 => mkSt 188 [2, 4, 10, 12, 22] [.bp 0 0, .v (.int .i64 n4), .bp 1 0, .rw 2, .v (.int .i64 a22)] [.var 109 [.nl, .nl, .nl], .var 109 [.rw 3, .rw 4, .rw 5], .row 4 B2 false, .row 3 B3 true, .row 3 B4 true, .row 181 B5 false]
 | .p4193572 n4 a22 b23 B2 B3 B4 B5 => mkSt 188 [2, 4, 10, 12, 22, 23] [.bp 0 0, .v (.int .i64 n4), .bp 1 0, .rw 2, .v (.int .i64 a22), .v (.int .i64 b23)] [.var 109 [.nl, .nl, .nl], .var 109 [.rw 3, .rw 4, .rw 5], .row 4 B2 false, .row 3 B3 true, .row 3 B4 true, .row 181 B5 false]
abbrev xM6 : Type := ((((List Int) × ((List Int) × ((List ub1) × Unit))) × (Bool × Unit)) × Unit)
def uH2 : Res E (((List Int) × ((List Int) × ((List ub1) × Unit))) × (Bool × Unit)) Unit := { rows := [], flat := [], keep := 0, deep := [(false, 0, 0, 3), (false, 0, 1, 3), (false, 0, 2, 181)], done := [0, 1], rl := (.cons (Rd.agg (.cons (Rd.sl 3 false) (.cons (Rd.sl 3 false) (.cons (Rd.sl 181 false) .nil)))) (.cons Rd.bool .nil)), rb := .nil }
def uc6 : wi8 → Option xM6
 | .start d0_0 d0_1 d0_2 d0_3 d0_4 d0_5 d0_6 =>
  uc6 (.p244 (List.length d0_4 : Int) (0 : Int) d0_0 d0_1 d0_2 d0_3 d0_4 d0_5 d0_6 ([] : List ub1))
 | .p244 n4 a6 C0 C1 C2 C3 C4 C5 C6 B2 =>
  if (decide (a6 < n4)) = true then
   uc6 (.p15652 n4 a6 (0 : Int) C0 C1 C2 C3 C4 C5 C6 B2)
  else
   (ui0 (.start n4 B2)) >>= fun t1 =>
   if (!t1.1.2.1) = true then
    some ((([], ([], ([], ()))), (false, ())), ())
   else
    if (uz7 (IntKind.wrap .i64 (n4 * n4)) (IntKind.wrap .i64 (n4 * n4)) 1) = true then
     uc6 (.p16372 n4 (0 : Int) C0 C1 C2 C3 C4 C5 C6 t1.2.1 ([] : List ub1) (List.replicate (Int.toNat (IntKind.wrap .i64 (n4 * n4))) false))
    else none
 | .p15652 n4 a6 b7 C0 C1 C2 C3 C4 C5 C6 B2 =>
  if (decide (b7 < n4)) = true then
   (uj0 (.start C0 C1 C2 C3 C4 C5 C6 a6 b7)) >>= fun t1 =>
   if t1.1.1 = true then
    if (fits (List.length B2) (List.length ([(⟨a6, b7⟩ : ub1)] : List ub1)) 16) = true then
     uc6 (.p15652 n4 a6 (IntKind.wrap .i64 (b7 + (1 : Int))) C0 C1 C2 C3 C4 C5 C6 (B2 ++ ([(⟨a6, b7⟩ : ub1)] : List ub1)))
    else none
   else
    uc6 (.p15652 n4 a6 (IntKind.wrap .i64 (b7 + (1 : Int))) C0 C1 C2 C3 C4 C5 C6 B2)
  else
   uc6 (.p244 n4 (IntKind.wrap .i64 (a6 + (1 : Int))) C0 C1 C2 C3 C4 C5 C6 B2)
 | .p16372 n4 i13 C0 C1 C2 C3 C4 C5 C6 B2 B4 B5 =>
  if (decide (i13 < n4)) = true then
   uc6 (.p1047844 n4 i13 (0 : Int) C0 C1 C2 C3 C4 C5 C6 B2 B4 B5)
  else
   (ui0 (.start n4 B4)) >>= fun t1 =>
   uc6 (.p65524 n4 (0 : Int) B5 B2 t1.2.1 ([] : List ub1))
 | .p1047844 n4 i13 k14 C0 C1 C2 C3 C4 C5 C6 B2 B4 B5 =>
  if (decide (k14 < i13)) = true then
   if (decide ((0 : Int) ≤ k14) && decide (k14 < (List.length B2 : Int))) = true then
    (idx B2 k14) >>= fun t1 =>
    if (decide ((0 : Int) ≤ i13) && decide (i13 < (List.length B2 : Int))) = true then
     (idx B2 i13) >>= fun t2 =>
     (ut3 (.start C0 C1 C2 C3 C4 C5 C6 t1 t2)) >>= fun t3 =>
     (uo8 (.start C0 C1 C2 C3 C4 C5 C6 t1 t2)) >>= fun t4 =>
     if t4.1.1 = true then
      uc6 (.p134124109 n4 i13 k14 t1 t2 t3.1.1 true C0 C1 C2 C3 C4 C5 C6 B2 B4 B5)
     else
      if (t3.1.1 == (4 : Int)) = true then
       uc6 (.p134124109 n4 i13 k14 t1 t2 t3.1.1 true C0 C1 C2 C3 C4 C5 C6 B2 B4 B5)
      else
       if (t3.1.1 == (3 : Int)) = true then
        (ut5 (.start C0 C1 C2 C3 C4 C5 C6 t2 t1)) >>= fun t5 =>
        uc6 (.p134124109 n4 i13 k14 t1 t2 t3.1.1 t5.1.1 C0 C1 C2 C3 C4 C5 C6 B2 B4 B5)
       else
        uc6 (.p134124109 n4 i13 k14 t1 t2 t3.1.1 false C0 C1 C2 C3 C4 C5 C6 B2 B4 B5)
    else none
   else none
  else
   uc6 (.p16372 n4 (IntKind.wrap .i64 (i13 + (1 : Int))) C0 C1 C2 C3 C4 C5 C6 B2 B4 B5)
 | .p134124109 n4 i13 k14 q15 r16 relation17 s101 C0 C1 C2 C3 C4 C5 C6 B2 B4 B5 =>
  if s101 = true then
   if (decide ((0 : Int) ≤ (IntKind.wrap .i64 ((IntKind.wrap .i64 ((if r16 < q15 then r16 else q15) * n4)) + (if r16 > q15 then r16 else q15)))) && decide ((IntKind.wrap .i64 ((IntKind.wrap .i64 ((if r16 < q15 then r16 else q15) * n4)) + (if r16 > q15 then r16 else q15))) < (List.length B5 : Int))) = true then
    (idx B5 (IntKind.wrap .i64 ((IntKind.wrap .i64 ((if r16 < q15 then r16 else q15) * n4)) + (if r16 > q15 then r16 else q15)))) >>= fun t1 =>
    uc6 (.p1047844 n4 i13 (IntKind.wrap .i64 (k14 + (1 : Int))) C0 C1 C2 C3 C4 C5 C6 B2 B4 (List.set B5 (Int.toNat (IntKind.wrap .i64 ((IntKind.wrap .i64 ((if r16 < q15 then r16 else q15) * n4)) + (if r16 > q15 then r16 else q15)))) true))
   else none
  else
   if (relation17 != (2 : Int)) = true then
    if (relation17 != (3 : Int)) = true then
     uc6 (.p1047844 n4 i13 (IntKind.wrap .i64 (k14 + (1 : Int))) C0 C1 C2 C3 C4 C5 C6 B2 B4 B5)
    else
     uc6 (.p134124111 n4 i13 k14 q15 r16 relation17 C0 C1 C2 C3 C4 C5 C6 B2 B4 B5)
   else
    uc6 (.p134124111 n4 i13 k14 q15 r16 relation17 C0 C1 C2 C3 C4 C5 C6 B2 B4 B5)
 | .p134124111 n4 i13 k14 q15 r16 relation17 C0 C1 C2 C3 C4 C5 C6 B2 B4 B5 =>
  if (relation17 == (3 : Int)) = true then
   uc6 (.p536496447 n4 i13 k14 q15 r16 C0 C1 C2 C3 C4 C5 C6 B2 B4 B5 r16 q15)
  else
   uc6 (.p536496447 n4 i13 k14 q15 r16 C0 C1 C2 C3 C4 C5 C6 B2 B4 B5 q15 r16)
 | .p536496447 n4 i13 k14 q15 r16 C0 C1 C2 C3 C4 C5 C6 B2 B4 B5 L0 L1 =>
  if (fits (List.length ([] : List ub1)) (List.length B4) 16) = true then
   if (fits (List.length (([] : List ub1) ++ B4)) (List.length ([(⟨L0, L1⟩ : ub1)] : List ub1)) 16) = true then
    (ui0 (.start n4 ((([] : List ub1) ++ B4) ++ ([(⟨L0, L1⟩ : ub1)] : List ub1)))) >>= fun t1 =>
    if t1.1.2.1 = true then
     uc6 (.p1047844 n4 i13 (IntKind.wrap .i64 (k14 + (1 : Int))) C0 C1 C2 C3 C4 C5 C6 B2 ((([] : List ub1) ++ B4) ++ ([(⟨L0, L1⟩ : ub1)] : List ub1)) B5)
    else
     if (decide ((0 : Int) ≤ (IntKind.wrap .i64 ((IntKind.wrap .i64 ((if r16 < q15 then r16 else q15) * n4)) + (if r16 > q15 then r16 else q15)))) && decide ((IntKind.wrap .i64 ((IntKind.wrap .i64 ((if r16 < q15 then r16 else q15) * n4)) + (if r16 > q15 then r16 else q15))) < (List.length B5 : Int))) = true then
      (idx B5 (IntKind.wrap .i64 ((IntKind.wrap .i64 ((if r16 < q15 then r16 else q15) * n4)) + (if r16 > q15 then r16 else q15)))) >>= fun t2 =>
      uc6 (.p1047844 n4 i13 (IntKind.wrap .i64 (k14 + (1 : Int))) C0 C1 C2 C3 C4 C5 C6 B2 B4 (List.set B5 (Int.toNat (IntKind.wrap .i64 ((IntKind.wrap .i64 ((if r16 < q15 then r16 else q15) * n4)) + (if r16 > q15 then r16 else q15)))) true))
     else none
   else none
  else none
 | .p65524 n4 a22 B2 B3 B4 B5 =>
  if (decide (a22 < n4)) = true then
   uc6 (.p4193572 n4 a22 (IntKind.wrap .i64 (a22 + (1 : Int))) B2 B3 B4 B5)
  else
   some (((B3, (B4, (B5, ()))), (true, ())), ())
 | .p4193572 n4 a22 b23 B2 B3 B4 B5 =>
  if (decide (b23 < n4)) = true then
   if (decide ((0 : Int) ≤ (IntKind.wrap .i64 ((IntKind.wrap .i64 (a22 * n4)) + b23))) && decide ((IntKind.wrap .i64 ((IntKind.wrap .i64 (a22 * n4)) + b23)) < (List.length B2 : Int))) = true then
    (idx B2 (IntKind.wrap .i64 ((IntKind.wrap .i64 (a22 * n4)) + b23))) >>= fun t1 =>
    if t1 = true then
     if (fits (List.length B5) (List.length ([(⟨a22, b23⟩ : ub1)] : List ub1)) 16) = true then
      uc6 (.p4193572 n4 a22 (IntKind.wrap .i64 (b23 + (1 : Int))) B2 B3 B4 (B5 ++ ([(⟨a22, b23⟩ : ub1)] : List ub1)))
     else none
    else
     uc6 (.p4193572 n4 a22 (IntKind.wrap .i64 (b23 + (1 : Int))) B2 B3 B4 B5)
   else none
  else
   uc6 (.p65524 n4 (IntKind.wrap .i64 (a22 + (1 : Int))) B2 B3 B4 B5)
 partial_fixpoint
def w82 : List (Plc E wi8) := [⟨244, [false, false, true, false, true, true, true], { slots := [1, 2, 4, 5, 6], rows := [(5, 181)], flat := [], keep := 0 }, _, _, (.cons (Rd.bp 0 0) (.cons (Rd.bp 1 0) (.cons (Rd.int .i64) (.cons (Rd.rw 2) (.cons (Rd.int .i64) .nil))))), (.cons (.var 75 (.cons Rd.str (.cons (Rd.sl 206 false) (.cons (Rd.sl 82 false) (.cons (Rd.sl 208 false) (.cons (Rd.sl 85 false) (.cons (Rd.sl 190 false) (.cons (Rd.sl 146 false) .nil)))))))) (.cons (.var 109 (.cons Rd.nl (.cons Rd.nl (.cons Rd.nl .nil)))) (.cons (.row 181 false) .nil))), fun a b => .p244 a.2.2.1 a.2.2.2.2.1 b.1.1 b.1.2.1 b.1.2.2.1 b.1.2.2.2.1 b.1.2.2.2.2.1 b.1.2.2.2.2.2.1 b.1.2.2.2.2.2.2.1 b.2.2.1⟩,
 ⟨15652, [false, false, true, false, false, true, false, false, true, false, true, true, true], { slots := [1, 2, 4, 5, 6, 7], rows := [(5, 181)], flat := [], keep := 0 }, _, _, (.cons (Rd.bp 0 0) (.cons (Rd.bp 1 0) (.cons (Rd.int .i64) (.cons (Rd.rw 2) (.cons (Rd.int .i64) (.cons (Rd.int .i64) .nil)))))), (.cons (.var 75 (.cons Rd.str (.cons (Rd.sl 206 false) (.cons (Rd.sl 82 false) (.cons (Rd.sl 208 false) (.cons (Rd.sl 85 false) (.cons (Rd.sl 190 false) (.cons (Rd.sl 146 false) .nil)))))))) (.cons (.var 109 (.cons Rd.nl (.cons Rd.nl (.cons Rd.nl .nil)))) (.cons (.row 181 false) .nil))), fun a b => .p15652 a.2.2.1 a.2.2.2.2.1 a.2.2.2.2.2.1 b.1.1 b.1.2.1 b.1.2.2.1 b.1.2.2.2.1 b.1.2.2.2.2.1 b.1.2.2.2.2.2.1 b.1.2.2.2.2.2.2.1 b.2.2.1⟩,
 ⟨16372, [false, false, true, false, true, true, true, true, true, true, true, true, true], { slots := [1, 2, 4, 8, 10, 11, 12, 13], rows := [(11, 181)], flat := [], keep := 0, done := [11] }, _, _, (.cons (Rd.bp 0 0) (.cons (Rd.bp 1 0) (.cons (Rd.int .i64) (.cons (Rd.rw 2) (.cons (Rd.bp 3 0) (.cons (Rd.rw 4) (.cons (Rd.rw 5) (.cons (Rd.int .i64) .nil)))))))), (.cons (.var 75 (.cons Rd.str (.cons (Rd.sl 206 false) (.cons (Rd.sl 82 false) (.cons (Rd.sl 208 false) (.cons (Rd.sl 85 false) (.cons (Rd.sl 190 false) (.cons (Rd.sl 146 false) .nil)))))))) (.cons (.var 109 (.cons Rd.nl (.cons Rd.nl (.cons Rd.nl .nil)))) (.cons (.row 3 true) (.cons (.var 109 (.cons (Rd.rw 2) (.cons Rd.nl (.cons Rd.nl .nil)))) (.cons (.row 181 true) (.cons (.row 4 false) .nil)))))), fun a b => .p16372 a.2.2.1 a.2.2.2.2.2.2.2.1 b.1.1 b.1.2.1 b.1.2.2.1 b.1.2.2.2.1 b.1.2.2.2.2.1 b.1.2.2.2.2.2.1 b.1.2.2.2.2.2.2.1 b.2.2.1 b.2.2.2.2.1 b.2.2.2.2.2.1⟩,
 ⟨1047844, [false, false, true, false, false, true, false, false, true, false, true, true, true, true, true, true, true, true, true], { slots := [1, 2, 4, 8, 10, 11, 12, 13, 14], rows := [(11, 181)], flat := [], keep := 0, done := [11] }, _, _, (.cons (Rd.bp 0 0) (.cons (Rd.bp 1 0) (.cons (Rd.int .i64) (.cons (Rd.rw 2) (.cons (Rd.bp 3 0) (.cons (Rd.rw 4) (.cons (Rd.rw 5) (.cons (Rd.int .i64) (.cons (Rd.int .i64) .nil))))))))), (.cons (.var 75 (.cons Rd.str (.cons (Rd.sl 206 false) (.cons (Rd.sl 82 false) (.cons (Rd.sl 208 false) (.cons (Rd.sl 85 false) (.cons (Rd.sl 190 false) (.cons (Rd.sl 146 false) .nil)))))))) (.cons (.var 109 (.cons Rd.nl (.cons Rd.nl (.cons Rd.nl .nil)))) (.cons (.row 3 true) (.cons (.var 109 (.cons (Rd.rw 2) (.cons Rd.nl (.cons Rd.nl .nil)))) (.cons (.row 181 true) (.cons (.row 4 false) .nil)))))), fun a b => .p1047844 a.2.2.1 a.2.2.2.2.2.2.2.1 a.2.2.2.2.2.2.2.2.1 b.1.1 b.1.2.1 b.1.2.2.1 b.1.2.2.2.1 b.1.2.2.2.2.1 b.1.2.2.2.2.2.1 b.1.2.2.2.2.2.2.1 b.2.2.1 b.2.2.2.2.1 b.2.2.2.2.2.1⟩,
 ⟨134124109, [true, false, true, true, false, false, true, false, false, true, false, false, true, false, false, true, false, true, true, true, true, true, true, true, true, true], { slots := [1, 2, 4, 8, 10, 11, 12, 13, 14, 15, 16, 17, 101], rows := [], flat := [], keep := 0 }, _, _, (.cons (Rd.bp 0 0) (.cons (Rd.bp 1 0) (.cons (Rd.int .i64) (.cons (Rd.rw 2) (.cons (Rd.bp 3 0) (.cons (Rd.rw 4) (.cons (Rd.rw 5) (.cons (Rd.int .i64) (.cons (Rd.int .i64) (.cons (Rd.int .i64) (.cons (Rd.int .i64) (.cons (Rd.int .i64) (.cons Rd.bool .nil))))))))))))), (.cons (.var 75 (.cons Rd.str (.cons (Rd.sl 206 false) (.cons (Rd.sl 82 false) (.cons (Rd.sl 208 false) (.cons (Rd.sl 85 false) (.cons (Rd.sl 190 false) (.cons (Rd.sl 146 false) .nil)))))))) (.cons (.var 109 (.cons Rd.nl (.cons Rd.nl (.cons Rd.nl .nil)))) (.cons (.row 3 true) (.cons (.var 109 (.cons (Rd.rw 2) (.cons Rd.nl (.cons Rd.nl .nil)))) (.cons (.row 181 true) (.cons (.row 4 false) .nil)))))), fun a b => .p134124109 a.2.2.1 a.2.2.2.2.2.2.2.1 a.2.2.2.2.2.2.2.2.1 a.2.2.2.2.2.2.2.2.2.1 a.2.2.2.2.2.2.2.2.2.2.1 a.2.2.2.2.2.2.2.2.2.2.2.1 a.2.2.2.2.2.2.2.2.2.2.2.2.1 b.1.1 b.1.2.1 b.1.2.2.1 b.1.2.2.2.1 b.1.2.2.2.2.1 b.1.2.2.2.2.2.1 b.1.2.2.2.2.2.2.1 b.2.2.1 b.2.2.2.2.1 b.2.2.2.2.2.1⟩,
 ⟨134124111, [true, true, true, true, false, false, true, false, false, true, false, false, true, false, false, true, false, true, true, true, true, true, true, true, true, true], { slots := [1, 2, 4, 8, 10, 11, 12, 13, 14, 15, 16, 17], rows := [], flat := [], keep := 0 }, _, _, (.cons (Rd.bp 0 0) (.cons (Rd.bp 1 0) (.cons (Rd.int .i64) (.cons (Rd.rw 2) (.cons (Rd.bp 3 0) (.cons (Rd.rw 4) (.cons (Rd.rw 5) (.cons (Rd.int .i64) (.cons (Rd.int .i64) (.cons (Rd.int .i64) (.cons (Rd.int .i64) (.cons (Rd.int .i64) .nil)))))))))))), (.cons (.var 75 (.cons Rd.str (.cons (Rd.sl 206 false) (.cons (Rd.sl 82 false) (.cons (Rd.sl 208 false) (.cons (Rd.sl 85 false) (.cons (Rd.sl 190 false) (.cons (Rd.sl 146 false) .nil)))))))) (.cons (.var 109 (.cons Rd.nl (.cons Rd.nl (.cons Rd.nl .nil)))) (.cons (.row 3 true) (.cons (.var 109 (.cons (Rd.rw 2) (.cons Rd.nl (.cons Rd.nl .nil)))) (.cons (.row 181 true) (.cons (.row 4 false) .nil)))))), fun a b => .p134124111 a.2.2.1 a.2.2.2.2.2.2.2.1 a.2.2.2.2.2.2.2.2.1 a.2.2.2.2.2.2.2.2.2.1 a.2.2.2.2.2.2.2.2.2.2.1 a.2.2.2.2.2.2.2.2.2.2.2.1 b.1.1 b.1.2.1 b.1.2.2.1 b.1.2.2.2.1 b.1.2.2.2.2.1 b.1.2.2.2.2.2.1 b.1.2.2.2.2.2.2.1 b.2.2.1 b.2.2.2.2.1 b.2.2.2.2.2.1⟩,
 ⟨536496447, [true, true, true, true, true, true, false, false, true, false, false, true, false, false, true, false, false, true, false, true, true, true, true, true, true, true, true, true], { slots := [1, 2, 4, 8, 10, 11, 12, 13, 14, 15, 16, 18], rows := [], flat := [], keep := 0 }, _, _, (.cons (Rd.bp 0 0) (.cons (Rd.bp 1 0) (.cons (Rd.int .i64) (.cons (Rd.rw 2) (.cons (Rd.bp 3 0) (.cons (Rd.rw 4) (.cons (Rd.rw 5) (.cons (Rd.int .i64) (.cons (Rd.int .i64) (.cons (Rd.int .i64) (.cons (Rd.int .i64) (.cons (Rd.bp 6 0) .nil)))))))))))), (.cons (.var 75 (.cons Rd.str (.cons (Rd.sl 206 false) (.cons (Rd.sl 82 false) (.cons (Rd.sl 208 false) (.cons (Rd.sl 85 false) (.cons (Rd.sl 190 false) (.cons (Rd.sl 146 false) .nil)))))))) (.cons (.var 109 (.cons Rd.nl (.cons Rd.nl (.cons Rd.nl .nil)))) (.cons (.row 3 true) (.cons (.var 109 (.cons (Rd.rw 2) (.cons Rd.nl (.cons Rd.nl .nil)))) (.cons (.row 181 true) (.cons (.row 4 false) (.cons (.var 181 (.cons (Rd.int .i64) (.cons (Rd.int .i64) .nil))) .nil))))))), fun a b => .p536496447 a.2.2.1 a.2.2.2.2.2.2.2.1 a.2.2.2.2.2.2.2.2.1 a.2.2.2.2.2.2.2.2.2.1 a.2.2.2.2.2.2.2.2.2.2.1 b.1.1 b.1.2.1 b.1.2.2.1 b.1.2.2.2.1 b.1.2.2.2.2.1 b.1.2.2.2.2.2.1 b.1.2.2.2.2.2.2.1 b.2.2.1 b.2.2.2.2.1 b.2.2.2.2.2.1 b.2.2.2.2.2.2.1.1 b.2.2.2.2.2.2.1.2.1⟩,
 ⟨65524, [false, false, true, false, true, true, true, true, true, true, true, true, true, true, true], { slots := [2, 4, 10, 12, 22], rows := [], flat := [], keep := 0, up := [(true, 10, 2, 181)] }, _, _, (.cons (Rd.bp 0 0) (.cons (Rd.int .i64) (.cons (Rd.bp 1 0) (.cons (Rd.rw 2) (.cons (Rd.int .i64) .nil))))), (.cons (.var 109 (.cons Rd.nl (.cons Rd.nl (.cons Rd.nl .nil)))) (.cons (.var 109 (.cons (Rd.rw 3) (.cons (Rd.rw 4) (.cons (Rd.rw 5) .nil)))) (.cons (.row 4 false) (.cons (.row 3 true) (.cons (.row 3 true) (.cons (.row 181 false) .nil)))))), fun a b => .p65524 a.2.1 a.2.2.2.2.1 b.2.2.1 b.2.2.2.1 b.2.2.2.2.1 b.2.2.2.2.2.1⟩,
 ⟨4193572, [false, false, true, false, false, true, false, false, true, false, true, true, true, true, true, true, true, true, true, true, true], { slots := [2, 4, 10, 12, 22, 23], rows := [], flat := [], keep := 0, up := [(true, 10, 2, 181)] }, _, _, (.cons (Rd.bp 0 0) (.cons (Rd.int .i64) (.cons (Rd.bp 1 0) (.cons (Rd.rw 2) (.cons (Rd.int .i64) (.cons (Rd.int .i64) .nil)))))), (.cons (.var 109 (.cons Rd.nl (.cons Rd.nl (.cons Rd.nl .nil)))) (.cons (.var 109 (.cons (Rd.rw 3) (.cons (Rd.rw 4) (.cons (Rd.rw 5) .nil)))) (.cons (.row 4 false) (.cons (.row 3 true) (.cons (.row 3 true) (.cons (.row 181 false) .nil)))))), fun a b => .p4193572 a.2.1 a.2.2.2.2.1 a.2.2.2.2.2.1 b.2.2.1 b.2.2.2.1 b.2.2.2.2.1 b.2.2.2.2.2.1⟩]
theorem wk4 : All (ub5 188 0 u63 wP2) w82 := ⟨⟨rfl, rfl, fun _ _ => rfl, fun _ _ => rfl⟩, ⟨⟨rfl, rfl, fun _ _ => rfl, fun _ _ => rfl⟩, ⟨⟨rfl, rfl, fun _ _ => rfl, fun _ _ => rfl⟩, ⟨⟨rfl, rfl, fun _ _ => rfl, fun _ _ => rfl⟩, ⟨⟨rfl, rfl, fun _ _ => rfl, fun _ _ => rfl⟩, ⟨⟨rfl, rfl, fun _ _ => rfl, fun _ _ => rfl⟩, ⟨⟨rfl, rfl, fun _ _ => rfl, fun _ _ => rfl⟩, ⟨⟨rfl, rfl, fun _ _ => rfl, fun _ _ => rfl⟩, ⟨⟨rfl, rfl, fun _ _ => rfl, fun _ _ => rfl⟩, trivial⟩⟩⟩⟩⟩⟩⟩⟩⟩
def vn9 : Code := Tryz.f56.body.getD .skip
def v99 : Spec E.S := (Con.add wT7 (Con.add w20 (Con.add wO6 (Con.add wN8 (Con.add w62 ub3)))))
theorem vJ5 : ub0 E v99 := (Con.add_ok wq3 (Con.add_ok ww2 (Con.add_ok wj0 (Con.add_ok wp6 (Con.add_ok wA3 ua6)))))
theorem xf1 : ∀ pt r, uc6 pt = some r → Good E Tryz.f56 vn9 0 (uH2.av r) (uH2.bx r) (u63 pt) (wP2 pt) := by
 refine uc6.partial_correctness (fun pt r => Good E Tryz.f56 vn9 0 (uH2.av r) (uH2.bx r) (u63 pt) (wP2 pt)) ?_
 intro run' ih pt r hr
 cases pt <;> exact ua8 (spec := v99) (wr := (mkWr [12, 61, 102, 112, 141, 151, 171, 177] [(62, [5]), (4094, [11])])) (l := w82) (z := 188) (p := uH2) E_ok wk4.mem rfl vJ5 ih (Eq.trans (by kernel_rfl) hr)
def w31 : Con E := ⟨56, _, _, (.cons (Rw.agg (.cons Rd.str.w (.cons (Rw.sl 206) (.cons (Rw.sl 82) (.cons (Rw.sl 208) (.cons (Rw.sl 85) (.cons (Rw.sl 190) (.cons (Rw.sl 146) .nil)))))))) .nil), .nil, 0, xM6, fun a b => uc6 (.start a.1.1 a.1.2.1 a.1.2.2.1 a.1.2.2.2.1 a.1.2.2.2.2.1 a.1.2.2.2.2.2.1 a.1.2.2.2.2.2.2.1), uH2.av, uH2.bx⟩
theorem wC6 : w31.Ok := fun a b r h => ub6 (fn := Tryz.f56) (code := vn9) E_ok (by kernel_rfl) (by kernel_rfl) (by kernel_rfl) (Nat.le_of_ble_eq_true rfl) (xf1 (.start a.1.1 a.1.2.1 a.1.2.2.1 a.1.2.2.2.1 a.1.2.2.2.2.1 a.1.2.2.2.2.2.1 a.1.2.2.2.2.2.2.1) r h)
inductive wo1 where
 | start (d0_0 : ByteArray) (d0_1 : (List ub2)) (d0_2 : (List ua1)) (d0_3 : (List ua2)) (d0_4 : (List ua5)) (d0_5 : (List ua9)) (d0_6 : (List ua7))
 | p116 (i4 : Int) (C0 : ByteArray) (C1 : (List ub2)) (C2 : (List ua1)) (C3 : (List ua2)) (C4 : (List ua5)) (C5 : (List ua9)) (C6 : (List ua7)) (B1 : (List Int))
def u26 : wo1 → List Bool
 | .start .. => []
 | .p116 .. => [false, false, true, false, true, true]
def wN9 : wo1 → St E.S
 | .start d0_0 d0_1 d0_2 d0_3 d0_4 d0_5 d0_6 => st0 26 [.agg [.v (.string d0_0), .sl 206 d0_1 false, .sl 82 d0_2 false, .sl 208 d0_3 false, .sl 85 d0_4 false, .sl 190 d0_5 false, .sl 146 d0_6 false]] []
 | .p116 i4 C0 C1 C2 C3 C4 C5 C6 B1 => mkSt 26 [1, 3, 4] [.bp 0 0, .rw 1, .v (.int .i64 i4)] [.var 75 [.v (.string C0), .sl 206 C1 false, .sl 82 C2 false, .sl 208 C3 false, .sl 85 C4 false, .sl 190 C5 false, .sl 146 C6 false], .row 3 B1 false]
abbrev xQ9 : Type := ((Unit × Unit) × ((List Int) × Unit))
def uI8 : Res E (Unit × Unit) ((List Int) × Unit) := { rows := [], flat := [], keep := 0, done := [0], rl := (.cons (Rd.rw 0) .nil), rb := (.cons (.row 3 true) .nil) }
def ux3 : wo1 → Option xQ9
 | .start d0_0 d0_1 d0_2 d0_3 d0_4 d0_5 d0_6 =>
  if (uz7 (List.length d0_2 : Int) (List.length d0_2 : Int) 8) = true then
   ux3 (.p116 (0 : Int) d0_0 d0_1 d0_2 d0_3 d0_4 d0_5 d0_6 (List.replicate (Int.toNat (List.length d0_2 : Int)) (0 : Int)))
  else none
 | .p116 i4 C0 C1 C2 C3 C4 C5 C6 B1 =>
  if (decide (i4 < (List.length C2 : Int))) = true then
   (idx C2 i4) >>= fun t1 =>
   if (decide ((0 : Int) ≤ i4) && decide (i4 < (List.length B1 : Int))) = true then
    (idx B1 i4) >>= fun t2 =>
    ux3 (.p116 (IntKind.wrap .i64 (i4 + (1 : Int))) C0 C1 C2 C3 C4 C5 C6 (List.set B1 (Int.toNat i4) t1.Init))
   else none
  else
   some (((), ()), (B1, ()))
 partial_fixpoint
def xa5 : List (Plc E wo1) := [⟨116, [false, false, true, false, true, true], { slots := [1, 3, 4], rows := [], flat := [], keep := 0 }, _, _, (.cons (Rd.bp 0 0) (.cons (Rd.rw 1) (.cons (Rd.int .i64) .nil))), (.cons (.var 75 (.cons Rd.str (.cons (Rd.sl 206 false) (.cons (Rd.sl 82 false) (.cons (Rd.sl 208 false) (.cons (Rd.sl 85 false) (.cons (Rd.sl 190 false) (.cons (Rd.sl 146 false) .nil)))))))) (.cons (.row 3 false) .nil)), fun a b => .p116 a.2.2.1 b.1.1 b.1.2.1 b.1.2.2.1 b.1.2.2.2.1 b.1.2.2.2.2.1 b.1.2.2.2.2.2.1 b.1.2.2.2.2.2.2.1 b.2.1⟩]
theorem wr4 : All (ub5 26 0 u26 wN9) xa5 := ⟨⟨rfl, rfl, fun _ _ => rfl, fun _ _ => rfl⟩, trivial⟩
def vn3 : Code := Tryz.f48.body.getD .skip
def v84 : Spec E.S := ub3
theorem vS1 : ub0 E v84 := ua6
theorem xm0 : ∀ pt r, ux3 pt = some r → Good E Tryz.f48 vn3 0 (uI8.av r) (uI8.bx r) (u26 pt) (wN9 pt) := by
 refine ux3.partial_correctness (fun pt r => Good E Tryz.f48 vn3 0 (uI8.av r) (uI8.bx r) (u26 pt) (wN9 pt)) ?_
 intro run' ih pt r hr
 cases pt <;> exact ua8 (spec := v84) (wr := (mkWr [2, 3, 8, 16, 24, 25] [])) (l := xa5) (z := 26) (p := uI8) E_ok wr4.mem rfl vS1 ih (Eq.trans (by kernel_rfl) hr)
def w85 : Con E := ⟨48, _, _, (.cons (Rw.agg (.cons Rd.str.w (.cons (Rw.sl 206) (.cons (Rw.sl 82) (.cons (Rw.sl 208) (.cons (Rw.sl 85) (.cons (Rw.sl 190) (.cons (Rw.sl 146) .nil)))))))) .nil), .nil, 0, xQ9, fun a b => ux3 (.start a.1.1 a.1.2.1 a.1.2.2.1 a.1.2.2.2.1 a.1.2.2.2.2.1 a.1.2.2.2.2.2.1 a.1.2.2.2.2.2.2.1), uI8.av, uI8.bx⟩
theorem wm2 : w85.Ok := fun a b r h => ub6 (fn := Tryz.f48) (code := vn3) E_ok (by kernel_rfl) (by kernel_rfl) (by kernel_rfl) (Nat.le_of_ble_eq_true rfl) (xm0 (.start a.1.1 a.1.2.1 a.1.2.2.1 a.1.2.2.2.1 a.1.2.2.2.2.1 a.1.2.2.2.2.2.1 a.1.2.2.2.2.2.2.1) r h)
inductive wu1 where
 | start (memory0 : (List Int))
def vB4 : wu1 → List Bool
 | .start .. => []
def xw5 : wu1 → St E.S
 | .start memory0 => st0 7 [.sl 3 memory0 false] []
abbrev xP4 : Type := (((Int × (Int × (Unit × (Unit × Unit)))) × Unit) × ((List Int) × ((List Int) × Unit)))
def vb8 : Res E ((Int × (Int × (Unit × (Unit × Unit)))) × Unit) ((List Int) × ((List Int) × Unit)) := { rows := [], flat := [], keep := 0, done := [0], rl := (.cons (Rd.agg (.cons (Rd.int .i64) (.cons (Rd.int .i64) (.cons (Rd.rw 0) (.cons (Rd.rw 1) .nil))))) .nil), rb := (.cons (.row 3 true) (.cons (.row 3 true) .nil)) }
def uF2 : wu1 → Option xP4
 | .start memory0 =>
  if (uz7 (4 : Int) (4 : Int) 8) = true then
   (uy9 (.start memory0)) >>= fun t1 =>
   some ((((0 : Int), ((0 : Int), ((), ((), ())))), ()), (List.replicate (Int.toNat (4 : Int)) (0 : Int), (t1.2.1, ())))
  else none
def w24 : List (Plc E wu1) := []
theorem wI7 : All (ub5 7 0 vB4 xw5) w24 := trivial
def v28 : Code := Tryz.f32.body.getD .skip
def wh9 : Spec E.S := (Con.add v97 ub3)
theorem vT2 : ub0 E wh9 := (Con.add_ok va8 ua6)
theorem xt7 : ∀ pt r, uF2 pt = some r → Good E Tryz.f32 v28 0 (vb8.av r) (vb8.bx r) (vB4 pt) (xw5 pt) := by
 intro pt r hr
 cases pt <;> exact ua8 (spec := wh9) (wr := (mkWr [] [])) (l := w24) (z := 7) (p := vb8) (run' := fun _ => none) E_ok wI7.mem rfl vT2 (fun _ _ h => by cases h) (Eq.trans (by kernel_rfl) hr)
def wZ5 : Con E := ⟨32, _, _, (.cons (Rw.sl 3) .nil), .nil, 0, xP4, fun a b => uF2 (.start a.1), vb8.av, vb8.bx⟩
theorem wE1 : wZ5.Ok := fun a b r h => ub6 (fn := Tryz.f32) (code := v28) E_ok (by kernel_rfl) (by kernel_rfl) (by kernel_rfl) (Nat.le_of_ble_eq_true rfl) (xt7 (.start a.1) r h)
inductive wv1 where
 | start (s0_0 : (List Int)) (s0_1 : (List Int)) (s0_2 : (List ub1)) (a1 : Int) (b2 : Int)
 | p52 (a1 : Int) (b2 : Int) (i7 : Int) (C0 : (List Int)) (C1 : (List Int)) (C2 : (List ub1))
def u86 : wv1 → List Bool
 | .start .. => []
 | .p52 .. => [false, false, true, false, true]
def w50 : wv1 → St E.S
 | .start s0_0 s0_1 s0_2 a1 b2 => st0 28 [.agg [.sl 3 s0_0 false, .sl 3 s0_1 false, .sl 181 s0_2 false], .v (.int .i64 a1), .v (.int .i64 b2)] []
 | .p52 a1 b2 i7 C0 C1 C2 => mkSt 28 [1, 2, 3, 7] [.v (.int .i64 a1), .v (.int .i64 b2), .bp 0 0, .v (.int .i64 i7)] [.var 109 [.sl 3 C0 false, .sl 3 C1 false, .sl 181 C2 false]]
abbrev xE7 : Type := ((Bool × Unit) × Unit)
def uG7 : Res E (Bool × Unit) Unit := { rows := [], flat := [], keep := 0, done := [0], rl := (.cons Rd.bool .nil), rb := .nil }
def uv8 : wv1 → Option xE7
 | .start s0_0 s0_1 s0_2 a1 b2 =>
  uv8 (.p52 a1 b2 (0 : Int) s0_0 s0_1 s0_2)
 | .p52 a1 b2 i7 C0 C1 C2 =>
  if (decide (i7 < (List.length C2 : Int))) = true then
   (idx C2 i7) >>= fun t1 =>
   if ((t1.a0 == (if b2 < a1 then b2 else a1)) && ((t1.a1 == (if b2 > a1 then b2 else a1)) && true)) = true then
    some ((true, ()), ())
   else
    uv8 (.p52 a1 b2 (IntKind.wrap .i64 (i7 + (1 : Int))) C0 C1 C2)
  else
   some ((false, ()), ())
 partial_fixpoint
def wR9 : List (Plc E wv1) := [⟨52, [false, false, true, false, true], { slots := [1, 2, 3, 7], rows := [], flat := [], keep := 0 }, _, _, (.cons (Rd.int .i64) (.cons (Rd.int .i64) (.cons (Rd.bp 0 0) (.cons (Rd.int .i64) .nil)))), (.cons (.var 109 (.cons (Rd.sl 3 false) (.cons (Rd.sl 3 false) (.cons (Rd.sl 181 false) .nil)))) .nil), fun a b => .p52 a.1 a.2.1 a.2.2.2.1 b.1.1 b.1.2.1 b.1.2.2.1⟩]
theorem wu5 : All (ub5 28 0 u86 w50) wR9 := ⟨⟨rfl, rfl, fun _ _ => rfl, fun _ _ => rfl⟩, trivial⟩
def vk5 : Code := Tryz.f168.body.getD .skip
def v43 : Spec E.S := ub3
theorem vU3 : ub0 E v43 := ua6
theorem xp3 : ∀ pt r, uv8 pt = some r → Good E Tryz.f168 vk5 0 (uG7.av r) (uG7.bx r) (u86 pt) (w50 pt) := by
 refine uv8.partial_correctness (fun pt r => Good E Tryz.f168 vk5 0 (uG7.av r) (uG7.bx r) (u86 pt) (w50 pt)) ?_
 intro run' ih pt r hr
 cases pt <;> exact ua8 (spec := v43) (wr := (mkWr [] [])) (l := wR9) (z := 28) (p := uG7) E_ok wu5.mem rfl vU3 ih (Eq.trans (by kernel_rfl) hr)
def xa0 : Con E := ⟨168, _, _, (.cons (Rw.agg (.cons (Rw.sl 3) (.cons (Rw.sl 3) (.cons (Rw.sl 181) .nil)))) (.cons (Rd.int .i64).w (.cons (Rd.int .i64).w .nil))), .nil, 0, xE7, fun a b => uv8 (.start a.1.1 a.1.2.1 a.1.2.2.1 a.2.1 a.2.2.1), uG7.av, uG7.bx⟩
theorem wH5 : xa0.Ok := fun a b r h => ub6 (fn := Tryz.f168) (code := vk5) E_ok (by kernel_rfl) (by kernel_rfl) (by kernel_rfl) (Nat.le_of_ble_eq_true rfl) (xp3 (.start a.1.1 a.1.2.1 a.1.2.2.1 a.2.1 a.2.2.1) r h)
inductive wr6 where
 | start (l0 : (List Int))
def vB5 : wr6 → List Bool
 | .start .. => []
def xv3 : wr6 → St E.S
 | .start l0 => st0 6 [.sl 3 l0 false] []
abbrev xQ1 : Type := ((Unit × Unit) × ((List Int) × Unit))
def u56 : Res E (Unit × Unit) ((List Int) × Unit) := { rows := [], flat := [], keep := 0, rl := (.cons (Rd.rw 0) .nil), rb := (.cons (.row 3 false) .nil) }
def uh0 : wr6 → Option xQ1
 | .start l0 =>
  if (fits (List.length ([] : List Int)) (List.length l0) 8) = true then
   some (((), ()), (([] : List Int) ++ l0, ()))
  else none
def wX2 : List (Plc E wr6) := []
theorem wq9 : All (ub5 6 0 vB5 xv3) wX2 := trivial
def vZ6 : Code := Tryz.f15.body.getD .skip
def v59 : Spec E.S := ub3
theorem vL1 : ub0 E v59 := ua6
theorem xh8 : ∀ pt r, uh0 pt = some r → Good E Tryz.f15 vZ6 0 (u56.av r) (u56.bx r) (vB5 pt) (xv3 pt) := by
 intro pt r hr
 cases pt <;> exact ua8 (spec := v59) (wr := (mkWr [2, 3, 5] [])) (l := wX2) (z := 6) (p := u56) (run' := fun _ => none) E_ok wq9.mem rfl vL1 (fun _ _ h => by cases h) (Eq.trans (by kernel_rfl) hr)
def uR4 : Con E := ⟨15, _, _, (.cons (Rw.sl 3) .nil), .nil, 0, xQ1, fun a b => uh0 (.start a.1), u56.av, u56.bx⟩
theorem uu3 : uR4.Ok := fun a b r h => ub6 (fn := Tryz.f15) (code := vZ6) E_ok (by kernel_rfl) (by kernel_rfl) (by kernel_rfl) (Nat.le_of_ble_eq_true rfl) (xh8 (.start a.1) r h)
inductive wx3 where
 | start (d0_0 : ByteArray) (d0_1 : (List ub2)) (d0_2 : (List ua1)) (d0_3 : (List ua2)) (d0_4 : (List ua5)) (d0_5 : (List ua9)) (d0_6 : (List ua7)) (state1 : (List Int))
 | p116 (i6 : Int) (C0 : ByteArray) (C1 : (List ub2)) (C2 : (List ua1)) (C3 : (List ua2)) (C4 : (List ua5)) (C5 : (List ua9)) (C6 : (List ua7)) (B1 : (List Int))
def uW8 : wx3 → List Bool
 | .start .. => []
 | .p116 .. => [false, false, true, false, true, true]
def wO3 : wx3 → St E.S
 | .start d0_0 d0_1 d0_2 d0_3 d0_4 d0_5 d0_6 state1 => st0 33 [.agg [.v (.string d0_0), .sl 206 d0_1 false, .sl 82 d0_2 false, .sl 208 d0_3 false, .sl 85 d0_4 false, .sl 190 d0_5 false, .sl 146 d0_6 false], .sl 3 state1 false] []
 | .p116 i6 C0 C1 C2 C3 C4 C5 C6 B1 => mkSt 33 [2, 5, 6] [.bp 0 0, .rw 1, .v (.int .i64 i6)] [.var 75 [.v (.string C0), .sl 206 C1 false, .sl 82 C2 false, .sl 208 C3 false, .sl 85 C4 false, .sl 190 C5 false, .sl 146 C6 false], .row 3 B1 false]
abbrev xH7 : Type := ((Unit × Unit) × ((List Int) × Unit))
def uI7 : Res E (Unit × Unit) ((List Int) × Unit) := { rows := [], flat := [], keep := 0, rl := (.cons (Rd.rw 0) .nil), rb := (.cons (.row 3 false) .nil) }
def ur2 : wx3 → Option xH7
 | .start d0_0 d0_1 d0_2 d0_3 d0_4 d0_5 d0_6 state1 =>
  (uh0 (.start state1)) >>= fun t1 =>
  ur2 (.p116 (0 : Int) d0_0 d0_1 d0_2 d0_3 d0_4 d0_5 d0_6 t1.2.1)
 | .p116 i6 C0 C1 C2 C3 C4 C5 C6 B1 =>
  if (decide (i6 < (List.length C2 : Int))) = true then
   (idx C2 i6) >>= fun t1 =>
   if (t1.Kind == (1 : Int)) = true then
    (idx C2 i6) >>= fun t2 =>
    if (decide ((0 : Int) ≤ i6) && decide (i6 < (List.length B1 : Int))) = true then
     (idx B1 i6) >>= fun t3 =>
     ur2 (.p116 (IntKind.wrap .i64 (i6 + (1 : Int))) C0 C1 C2 C3 C4 C5 C6 (List.set B1 (Int.toNat i6) t2.Init))
    else none
   else
    ur2 (.p116 (IntKind.wrap .i64 (i6 + (1 : Int))) C0 C1 C2 C3 C4 C5 C6 B1)
  else
   some (((), ()), (B1, ()))
 partial_fixpoint
def xb4 : List (Plc E wx3) := [⟨116, [false, false, true, false, true, true], { slots := [2, 5, 6], rows := [], flat := [], keep := 0 }, _, _, (.cons (Rd.bp 0 0) (.cons (Rd.rw 1) (.cons (Rd.int .i64) .nil))), (.cons (.var 75 (.cons Rd.str (.cons (Rd.sl 206 false) (.cons (Rd.sl 82 false) (.cons (Rd.sl 208 false) (.cons (Rd.sl 85 false) (.cons (Rd.sl 190 false) (.cons (Rd.sl 146 false) .nil)))))))) (.cons (.row 3 false) .nil)), fun a b => .p116 a.2.2.1 b.1.1 b.1.2.1 b.1.2.2.1 b.1.2.2.2.1 b.1.2.2.2.2.1 b.1.2.2.2.2.2.1 b.1.2.2.2.2.2.2.1 b.2.1⟩]
theorem wE0 : All (ub5 33 0 uW8 wO3) xb4 := ⟨⟨rfl, rfl, fun _ _ => rfl, fun _ _ => rfl⟩, trivial⟩
def vl3 : Code := Tryz.f117.body.getD .skip
def v10 : Spec E.S := (Con.add uR4 ub3)
theorem vR5 : ub0 E v10 := (Con.add_ok uu3 ua6)
theorem xe7 : ∀ pt r, ur2 pt = some r → Good E Tryz.f117 vl3 0 (uI7.av r) (uI7.bx r) (uW8 pt) (wO3 pt) := by
 refine ur2.partial_correctness (fun pt r => Good E Tryz.f117 vl3 0 (uI7.av r) (uI7.bx r) (uW8 pt) (wO3 pt)) ?_
 intro run' ih pt r hr
 cases pt <;> exact ua8 (spec := v10) (wr := (mkWr [4, 5, 8, 23, 31, 32] [])) (l := xb4) (z := 33) (p := uI7) E_ok wE0.mem rfl vR5 ih (Eq.trans (by kernel_rfl) hr)
def w42 : Con E := ⟨117, _, _, (.cons (Rw.agg (.cons Rd.str.w (.cons (Rw.sl 206) (.cons (Rw.sl 82) (.cons (Rw.sl 208) (.cons (Rw.sl 85) (.cons (Rw.sl 190) (.cons (Rw.sl 146) .nil)))))))) (.cons (Rw.sl 3) .nil)), .nil, 0, xH7, fun a b => ur2 (.start a.1.1 a.1.2.1 a.1.2.2.1 a.1.2.2.2.1 a.1.2.2.2.2.1 a.1.2.2.2.2.2.1 a.1.2.2.2.2.2.2.1 a.2.1), uI7.av, uI7.bx⟩
theorem ws2 : w42.Ok := fun a b r h => ub6 (fn := Tryz.f117) (code := vl3) E_ok (by kernel_rfl) (by kernel_rfl) (by kernel_rfl) (Nat.le_of_ble_eq_true rfl) (xe7 (.start a.1.1 a.1.2.1 a.1.2.2.1 a.1.2.2.2.1 a.1.2.2.2.2.1 a.1.2.2.2.2.2.1 a.1.2.2.2.2.2.2.1 a.2.1) r h)
end
end Go.Proofs.YtjededkgblbamaaGreatDoor.Ev.F
