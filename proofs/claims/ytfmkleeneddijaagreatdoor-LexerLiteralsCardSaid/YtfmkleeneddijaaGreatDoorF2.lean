/- PRINTED by wip/gen/evp.py: what the functions come to. -/
import Derived.Test.YtfmkleeneddijaaGreatDoorF1
set_option linter.unusedVariables false
namespace Go.Proofs.YtfmkleeneddijaaGreatDoor.Ev.F
open Go.Proofs Go.Proofs.YtfmkleeneddijaaGreatDoor.Ev

/-! ### ratchet/lexer.NextToken -/
inductive P_lexer_NextToken where
 | start (text0 : ByteArray) (at1 : Int)
 | p127 (B0_0 : Int) (B0_1 : Int) (B0_2 : ByteArray) (B0_3 : Int) (B0_4 : Int) (B1_0 : ByteArray) (B1_1 : Int) (B1_2 : Int)
 | p511 (B0_0 : Int) (B0_1 : Int) (B0_2 : ByteArray) (B0_3 : Int) (B0_4 : Int) (B1_0 : ByteArray) (B1_1 : Int) (B1_2 : Int) (B2_0 : Int) (B2_1 : Int) (B2_2 : ByteArray) (B2_3 : Int) (B2_4 : Int)
noncomputable def place_lexer_NextToken : P_lexer_NextToken → List Bool
 | .start .. => []
 | .p127 .. => [true, true, true, true, true, true]
 | .p511 .. => [true, true, true, true, true, true, true, true]
noncomputable def st_lexer_NextToken : P_lexer_NextToken → St E.S
 | .start text0 at1 => st0 55 [.v (.string text0), .v (.int .i64 at1)] []
 | .p127 B0_0 B0_1 B0_2 B0_3 B0_4 B1_0 B1_1 B1_2 => mkSt 55 [4, 7] [.bp 0 0, .bp 1 0] [.var 33 [.v (.int .i64 B0_0), .v (.int .i64 B0_1), .v (.string B0_2), .v (.int .i64 B0_3), .v (.int .i64 B0_4)], .var 67 [.v (.string B1_0), .v (.int .i64 B1_1), .v (.int .i64 B1_2)]]
 | .p511 B0_0 B0_1 B0_2 B0_3 B0_4 B1_0 B1_1 B1_2 B2_0 B2_1 B2_2 B2_3 B2_4 => mkSt 55 [4, 7, 8] [.bp 0 0, .bp 1 0, .bp 2 0] [.var 33 [.v (.int .i64 B0_0), .v (.int .i64 B0_1), .v (.string B0_2), .v (.int .i64 B0_3), .v (.int .i64 B0_4)], .var 67 [.v (.string B1_0), .v (.int .i64 B1_1), .v (.int .i64 B1_2)], .var 33 [.v (.int .i64 B2_0), .v (.int .i64 B2_1), .v (.string B2_2), .v (.int .i64 B2_3), .v (.int .i64 B2_4)]]
abbrev R_lexer_NextToken : Type := (((Int × (Int × (ByteArray × (Int × (Int × Unit))))) × (Int × Unit)) × Unit)
noncomputable def res_lexer_NextToken : Res E ((Int × (Int × (ByteArray × (Int × (Int × Unit))))) × (Int × Unit)) Unit := { rows := [], flat := [], keep := 0, rl := (RdL.cons (Rd.agg (RdL.cons (Rd.int .i64) (RdL.cons (Rd.int .i64) (RdL.cons Rd.str (RdL.cons (Rd.int .i64) (RdL.cons (Rd.int .i64) RdL.nil)))))) (RdL.cons (Rd.int .i64) RdL.nil)), rb := RdBL.nil }
noncomputable def run_lexer_NextToken : P_lexer_NextToken → Option R_lexer_NextToken
 | .start text0 at1 =>
   (run_lexer_textErr (.start text0)) >>= fun t1 =>
   if (t1.1.1 != (0 : Int)) = true then
     some ((((0 : Int), ((0 : Int), ((⟨#[]⟩ : ByteArray), ((0 : Int), ((0 : Int), ()))))), (t1.1.1, ())), ())
   else
     (run_lexer_within (.start at1 (0 : Int) (text0.size : Int))) >>= fun t2 =>
     if (!t2.1.1) = true then
       some ((((0 : Int), ((0 : Int), ((⟨#[]⟩ : ByteArray), ((0 : Int), ((0 : Int), ()))))), ((2 : Int), ())), ())
     else
       (run_lexer_scanner_skip (.start text0 at1 (0 : Int))) >>= fun t3 =>
       if (t3.2.1.2.2.1 == (0 : Int)) = true then
         (run_lexer_scanner_ended (.start t3.2.1.1 t3.2.1.2.1 t3.2.1.2.2.1)) >>= fun t4 =>
         if t4.1.1 = true then
           some ((((0 : Int), ((0 : Int), ((⟨#[]⟩ : ByteArray), ((0 : Int), ((0 : Int), ()))))), ((12 : Int), ())), ())
         else
           run_lexer_NextToken (.p127 (0 : Int) (0 : Int) (⟨#[]⟩ : ByteArray) (0 : Int) (0 : Int) t4.2.1.1 t4.2.1.2.1 t4.2.1.2.2.1)
       else
         run_lexer_NextToken (.p127 (0 : Int) (0 : Int) (⟨#[]⟩ : ByteArray) (0 : Int) (0 : Int) t3.2.1.1 t3.2.1.2.1 t3.2.1.2.2.1)
 | .p127 B0_0 B0_1 B0_2 B0_3 B0_4 B1_0 B1_1 B1_2 =>
   if (B1_2 == (0 : Int)) = true then
     (run_lexer_scanner_token (.start B1_0 B1_1 B1_2)) >>= fun t1 =>
     run_lexer_NextToken (.p511 B0_0 B0_1 B0_2 B0_3 B0_4 t1.2.1.1 t1.2.1.2.1 t1.2.1.2.2.1 t1.1.1.1 t1.1.1.2.1 t1.1.1.2.2.1 t1.1.1.2.2.2.1 t1.1.1.2.2.2.2.1)
   else
     run_lexer_NextToken (.p511 B0_0 B0_1 B0_2 B0_3 B0_4 B1_0 B1_1 B1_2 (0 : Int) (0 : Int) (⟨#[]⟩ : ByteArray) (0 : Int) (0 : Int))
 | .p511 B0_0 B0_1 B0_2 B0_3 B0_4 B1_0 B1_1 B1_2 B2_0 B2_1 B2_2 B2_3 B2_4 =>
   if (B1_2 != (0 : Int)) = true then
     some ((((0 : Int), ((0 : Int), ((⟨#[]⟩ : ByteArray), ((0 : Int), ((0 : Int), ()))))), (B1_2, ())), ())
   else
     some (((B2_0, (B2_1, (B2_2, (B2_3, (B2_4, ()))))), ((0 : Int), ())), ())
  partial_fixpoint
noncomputable def tab_lexer_NextToken : List (Plc E P_lexer_NextToken) := [⟨127, [true, true, true, true, true, true], { slots := [4, 7], rows := [], flat := [], keep := 0 }, (Unit × (Unit × Unit)), ((Int × (Int × (ByteArray × (Int × (Int × Unit))))) × ((ByteArray × (Int × (Int × Unit))) × Unit)), (RdL.cons (Rd.bp 0 0) (RdL.cons (Rd.bp 1 0) RdL.nil)), (RdBL.cons (RdB.var 33 (RdL.cons (Rd.int .i64) (RdL.cons (Rd.int .i64) (RdL.cons Rd.str (RdL.cons (Rd.int .i64) (RdL.cons (Rd.int .i64) RdL.nil)))))) (RdBL.cons (RdB.var 67 (RdL.cons Rd.str (RdL.cons (Rd.int .i64) (RdL.cons (Rd.int .i64) RdL.nil)))) RdBL.nil)), fun a b => .p127 b.1.1 b.1.2.1 b.1.2.2.1 b.1.2.2.2.1 b.1.2.2.2.2.1 b.2.1.1 b.2.1.2.1 b.2.1.2.2.1⟩,
  ⟨511, [true, true, true, true, true, true, true, true], { slots := [4, 7, 8], rows := [], flat := [], keep := 0 }, (Unit × (Unit × (Unit × Unit))), ((Int × (Int × (ByteArray × (Int × (Int × Unit))))) × ((ByteArray × (Int × (Int × Unit))) × ((Int × (Int × (ByteArray × (Int × (Int × Unit))))) × Unit))), (RdL.cons (Rd.bp 0 0) (RdL.cons (Rd.bp 1 0) (RdL.cons (Rd.bp 2 0) RdL.nil))), (RdBL.cons (RdB.var 33 (RdL.cons (Rd.int .i64) (RdL.cons (Rd.int .i64) (RdL.cons Rd.str (RdL.cons (Rd.int .i64) (RdL.cons (Rd.int .i64) RdL.nil)))))) (RdBL.cons (RdB.var 67 (RdL.cons Rd.str (RdL.cons (Rd.int .i64) (RdL.cons (Rd.int .i64) RdL.nil)))) (RdBL.cons (RdB.var 33 (RdL.cons (Rd.int .i64) (RdL.cons (Rd.int .i64) (RdL.cons Rd.str (RdL.cons (Rd.int .i64) (RdL.cons (Rd.int .i64) RdL.nil)))))) RdBL.nil))), fun a b => .p511 b.1.1 b.1.2.1 b.1.2.2.1 b.1.2.2.2.1 b.1.2.2.2.2.1 b.2.1.1 b.2.1.2.1 b.2.1.2.2.1 b.2.2.1.1 b.2.2.1.2.1 b.2.2.1.2.2.1 b.2.2.1.2.2.2.1 b.2.2.1.2.2.2.2.1⟩]
theorem tab_lexer_NextToken_ok : All (PlcOk 55 0 place_lexer_NextToken st_lexer_NextToken) tab_lexer_NextToken := ⟨⟨rfl, rfl, fun _ _ => rfl, fun _ _ => rfl⟩, ⟨⟨rfl, rfl, fun _ _ => rfl, fun _ _ => rfl⟩, trivial⟩⟩
noncomputable def code_lexer_NextToken : Code := Tryz.f11.body.getD .skip
noncomputable def spec_lexer_NextToken : Spec E.S := (Con.add con_lexer_scanner_token (Con.add con_lexer_scanner_ended (Con.add con_lexer_scanner_skip (Con.add con_lexer_within (Con.add con_lexer_textErr noSpec)))))
theorem spec_lexer_NextToken_ok : SpecOk E spec_lexer_NextToken := (Con.add_ok con_lexer_scanner_token_ok (Con.add_ok con_lexer_scanner_ended_ok (Con.add_ok con_lexer_scanner_skip_ok (Con.add_ok con_lexer_within_ok (Con.add_ok con_lexer_textErr_ok noSpec_ok)))))
theorem good_lexer_NextToken : ∀ pt r, run_lexer_NextToken pt = some r → Good E Tryz.f11 code_lexer_NextToken 0 (res_lexer_NextToken.av r) (res_lexer_NextToken.bx r) (place_lexer_NextToken pt) (st_lexer_NextToken pt) := by
  refine run_lexer_NextToken.partial_correctness (fun pt r => Good E Tryz.f11 code_lexer_NextToken 0 (res_lexer_NextToken.av r) (res_lexer_NextToken.bx r) (place_lexer_NextToken pt) (st_lexer_NextToken pt)) ?_
  intro run' ih pt r hr
  cases pt <;> exact fn_step (spec := spec_lexer_NextToken) (wr := (fun i => mem i [])) (l := tab_lexer_NextToken) (z := 55) (p := res_lexer_NextToken) E_ok tab_lexer_NextToken_ok.mem rfl spec_lexer_NextToken_ok ih (Eq.trans (by kernel_rfl) hr)
noncomputable def con_lexer_NextToken : Con E := ⟨11, (ByteArray × (Int × Unit)), Unit, (RwL.cons Rd.str.w (RwL.cons (Rd.int .i64).w RwL.nil)), RdBL.nil, 0, R_lexer_NextToken, fun a b => run_lexer_NextToken (.start a.1 a.2.1), res_lexer_NextToken.av, res_lexer_NextToken.bx⟩
theorem con_lexer_NextToken_ok : con_lexer_NextToken.Ok := fun a b r h => fn_ok (fn := Tryz.f11) (code := code_lexer_NextToken) E_ok (by kernel_rfl) (by kernel_rfl) (by kernel_rfl) (Nat.le_of_ble_eq_true rfl) (good_lexer_NextToken (.start a.1 a.2.1) r h)

/-! ### ratchet/ratchetref05.Next -/
inductive P_ratchetref05_Next where
 | start (text0 : ByteArray) (at1 : Int)
noncomputable def place_ratchetref05_Next : P_ratchetref05_Next → List Bool
 | .start .. => []
noncomputable def st_ratchetref05_Next : P_ratchetref05_Next → St E.S
 | .start text0 at1 => st0 51 [.v (.string text0), .v (.int .i64 at1)] []
abbrev R_ratchetref05_Next : Type := (((Int × (Int × (ByteArray × (Int × (Int × Unit))))) × (Int × Unit)) × Unit)
noncomputable def res_ratchetref05_Next : Res E ((Int × (Int × (ByteArray × (Int × (Int × Unit))))) × (Int × Unit)) Unit := { rows := [], flat := [], keep := 0, rl := (RdL.cons (Rd.agg (RdL.cons (Rd.int .i64) (RdL.cons (Rd.int .i64) (RdL.cons Rd.str (RdL.cons (Rd.int .i64) (RdL.cons (Rd.int .i64) RdL.nil)))))) (RdL.cons (Rd.int .i64) RdL.nil)), rb := RdBL.nil }
noncomputable def run_ratchetref05_Next : P_ratchetref05_Next → Option R_ratchetref05_Next
 | .start text0 at1 =>
   (run_ratchetref05_TextErr (.start text0)) >>= fun t1 =>
   if (t1.1.1 != (0 : Int)) = true then
     some ((((0 : Int), ((0 : Int), ((⟨#[]⟩ : ByteArray), ((0 : Int), ((0 : Int), ()))))), (t1.1.1, ())), ())
   else
     (run_ratchetbase_Within (.start at1 (0 : Int) (text0.size : Int))) >>= fun t2 =>
     if (!t2.1.1) = true then
       some ((((0 : Int), ((0 : Int), ((⟨#[]⟩ : ByteArray), ((0 : Int), ((0 : Int), ()))))), ((2 : Int), ())), ())
     else
       (run_ratchetref05_Skipped (.start text0 at1)) >>= fun t3 =>
       if (t3.1.2.1.2.1 != (0 : Int)) = true then
         some ((((0 : Int), ((0 : Int), ((⟨#[]⟩ : ByteArray), ((0 : Int), ((0 : Int), ()))))), (t3.1.2.1.2.1, ())), ())
       else
         if (t3.1.1 == (text0.size : Int)) = true then
           some ((((0 : Int), ((0 : Int), ((⟨#[]⟩ : ByteArray), ((0 : Int), ((0 : Int), ()))))), ((12 : Int), ())), ())
         else
           (run_ratchetref05_token (.start text0 t3.1.1)) >>= fun t4 =>
           some (((t4.1.1.1, (t4.1.1.2.1, (t4.1.1.2.2.1, (t4.1.1.2.2.2.1, (t4.1.1.2.2.2.2.1, ()))))), (t4.1.2.1.2.1, ())), ())
noncomputable def tab_ratchetref05_Next : List (Plc E P_ratchetref05_Next) := []
theorem tab_ratchetref05_Next_ok : All (PlcOk 51 0 place_ratchetref05_Next st_ratchetref05_Next) tab_ratchetref05_Next := trivial
noncomputable def code_ratchetref05_Next : Code := Tryz.f12.body.getD .skip
noncomputable def spec_ratchetref05_Next : Spec E.S := (Con.add con_ratchetref05_token (Con.add con_ratchetref05_Skipped (Con.add con_ratchetbase_Within (Con.add con_ratchetref05_TextErr noSpec))))
theorem spec_ratchetref05_Next_ok : SpecOk E spec_ratchetref05_Next := (Con.add_ok con_ratchetref05_token_ok (Con.add_ok con_ratchetref05_Skipped_ok (Con.add_ok con_ratchetbase_Within_ok (Con.add_ok con_ratchetref05_TextErr_ok noSpec_ok))))
theorem good_ratchetref05_Next : ∀ pt r, run_ratchetref05_Next pt = some r → Good E Tryz.f12 code_ratchetref05_Next 0 (res_ratchetref05_Next.av r) (res_ratchetref05_Next.bx r) (place_ratchetref05_Next pt) (st_ratchetref05_Next pt) := by
  intro pt r hr
  cases pt <;> exact fn_step (spec := spec_ratchetref05_Next) (wr := (fun i => mem i [])) (l := tab_ratchetref05_Next) (z := 51) (p := res_ratchetref05_Next) (run' := fun _ => none) E_ok tab_ratchetref05_Next_ok.mem rfl spec_ratchetref05_Next_ok (fun _ _ h => by cases h) (Eq.trans (by kernel_rfl) hr)
noncomputable def con_ratchetref05_Next : Con E := ⟨12, (ByteArray × (Int × Unit)), Unit, (RwL.cons Rd.str.w (RwL.cons (Rd.int .i64).w RwL.nil)), RdBL.nil, 0, R_ratchetref05_Next, fun a b => run_ratchetref05_Next (.start a.1 a.2.1), res_ratchetref05_Next.av, res_ratchetref05_Next.bx⟩
theorem con_ratchetref05_Next_ok : con_ratchetref05_Next.Ok := fun a b r h => fn_ok (fn := Tryz.f12) (code := code_ratchetref05_Next) E_ok (by kernel_rfl) (by kernel_rfl) (by kernel_rfl) (Nat.le_of_ble_eq_true rfl) (good_ratchetref05_Next (.start a.1 a.2.1) r h)

/-! ### ratchet/ratchetlaw05.LexerTokens -/
inductive P_ratchetlaw05_LexerTokens where
 | start (text0 : ByteArray) (at1 : Int)
 | p127 (text0 : ByteArray) (at1 : Int) (e7 : Int) (B0 : (List api_LexerToken))
 | p1023 (text0 : ByteArray) (e7 : Int) (B0 : (List api_LexerToken))
 | p65524 (text0 : ByteArray) (from14 : Int) (k15 : Int) (B0 : (List api_LexerToken))
noncomputable def place_ratchetlaw05_LexerTokens : P_ratchetlaw05_LexerTokens → List Bool
 | .start .. => []
 | .p127 .. => [true, true, true, true, true, true]
 | .p1023 .. => [true, true, true, true, true, true, true, true, true]
 | .p65524 .. => [false, false, true, false, true, true, true, true, true, true, true, true, true, true, true]
noncomputable def st_ratchetlaw05_LexerTokens : P_ratchetlaw05_LexerTokens → St E.S
 | .start text0 at1 => st0 147 [.v (.string text0), .v (.int .i64 at1)] []
 | .p127 text0 at1 e7 B0 => mkSt 147 [0, 1, 5, 7] [.v (.string text0), .v (.int .i64 at1), .rw 0, .v (.int .i64 e7)] [.row 33 B0 true]
 | .p1023 text0 e7 B0 => mkSt 147 [0, 5, 7] [.v (.string text0), .rw 0, .v (.int .i64 e7)] [.row 33 B0 true]
 | .p65524 text0 from14 k15 B0 => mkSt 147 [0, 5, 14, 15] [.v (.string text0), .rw 0, .v (.int .i64 from14), .v (.int .i64 k15)] [.row 33 B0 true]
abbrev R_ratchetlaw05_LexerTokens : Type := ((Bool × Unit) × Unit)
noncomputable def res_ratchetlaw05_LexerTokens : Res E (Bool × Unit) Unit := { rows := [], flat := [], keep := 0, rl := (RdL.cons Rd.bool RdL.nil), rb := RdBL.nil }
noncomputable def run_ratchetlaw05_LexerTokens : P_ratchetlaw05_LexerTokens → Option R_ratchetlaw05_LexerTokens
 | .start text0 at1 =>
   (some () : Option Unit) >>= fun t1 =>
   if (!true) = true then
     some ((false, ()), ())
   else
     if (decide ((text0.size : Int) > (400 : Int))) = true then
       some ((true, ()), ())
     else
       (run_lexer_Tokens (.start text0)) >>= fun t2 =>
       (run_ratchetref05_Tokens (.start text0)) >>= fun t3 =>
       if (t2.1.2.2.1 != t3.1.2.1.2.1) = true then
         some ((false, ()), ())
       else
         if (t2.1.2.1 != t3.1.2.1.1) = true then
           some ((false, ()), ())
         else
           (run_ratchetref05_SameTokens (.start t2.2.1 t3.2.1)) >>= fun t4 =>
           if (!t4.1.1) = true then
             some ((false, ()), ())
           else
             run_ratchetlaw05_LexerTokens (.p127 text0 at1 t2.1.2.2.1 t2.2.1)
 | .p127 text0 at1 e7 B0 =>
   (run_lexer_NextToken (.start text0 at1)) >>= fun t1 =>
   (run_ratchetref05_Next (.start text0 at1)) >>= fun t2 =>
   if (t1.1.2.1 != t2.1.2.1) = true then
     some ((false, ()), ())
   else
     if (!((t1.1.1.1 == t2.1.1.1) && ((t1.1.1.2.1 == t2.1.1.2.1) && ((seq t1.1.1.2.2.1 t2.1.1.2.2.1) && ((t1.1.1.2.2.2.1 == t2.1.1.2.2.2.1) && ((t1.1.1.2.2.2.2.1 == t2.1.1.2.2.2.2.1) && true)))))) = true then
       some ((false, ()), ())
     else
       run_ratchetlaw05_LexerTokens (.p1023 text0 e7 B0)
 | .p1023 text0 e7 B0 =>
   if (e7 != (0 : Int)) = true then
     some ((true, ()), ())
   else
     run_ratchetlaw05_LexerTokens (.p65524 text0 (0 : Int) (0 : Int) B0)
 | .p65524 text0 from14 k15 B0 =>
   if (decide (k15 < (List.length B0 : Int))) = true then
     (run_lexer_NextToken (.start text0 from14)) >>= fun t1 =>
     if (t1.1.2.1 != (0 : Int)) = true then
       some ((false, ()), ())
     else
       if (decide ((0 : Int) ≤ k15) && decide (k15 < (List.length B0 : Int))) = true then
         (idx B0 k15) >>= fun t2 =>
         if (!((t1.1.1.1 == t2.Kind) && ((t1.1.1.2.1 == t2.At) && ((seq t1.1.1.2.2.1 t2.Text) && ((t1.1.1.2.2.2.1 == t2.Value) && ((t1.1.1.2.2.2.2.1 == t2.Width) && true)))))) = true then
           some ((false, ()), ())
         else
           if (decide (t1.1.1.2.1 < from14)) = true then
             some ((false, ()), ())
           else
             if (seq t1.1.1.2.2.1 (⟨#[]⟩ : ByteArray)) = true then
               some ((false, ()), ())
             else
               if (decide ((IntKind.wrap .i64 (t1.1.1.2.1 + (t1.1.1.2.2.1.size : Int))) > (text0.size : Int))) = true then
                 some ((false, ()), ())
               else
                 (span text0.size t1.1.1.2.1 (IntKind.wrap .i64 (t1.1.1.2.1 + (t1.1.1.2.2.1.size : Int)))) >>= fun t3 =>
                 if (!(seq (text0.extract t3.1 t3.2) t1.1.1.2.2.1)) = true then
                   some ((false, ()), ())
                 else
                   run_ratchetlaw05_LexerTokens (.p65524 text0 (IntKind.wrap .i64 (t1.1.1.2.1 + (t1.1.1.2.2.1.size : Int))) (IntKind.wrap .i64 (k15 + (1 : Int))) B0)
       else none
   else
     (run_lexer_NextToken (.start text0 from14)) >>= fun t4 =>
     some ((t4.1.2.1 == (12 : Int), ()), ())
  partial_fixpoint
noncomputable def tab_ratchetlaw05_LexerTokens : List (Plc E P_ratchetlaw05_LexerTokens) := [⟨127, [true, true, true, true, true, true], { slots := [0, 1, 5, 7], rows := [], flat := [], keep := 0 }, (ByteArray × (Int × (Unit × (Int × Unit)))), ((List api_LexerToken) × Unit), (RdL.cons Rd.str (RdL.cons (Rd.int .i64) (RdL.cons (Rd.rw 0) (RdL.cons (Rd.int .i64) RdL.nil)))), (RdBL.cons (RdB.row 33 true) RdBL.nil), fun a b => .p127 a.1 a.2.1 a.2.2.2.1 b.1⟩,
  ⟨1023, [true, true, true, true, true, true, true, true, true], { slots := [0, 5, 7], rows := [], flat := [], keep := 0 }, (ByteArray × (Unit × (Int × Unit))), ((List api_LexerToken) × Unit), (RdL.cons Rd.str (RdL.cons (Rd.rw 0) (RdL.cons (Rd.int .i64) RdL.nil))), (RdBL.cons (RdB.row 33 true) RdBL.nil), fun a b => .p1023 a.1 a.2.2.1 b.1⟩,
  ⟨65524, [false, false, true, false, true, true, true, true, true, true, true, true, true, true, true], { slots := [0, 5, 14, 15], rows := [], flat := [], keep := 0 }, (ByteArray × (Unit × (Int × (Int × Unit)))), ((List api_LexerToken) × Unit), (RdL.cons Rd.str (RdL.cons (Rd.rw 0) (RdL.cons (Rd.int .i64) (RdL.cons (Rd.int .i64) RdL.nil)))), (RdBL.cons (RdB.row 33 true) RdBL.nil), fun a b => .p65524 a.1 a.2.2.1 a.2.2.2.1 b.1⟩]
theorem tab_ratchetlaw05_LexerTokens_ok : All (PlcOk 147 0 place_ratchetlaw05_LexerTokens st_ratchetlaw05_LexerTokens) tab_ratchetlaw05_LexerTokens := ⟨⟨rfl, rfl, fun _ _ => rfl, fun _ _ => rfl⟩, ⟨⟨rfl, rfl, fun _ _ => rfl, fun _ _ => rfl⟩, ⟨⟨rfl, rfl, fun _ _ => rfl, fun _ _ => rfl⟩, trivial⟩⟩⟩
noncomputable def code_ratchetlaw05_LexerTokens : Code := Tryz.f3.body.getD .skip
noncomputable def spec_ratchetlaw05_LexerTokens : Spec E.S := (Con.add con_ratchetref05_Next (Con.add con_lexer_NextToken (Con.add con_ratchetref05_SameTokens (Con.add con_ratchetref05_Tokens (Con.add con_lexer_Tokens (Con.add con_ratchetlaw05_awake noSpec))))))
theorem spec_ratchetlaw05_LexerTokens_ok : SpecOk E spec_ratchetlaw05_LexerTokens := (Con.add_ok con_ratchetref05_Next_ok (Con.add_ok con_lexer_NextToken_ok (Con.add_ok con_ratchetref05_SameTokens_ok (Con.add_ok con_ratchetref05_Tokens_ok (Con.add_ok con_lexer_Tokens_ok (Con.add_ok con_ratchetlaw05_awake_ok noSpec_ok))))))
theorem good_ratchetlaw05_LexerTokens : ∀ pt r, run_ratchetlaw05_LexerTokens pt = some r → Good E Tryz.f3 code_ratchetlaw05_LexerTokens 0 (res_ratchetlaw05_LexerTokens.av r) (res_ratchetlaw05_LexerTokens.bx r) (place_ratchetlaw05_LexerTokens pt) (st_ratchetlaw05_LexerTokens pt) := by
  refine run_ratchetlaw05_LexerTokens.partial_correctness (fun pt r => Good E Tryz.f3 code_ratchetlaw05_LexerTokens 0 (res_ratchetlaw05_LexerTokens.av r) (res_ratchetlaw05_LexerTokens.bx r) (place_ratchetlaw05_LexerTokens pt) (st_ratchetlaw05_LexerTokens pt)) ?_
  intro run' ih pt r hr
  cases pt <;> exact fn_step (spec := spec_ratchetlaw05_LexerTokens) (wr := (fun i => mem i [])) (l := tab_ratchetlaw05_LexerTokens) (z := 147) (p := res_ratchetlaw05_LexerTokens) E_ok tab_ratchetlaw05_LexerTokens_ok.mem rfl spec_ratchetlaw05_LexerTokens_ok ih (Eq.trans (by kernel_rfl) hr)
noncomputable def con_ratchetlaw05_LexerTokens : Con E := ⟨3, (ByteArray × (Int × Unit)), Unit, (RwL.cons Rd.str.w (RwL.cons (Rd.int .i64).w RwL.nil)), RdBL.nil, 0, R_ratchetlaw05_LexerTokens, fun a b => run_ratchetlaw05_LexerTokens (.start a.1 a.2.1), res_ratchetlaw05_LexerTokens.av, res_ratchetlaw05_LexerTokens.bx⟩
theorem con_ratchetlaw05_LexerTokens_ok : con_ratchetlaw05_LexerTokens.Ok := fun a b r h => fn_ok (fn := Tryz.f3) (code := code_ratchetlaw05_LexerTokens) E_ok (by kernel_rfl) (by kernel_rfl) (by kernel_rfl) (Nat.le_of_ble_eq_true rfl) (good_ratchetlaw05_LexerTokens (.start a.1 a.2.1) r h)

/-! ### ratchet/lexer.CheckToken -/
inductive P_lexer_CheckToken where
 | start (t0_0 : Int) (t0_1 : Int) (t0_2 : ByteArray) (t0_3 : Int) (t0_4 : Int)
noncomputable def place_lexer_CheckToken : P_lexer_CheckToken → List Bool
 | .start .. => []
noncomputable def st_lexer_CheckToken : P_lexer_CheckToken → St E.S
 | .start t0_0 t0_1 t0_2 t0_3 t0_4 => st0 26 [.agg [.v (.int .i64 t0_0), .v (.int .i64 t0_1), .v (.string t0_2), .v (.int .i64 t0_3), .v (.int .i64 t0_4)]] []
abbrev R_lexer_CheckToken : Type := ((Int × Unit) × Unit)
noncomputable def res_lexer_CheckToken : Res E (Int × Unit) Unit := { rows := [], flat := [], keep := 0, rl := (RdL.cons (Rd.int .i64) RdL.nil), rb := RdBL.nil }
noncomputable def run_lexer_CheckToken : P_lexer_CheckToken → Option R_lexer_CheckToken
 | .start t0_0 t0_1 t0_2 t0_3 t0_4 =>
   (run_lexer_within (.start t0_0 (0 : Int) (5 : Int))) >>= fun t1 =>
   if (!t1.1.1) = true then
     some (((15 : Int), ()), ())
   else
     if (decide (t0_1 < (0 : Int))) = true then
       some (((2 : Int), ()), ())
     else
       (run_lexer_NextToken (.start t0_2 (0 : Int))) >>= fun t2 =>
       if (t2.1.2.1 != (0 : Int)) = true then
         some (((3 : Int), ()), ())
       else
         if (!((t2.1.1.1 == t0_0) && ((t2.1.1.2.1 == (0 : Int)) && ((seq t2.1.1.2.2.1 t0_2) && ((t2.1.1.2.2.2.1 == t0_3) && ((t2.1.1.2.2.2.2.1 == t0_4) && true)))))) = true then
           some (((3 : Int), ()), ())
         else
           some (((0 : Int), ()), ())
noncomputable def tab_lexer_CheckToken : List (Plc E P_lexer_CheckToken) := []
theorem tab_lexer_CheckToken_ok : All (PlcOk 26 0 place_lexer_CheckToken st_lexer_CheckToken) tab_lexer_CheckToken := trivial
noncomputable def code_lexer_CheckToken : Code := Tryz.f13.body.getD .skip
noncomputable def spec_lexer_CheckToken : Spec E.S := (Con.add con_lexer_NextToken (Con.add con_lexer_within noSpec))
theorem spec_lexer_CheckToken_ok : SpecOk E spec_lexer_CheckToken := (Con.add_ok con_lexer_NextToken_ok (Con.add_ok con_lexer_within_ok noSpec_ok))
theorem good_lexer_CheckToken : ∀ pt r, run_lexer_CheckToken pt = some r → Good E Tryz.f13 code_lexer_CheckToken 0 (res_lexer_CheckToken.av r) (res_lexer_CheckToken.bx r) (place_lexer_CheckToken pt) (st_lexer_CheckToken pt) := by
  intro pt r hr
  cases pt <;> exact fn_step (spec := spec_lexer_CheckToken) (wr := (fun i => mem i [])) (l := tab_lexer_CheckToken) (z := 26) (p := res_lexer_CheckToken) (run' := fun _ => none) E_ok tab_lexer_CheckToken_ok.mem rfl spec_lexer_CheckToken_ok (fun _ _ h => by cases h) (Eq.trans (by kernel_rfl) hr)
noncomputable def con_lexer_CheckToken : Con E := ⟨13, ((Int × (Int × (ByteArray × (Int × (Int × Unit))))) × Unit), Unit, (RwL.cons (Rw.agg (RwL.cons (Rd.int .i64).w (RwL.cons (Rd.int .i64).w (RwL.cons Rd.str.w (RwL.cons (Rd.int .i64).w (RwL.cons (Rd.int .i64).w RwL.nil)))))) RwL.nil), RdBL.nil, 0, R_lexer_CheckToken, fun a b => run_lexer_CheckToken (.start a.1.1 a.1.2.1 a.1.2.2.1 a.1.2.2.2.1 a.1.2.2.2.2.1), res_lexer_CheckToken.av, res_lexer_CheckToken.bx⟩
theorem con_lexer_CheckToken_ok : con_lexer_CheckToken.Ok := fun a b r h => fn_ok (fn := Tryz.f13) (code := code_lexer_CheckToken) E_ok (by kernel_rfl) (by kernel_rfl) (by kernel_rfl) (Nat.le_of_ble_eq_true rfl) (good_lexer_CheckToken (.start a.1.1 a.1.2.1 a.1.2.2.1 a.1.2.2.2.1 a.1.2.2.2.2.1) r h)

/-! ### ratchet/ratchetref05.TokenErr -/
inductive P_ratchetref05_TokenErr where
 | start (t0_0 : Int) (t0_1 : Int) (t0_2 : ByteArray) (t0_3 : Int) (t0_4 : Int)
noncomputable def place_ratchetref05_TokenErr : P_ratchetref05_TokenErr → List Bool
 | .start .. => []
noncomputable def st_ratchetref05_TokenErr : P_ratchetref05_TokenErr → St E.S
 | .start t0_0 t0_1 t0_2 t0_3 t0_4 => st0 69 [.agg [.v (.int .i64 t0_0), .v (.int .i64 t0_1), .v (.string t0_2), .v (.int .i64 t0_3), .v (.int .i64 t0_4)]] []
abbrev R_ratchetref05_TokenErr : Type := ((Int × Unit) × Unit)
noncomputable def res_ratchetref05_TokenErr : Res E (Int × Unit) Unit := { rows := [], flat := [], keep := 0, rl := (RdL.cons (Rd.int .i64) RdL.nil), rb := RdBL.nil }
noncomputable def run_ratchetref05_TokenErr : P_ratchetref05_TokenErr → Option R_ratchetref05_TokenErr
 | .start t0_0 t0_1 t0_2 t0_3 t0_4 =>
   (run_ratchetbase_Within (.start t0_0 (0 : Int) (5 : Int))) >>= fun t1 =>
   if (!t1.1.1) = true then
     some (((15 : Int), ()), ())
   else
     if (decide (t0_1 < (0 : Int))) = true then
       some (((2 : Int), ()), ())
     else
       (run_ratchetref05_Tokens (.start t0_2)) >>= fun t2 =>
       if (t2.1.2.1.2.1 != (0 : Int)) = true then
         some (((3 : Int), ()), ())
       else
         if ((List.length t2.2.1 : Int) != (1 : Int)) = true then
           some (((3 : Int), ()), ())
         else
           if (decide ((0 : Int) ≤ (0 : Int)) && decide ((0 : Int) < (List.length t2.2.1 : Int))) = true then
             (idx t2.2.1 (0 : Int)) >>= fun t3 =>
             if (t3.At != (0 : Int)) = true then
               some (((3 : Int), ()), ())
             else
               if (decide ((0 : Int) ≤ (0 : Int)) && decide ((0 : Int) < (List.length t2.2.1 : Int))) = true then
                 (idx t2.2.1 (0 : Int)) >>= fun t4 =>
                 if (!(seq t4.Text t0_2)) = true then
                   some (((3 : Int), ()), ())
                 else
                   if (decide ((0 : Int) ≤ (0 : Int)) && decide ((0 : Int) < (List.length t2.2.1 : Int))) = true then
                     (idx t2.2.1 (0 : Int)) >>= fun t5 =>
                     if (t5.Kind != t0_0) = true then
                       some (((3 : Int), ()), ())
                     else
                       if (decide ((0 : Int) ≤ (0 : Int)) && decide ((0 : Int) < (List.length t2.2.1 : Int))) = true then
                         (idx t2.2.1 (0 : Int)) >>= fun t6 =>
                         if (t6.Value != t0_3) = true then
                           some (((3 : Int), ()), ())
                         else
                           if (decide ((0 : Int) ≤ (0 : Int)) && decide ((0 : Int) < (List.length t2.2.1 : Int))) = true then
                             (idx t2.2.1 (0 : Int)) >>= fun t7 =>
                             if (t7.Width != t0_4) = true then
                               some (((3 : Int), ()), ())
                             else
                               some (((0 : Int), ()), ())
                           else none
                       else none
                   else none
               else none
           else none
noncomputable def tab_ratchetref05_TokenErr : List (Plc E P_ratchetref05_TokenErr) := []
theorem tab_ratchetref05_TokenErr_ok : All (PlcOk 69 0 place_ratchetref05_TokenErr st_ratchetref05_TokenErr) tab_ratchetref05_TokenErr := trivial
noncomputable def code_ratchetref05_TokenErr : Code := Tryz.f14.body.getD .skip
noncomputable def spec_ratchetref05_TokenErr : Spec E.S := (Con.add con_ratchetref05_Tokens (Con.add con_ratchetbase_Within noSpec))
theorem spec_ratchetref05_TokenErr_ok : SpecOk E spec_ratchetref05_TokenErr := (Con.add_ok con_ratchetref05_Tokens_ok (Con.add_ok con_ratchetbase_Within_ok noSpec_ok))
theorem good_ratchetref05_TokenErr : ∀ pt r, run_ratchetref05_TokenErr pt = some r → Good E Tryz.f14 code_ratchetref05_TokenErr 0 (res_ratchetref05_TokenErr.av r) (res_ratchetref05_TokenErr.bx r) (place_ratchetref05_TokenErr pt) (st_ratchetref05_TokenErr pt) := by
  intro pt r hr
  cases pt <;> exact fn_step (spec := spec_ratchetref05_TokenErr) (wr := (fun i => mem i [])) (l := tab_ratchetref05_TokenErr) (z := 69) (p := res_ratchetref05_TokenErr) (run' := fun _ => none) E_ok tab_ratchetref05_TokenErr_ok.mem rfl spec_ratchetref05_TokenErr_ok (fun _ _ h => by cases h) (Eq.trans (by kernel_rfl) hr)
noncomputable def con_ratchetref05_TokenErr : Con E := ⟨14, ((Int × (Int × (ByteArray × (Int × (Int × Unit))))) × Unit), Unit, (RwL.cons (Rw.agg (RwL.cons (Rd.int .i64).w (RwL.cons (Rd.int .i64).w (RwL.cons Rd.str.w (RwL.cons (Rd.int .i64).w (RwL.cons (Rd.int .i64).w RwL.nil)))))) RwL.nil), RdBL.nil, 0, R_ratchetref05_TokenErr, fun a b => run_ratchetref05_TokenErr (.start a.1.1 a.1.2.1 a.1.2.2.1 a.1.2.2.2.1 a.1.2.2.2.2.1), res_ratchetref05_TokenErr.av, res_ratchetref05_TokenErr.bx⟩
theorem con_ratchetref05_TokenErr_ok : con_ratchetref05_TokenErr.Ok := fun a b r h => fn_ok (fn := Tryz.f14) (code := code_ratchetref05_TokenErr) E_ok (by kernel_rfl) (by kernel_rfl) (by kernel_rfl) (Nat.le_of_ble_eq_true rfl) (good_ratchetref05_TokenErr (.start a.1.1 a.1.2.1 a.1.2.2.1 a.1.2.2.2.1 a.1.2.2.2.2.1) r h)

/-! ### ratchet/lexer.Spaced -/
inductive P_lexer_Spaced where
 | start (l0 : (List api_LexerToken))
 | p244 (s13 : (List api_LexerToken)) (s14 : Int) (s15 : Int) (B0 : (List ByteArray))
noncomputable def place_lexer_Spaced : P_lexer_Spaced → List Bool
 | .start .. => []
 | .p244 .. => [false, false, true, false, true, true, true]
noncomputable def st_lexer_Spaced : P_lexer_Spaced → St E.S
 | .start l0 => st0 38 [.sl 33 l0 false] []
 | .p244 s13 s14 s15 B0 => mkSt 38 [4, 13, 14, 15] [.rw 0, .sl 33 s13 false, .v (.int .i64 s14), .v (.int .i64 s15)] [.row 9 B0 true]
abbrev R_lexer_Spaced : Type := ((ByteArray × (Int × Unit)) × Unit)
noncomputable def res_lexer_Spaced : Res E (ByteArray × (Int × Unit)) Unit := { rows := [], flat := [], keep := 0, rl := (RdL.cons Rd.str (RdL.cons (Rd.int .i64) RdL.nil)), rb := RdBL.nil }
noncomputable def run_lexer_Spaced : P_lexer_Spaced → Option R_lexer_Spaced
 | .start l0 =>
   if (decide ((List.length l0 : Int) > (4000 : Int))) = true then
     some (((⟨#[]⟩ : ByteArray), ((8 : Int), ())), ())
   else
     run_lexer_Spaced (.p244 l0 (List.length l0 : Int) (0 : Int) ([]))
 | .p244 s13 s14 s15 B0 =>
   if (decide (s15 < s14)) = true then
     (idx s13 s15) >>= fun t1 =>
     (run_lexer_CheckToken (.start t1.Kind t1.At t1.Text t1.Value t1.Width)) >>= fun t2 =>
     if (t2.1.1 != (0 : Int)) = true then
       some (((⟨#[]⟩ : ByteArray), (t2.1.1, ())), ())
     else
       if (fits (List.length B0) (List.length ([t1.Text] : List ByteArray)) 16) = true then
         run_lexer_Spaced (.p244 s13 s14 (IntKind.wrap .i64 (s15 + (1 : Int))) (B0 ++ ([t1.Text] : List ByteArray)))
       else none
   else
     (joinRun (B0, (⟨#[32]⟩ : ByteArray), ()) ()) >>= fun t3 =>
     (run_lexer_textErr (.start t3.1.1)) >>= fun t4 =>
     if (t4.1.1 != (0 : Int)) = true then
       some (((⟨#[]⟩ : ByteArray), (t4.1.1, ())), ())
     else
       some ((t3.1.1, ((0 : Int), ())), ())
  partial_fixpoint
noncomputable def tab_lexer_Spaced : List (Plc E P_lexer_Spaced) := [⟨244, [false, false, true, false, true, true, true], { slots := [4, 13, 14, 15], rows := [(4, 9)], flat := [], keep := 0 }, (Unit × ((List api_LexerToken) × (Int × (Int × Unit)))), ((List ByteArray) × Unit), (RdL.cons (Rd.rw 0) (RdL.cons (Rd.sl 33 false) (RdL.cons (Rd.int .i64) (RdL.cons (Rd.int .i64) RdL.nil)))), (RdBL.cons (RdB.row 9 true) RdBL.nil), fun a b => .p244 a.2.1 a.2.2.1 a.2.2.2.1 b.1⟩]
theorem tab_lexer_Spaced_ok : All (PlcOk 38 0 place_lexer_Spaced st_lexer_Spaced) tab_lexer_Spaced := ⟨⟨rfl, rfl, fun _ _ => rfl, fun _ _ => rfl⟩, trivial⟩
noncomputable def code_lexer_Spaced : Code := Tryz.f15.body.getD .skip
noncomputable def spec_lexer_Spaced : Spec E.S := (Con.add con_lexer_textErr (Con.add con_strings_Join (Con.add con_lexer_CheckToken noSpec)))
theorem spec_lexer_Spaced_ok : SpecOk E spec_lexer_Spaced := (Con.add_ok con_lexer_textErr_ok (Con.add_ok con_strings_Join_ok (Con.add_ok con_lexer_CheckToken_ok noSpec_ok)))
theorem good_lexer_Spaced : ∀ pt r, run_lexer_Spaced pt = some r → Good E Tryz.f15 code_lexer_Spaced 0 (res_lexer_Spaced.av r) (res_lexer_Spaced.bx r) (place_lexer_Spaced pt) (st_lexer_Spaced pt) := by
  refine run_lexer_Spaced.partial_correctness (fun pt r => Good E Tryz.f15 code_lexer_Spaced 0 (res_lexer_Spaced.av r) (res_lexer_Spaced.bx r) (place_lexer_Spaced pt) (st_lexer_Spaced pt)) ?_
  intro run' ih pt r hr
  cases pt <;> exact fn_step (spec := spec_lexer_Spaced) (wr := (fun i => mem i [])) (l := tab_lexer_Spaced) (z := 38) (p := res_lexer_Spaced) E_ok tab_lexer_Spaced_ok.mem rfl spec_lexer_Spaced_ok ih (Eq.trans (by kernel_rfl) hr)
noncomputable def con_lexer_Spaced : Con E := ⟨15, ((List api_LexerToken) × Unit), Unit, (RwL.cons (Rw.sl 33) RwL.nil), RdBL.nil, 0, R_lexer_Spaced, fun a b => run_lexer_Spaced (.start a.1), res_lexer_Spaced.av, res_lexer_Spaced.bx⟩
theorem con_lexer_Spaced_ok : con_lexer_Spaced.Ok := fun a b r h => fn_ok (fn := Tryz.f15) (code := code_lexer_Spaced) E_ok (by kernel_rfl) (by kernel_rfl) (by kernel_rfl) (Nat.le_of_ble_eq_true rfl) (good_lexer_Spaced (.start a.1) r h)

/-! ### ratchet/ratchetref05.Spaced -/
inductive P_ratchetref05_Spaced where
 | start (l0 : (List api_LexerToken))
 | p244 (l0 : (List api_LexerToken)) (t4 : ByteArray) (i5 : Int)
 | p7827 (l0 : (List api_LexerToken)) (t4 : ByteArray) (i5 : Int)
noncomputable def place_ratchetref05_Spaced : P_ratchetref05_Spaced → List Bool
 | .start .. => []
 | .p244 .. => [false, false, true, false, true, true, true]
 | .p7827 .. => [true, true, false, false, true, false, false, true, false, true, true, true]
noncomputable def st_ratchetref05_Spaced : P_ratchetref05_Spaced → St E.S
 | .start l0 => st0 39 [.sl 33 l0 false] []
 | .p244 l0 t4 i5 => mkSt 39 [0, 4, 5] [.sl 33 l0 false, .v (.string t4), .v (.int .i64 i5)] []
 | .p7827 l0 t4 i5 => mkSt 39 [0, 4, 5] [.sl 33 l0 false, .v (.string t4), .v (.int .i64 i5)] []
abbrev R_ratchetref05_Spaced : Type := ((ByteArray × (Int × Unit)) × Unit)
noncomputable def res_ratchetref05_Spaced : Res E (ByteArray × (Int × Unit)) Unit := { rows := [], flat := [], keep := 0, rl := (RdL.cons Rd.str (RdL.cons (Rd.int .i64) RdL.nil)), rb := RdBL.nil }
noncomputable def run_ratchetref05_Spaced : P_ratchetref05_Spaced → Option R_ratchetref05_Spaced
 | .start l0 =>
   if (decide ((List.length l0 : Int) > (4000 : Int))) = true then
     some (((⟨#[]⟩ : ByteArray), ((8 : Int), ())), ())
   else
     run_ratchetref05_Spaced (.p244 l0 (⟨#[]⟩ : ByteArray) (0 : Int))
 | .p244 l0 t4 i5 =>
   if (decide (i5 < (List.length l0 : Int))) = true then
     (idx l0 i5) >>= fun t1 =>
     (run_ratchetref05_TokenErr (.start t1.Kind t1.At t1.Text t1.Value t1.Width)) >>= fun t2 =>
     if (t2.1.1 != (0 : Int)) = true then
       some (((⟨#[]⟩ : ByteArray), (t2.1.1, ())), ())
     else
       if (decide (i5 > (0 : Int))) = true then
         if (Nat.ble (t4.size + (⟨#[32]⟩ : ByteArray).size) 9223372036854775807) = true then
           run_ratchetref05_Spaced (.p7827 l0 (t4 ++ (⟨#[32]⟩ : ByteArray)) i5)
         else none
       else
         run_ratchetref05_Spaced (.p7827 l0 t4 i5)
   else
     if (decide ((t4.size : Int) > (60000 : Int))) = true then
       some (((⟨#[]⟩ : ByteArray), ((8 : Int), ())), ())
     else
       some ((t4, ((0 : Int), ())), ())
 | .p7827 l0 t4 i5 =>
   (idx l0 i5) >>= fun t1 =>
   if (Nat.ble (t4.size + t1.Text.size) 9223372036854775807) = true then
     run_ratchetref05_Spaced (.p244 l0 (t4 ++ t1.Text) (IntKind.wrap .i64 (i5 + (1 : Int))))
   else none
  partial_fixpoint
noncomputable def tab_ratchetref05_Spaced : List (Plc E P_ratchetref05_Spaced) := [⟨244, [false, false, true, false, true, true, true], { slots := [0, 4, 5], rows := [], flat := [], keep := 0 }, ((List api_LexerToken) × (ByteArray × (Int × Unit))), Unit, (RdL.cons (Rd.sl 33 false) (RdL.cons Rd.str (RdL.cons (Rd.int .i64) RdL.nil))), RdBL.nil, fun a b => .p244 a.1 a.2.1 a.2.2.1⟩,
  ⟨7827, [true, true, false, false, true, false, false, true, false, true, true, true], { slots := [0, 4, 5], rows := [], flat := [], keep := 0 }, ((List api_LexerToken) × (ByteArray × (Int × Unit))), Unit, (RdL.cons (Rd.sl 33 false) (RdL.cons Rd.str (RdL.cons (Rd.int .i64) RdL.nil))), RdBL.nil, fun a b => .p7827 a.1 a.2.1 a.2.2.1⟩]
theorem tab_ratchetref05_Spaced_ok : All (PlcOk 39 0 place_ratchetref05_Spaced st_ratchetref05_Spaced) tab_ratchetref05_Spaced := ⟨⟨rfl, rfl, fun _ _ => rfl, fun _ _ => rfl⟩, ⟨⟨rfl, rfl, fun _ _ => rfl, fun _ _ => rfl⟩, trivial⟩⟩
noncomputable def code_ratchetref05_Spaced : Code := Tryz.f16.body.getD .skip
noncomputable def spec_ratchetref05_Spaced : Spec E.S := (Con.add con_ratchetref05_TokenErr noSpec)
theorem spec_ratchetref05_Spaced_ok : SpecOk E spec_ratchetref05_Spaced := (Con.add_ok con_ratchetref05_TokenErr_ok noSpec_ok)
theorem good_ratchetref05_Spaced : ∀ pt r, run_ratchetref05_Spaced pt = some r → Good E Tryz.f16 code_ratchetref05_Spaced 0 (res_ratchetref05_Spaced.av r) (res_ratchetref05_Spaced.bx r) (place_ratchetref05_Spaced pt) (st_ratchetref05_Spaced pt) := by
  refine run_ratchetref05_Spaced.partial_correctness (fun pt r => Good E Tryz.f16 code_ratchetref05_Spaced 0 (res_ratchetref05_Spaced.av r) (res_ratchetref05_Spaced.bx r) (place_ratchetref05_Spaced pt) (st_ratchetref05_Spaced pt)) ?_
  intro run' ih pt r hr
  cases pt <;> exact fn_step (spec := spec_ratchetref05_Spaced) (wr := (fun i => mem i [])) (l := tab_ratchetref05_Spaced) (z := 39) (p := res_ratchetref05_Spaced) E_ok tab_ratchetref05_Spaced_ok.mem rfl spec_ratchetref05_Spaced_ok ih (Eq.trans (by kernel_rfl) hr)
noncomputable def con_ratchetref05_Spaced : Con E := ⟨16, ((List api_LexerToken) × Unit), Unit, (RwL.cons (Rw.sl 33) RwL.nil), RdBL.nil, 0, R_ratchetref05_Spaced, fun a b => run_ratchetref05_Spaced (.start a.1), res_ratchetref05_Spaced.av, res_ratchetref05_Spaced.bx⟩
theorem con_ratchetref05_Spaced_ok : con_ratchetref05_Spaced.Ok := fun a b r h => fn_ok (fn := Tryz.f16) (code := code_ratchetref05_Spaced) E_ok (by kernel_rfl) (by kernel_rfl) (by kernel_rfl) (Nat.le_of_ble_eq_true rfl) (good_ratchetref05_Spaced (.start a.1) r h)

/-! ### ratchet/ratchetlaw05.LexerSpaced -/
inductive P_ratchetlaw05_LexerSpaced where
 | start (l0 : (List api_LexerToken))
 | p244 (l0 : (List api_LexerToken)) (i3 : Int)
noncomputable def place_ratchetlaw05_LexerSpaced : P_ratchetlaw05_LexerSpaced → List Bool
 | .start .. => []
 | .p244 .. => [false, false, true, false, true, true, true]
noncomputable def st_ratchetlaw05_LexerSpaced : P_ratchetlaw05_LexerSpaced → St E.S
 | .start l0 => st0 57 [.sl 33 l0 false] []
 | .p244 l0 i3 => mkSt 57 [0, 3] [.sl 33 l0 false, .v (.int .i64 i3)] []
abbrev R_ratchetlaw05_LexerSpaced : Type := ((Bool × Unit) × Unit)
noncomputable def res_ratchetlaw05_LexerSpaced : Res E (Bool × Unit) Unit := { rows := [], flat := [], keep := 0, rl := (RdL.cons Rd.bool RdL.nil), rb := RdBL.nil }
noncomputable def run_ratchetlaw05_LexerSpaced : P_ratchetlaw05_LexerSpaced → Option R_ratchetlaw05_LexerSpaced
 | .start l0 =>
   (some () : Option Unit) >>= fun t1 =>
   if (!true) = true then
     some ((false, ()), ())
   else
     if (decide ((List.length l0 : Int) > (40 : Int))) = true then
       some ((true, ()), ())
     else
       run_ratchetlaw05_LexerSpaced (.p244 l0 (0 : Int))
 | .p244 l0 i3 =>
   if (decide (i3 < (List.length l0 : Int))) = true then
     (idx l0 i3) >>= fun t1 =>
     if (decide ((t1.Text.size : Int) > (40 : Int))) = true then
       some ((true, ()), ())
     else
       (idx l0 i3) >>= fun t2 =>
       (run_lexer_CheckToken (.start t2.Kind t2.At t2.Text t2.Value t2.Width)) >>= fun t3 =>
       (idx l0 i3) >>= fun t4 =>
       (run_ratchetref05_TokenErr (.start t4.Kind t4.At t4.Text t4.Value t4.Width)) >>= fun t5 =>
       if (t3.1.1 != t5.1.1) = true then
         some ((false, ()), ())
       else
         run_ratchetlaw05_LexerSpaced (.p244 l0 (IntKind.wrap .i64 (i3 + (1 : Int))))
   else
     if (fits (List.length ([] : List api_LexerToken)) (List.length l0) 48) = true then
       (run_lexer_Spaced (.start (([] : List api_LexerToken) ++ l0))) >>= fun t6 =>
       (run_ratchetref05_Spaced (.start l0)) >>= fun t7 =>
       if (t6.1.2.1 == t7.1.2.1) = true then
         some ((seq t6.1.1 t7.1.1, ()), ())
       else
         some ((false, ()), ())
     else none
  partial_fixpoint
noncomputable def tab_ratchetlaw05_LexerSpaced : List (Plc E P_ratchetlaw05_LexerSpaced) := [⟨244, [false, false, true, false, true, true, true], { slots := [0, 3], rows := [], flat := [], keep := 0 }, ((List api_LexerToken) × (Int × Unit)), Unit, (RdL.cons (Rd.sl 33 false) (RdL.cons (Rd.int .i64) RdL.nil)), RdBL.nil, fun a b => .p244 a.1 a.2.1⟩]
theorem tab_ratchetlaw05_LexerSpaced_ok : All (PlcOk 57 0 place_ratchetlaw05_LexerSpaced st_ratchetlaw05_LexerSpaced) tab_ratchetlaw05_LexerSpaced := ⟨⟨rfl, rfl, fun _ _ => rfl, fun _ _ => rfl⟩, trivial⟩
noncomputable def code_ratchetlaw05_LexerSpaced : Code := Tryz.f4.body.getD .skip
noncomputable def spec_ratchetlaw05_LexerSpaced : Spec E.S := (Con.add con_ratchetref05_Spaced (Con.add con_lexer_Spaced (Con.add con_ratchetref05_TokenErr (Con.add con_lexer_CheckToken (Con.add con_ratchetlaw05_awake noSpec)))))
theorem spec_ratchetlaw05_LexerSpaced_ok : SpecOk E spec_ratchetlaw05_LexerSpaced := (Con.add_ok con_ratchetref05_Spaced_ok (Con.add_ok con_lexer_Spaced_ok (Con.add_ok con_ratchetref05_TokenErr_ok (Con.add_ok con_lexer_CheckToken_ok (Con.add_ok con_ratchetlaw05_awake_ok noSpec_ok)))))
theorem good_ratchetlaw05_LexerSpaced : ∀ pt r, run_ratchetlaw05_LexerSpaced pt = some r → Good E Tryz.f4 code_ratchetlaw05_LexerSpaced 0 (res_ratchetlaw05_LexerSpaced.av r) (res_ratchetlaw05_LexerSpaced.bx r) (place_ratchetlaw05_LexerSpaced pt) (st_ratchetlaw05_LexerSpaced pt) := by
  refine run_ratchetlaw05_LexerSpaced.partial_correctness (fun pt r => Good E Tryz.f4 code_ratchetlaw05_LexerSpaced 0 (res_ratchetlaw05_LexerSpaced.av r) (res_ratchetlaw05_LexerSpaced.bx r) (place_ratchetlaw05_LexerSpaced pt) (st_ratchetlaw05_LexerSpaced pt)) ?_
  intro run' ih pt r hr
  cases pt <;> exact fn_step (spec := spec_ratchetlaw05_LexerSpaced) (wr := (fun i => mem i [])) (l := tab_ratchetlaw05_LexerSpaced) (z := 57) (p := res_ratchetlaw05_LexerSpaced) E_ok tab_ratchetlaw05_LexerSpaced_ok.mem rfl spec_ratchetlaw05_LexerSpaced_ok ih (Eq.trans (by kernel_rfl) hr)
noncomputable def con_ratchetlaw05_LexerSpaced : Con E := ⟨4, ((List api_LexerToken) × Unit), Unit, (RwL.cons (Rw.sl 33) RwL.nil), RdBL.nil, 0, R_ratchetlaw05_LexerSpaced, fun a b => run_ratchetlaw05_LexerSpaced (.start a.1), res_ratchetlaw05_LexerSpaced.av, res_ratchetlaw05_LexerSpaced.bx⟩
theorem con_ratchetlaw05_LexerSpaced_ok : con_ratchetlaw05_LexerSpaced.Ok := fun a b r h => fn_ok (fn := Tryz.f4) (code := code_ratchetlaw05_LexerSpaced) E_ok (by kernel_rfl) (by kernel_rfl) (by kernel_rfl) (Nat.le_of_ble_eq_true rfl) (good_ratchetlaw05_LexerSpaced (.start a.1) r h)

/-! ### ratchet/ratchetlaw05.LexerBack -/
inductive P_ratchetlaw05_LexerBack where
 | start (text0 : ByteArray)
 | p511 (B0 : (List api_LexerToken)) (B1 : (List api_LexerToken))
 | p16372 (at11 : Int) (i12 : Int) (B0 : (List api_LexerToken)) (B1 : (List api_LexerToken))
noncomputable def place_ratchetlaw05_LexerBack : P_ratchetlaw05_LexerBack → List Bool
 | .start .. => []
 | .p511 .. => [true, true, true, true, true, true, true, true]
 | .p16372 .. => [false, false, true, false, true, true, true, true, true, true, true, true, true]
noncomputable def st_ratchetlaw05_LexerBack : P_ratchetlaw05_LexerBack → St E.S
 | .start text0 => st0 77 [.v (.string text0)] []
 | .p511 B0 B1 => mkSt 77 [3, 8] [.rw 0, .rw 1] [.row 33 B0 true, .row 33 B1 true]
 | .p16372 at11 i12 B0 B1 => mkSt 77 [3, 8, 11, 12] [.rw 0, .rw 1, .v (.int .i64 at11), .v (.int .i64 i12)] [.row 33 B0 true, .row 33 B1 true]
abbrev R_ratchetlaw05_LexerBack : Type := ((Bool × Unit) × Unit)
noncomputable def res_ratchetlaw05_LexerBack : Res E (Bool × Unit) Unit := { rows := [], flat := [], keep := 0, rl := (RdL.cons Rd.bool RdL.nil), rb := RdBL.nil }
noncomputable def run_ratchetlaw05_LexerBack : P_ratchetlaw05_LexerBack → Option R_ratchetlaw05_LexerBack
 | .start text0 =>
   (some () : Option Unit) >>= fun t1 =>
   if (!true) = true then
     some ((false, ()), ())
   else
     if (decide ((text0.size : Int) > (400 : Int))) = true then
       some ((true, ()), ())
     else
       (run_lexer_Tokens (.start text0)) >>= fun t2 =>
       if (t2.1.2.2.1 != (0 : Int)) = true then
         some ((true, ()), ())
       else
         if (fits (List.length ([] : List api_LexerToken)) (List.length t2.2.1) 48) = true then
           (run_lexer_Spaced (.start (([] : List api_LexerToken) ++ t2.2.1))) >>= fun t3 =>
           (run_lexer_Tokens (.start t3.1.1)) >>= fun t4 =>
           if (t3.1.2.1 != (0 : Int)) = true then
             some ((false, ()), ())
           else
             if (t4.1.2.2.1 != (0 : Int)) = true then
               some ((false, ()), ())
             else
               if ((List.length t4.2.1 : Int) != (List.length t2.2.1 : Int)) = true then
                 some ((false, ()), ())
               else
                 run_ratchetlaw05_LexerBack (.p511 t2.2.1 t4.2.1)
         else none
 | .p511 B0 B1 =>
   run_ratchetlaw05_LexerBack (.p16372 (0 : Int) (0 : Int) B0 B1)
 | .p16372 at11 i12 B0 B1 =>
   if (decide (i12 < (List.length B0 : Int))) = true then
     if (decide ((0 : Int) ≤ i12) && decide (i12 < (List.length B0 : Int))) = true then
       (idx B0 i12) >>= fun t1 =>
       if (decide ((0 : Int) ≤ i12) && decide (i12 < (List.length B1 : Int))) = true then
         (idx B1 i12) >>= fun t2 =>
         if (!((t2.Kind == t1.Kind) && ((t2.At == at11) && ((seq t2.Text t1.Text) && ((t2.Value == t1.Value) && ((t2.Width == t1.Width) && true)))))) = true then
           some ((false, ()), ())
         else
           run_ratchetlaw05_LexerBack (.p16372 (IntKind.wrap .i64 ((IntKind.wrap .i64 (at11 + (t1.Text.size : Int))) + (1 : Int))) (IntKind.wrap .i64 (i12 + (1 : Int))) B0 B1)
       else none
     else none
   else
     some ((true, ()), ())
  partial_fixpoint
noncomputable def tab_ratchetlaw05_LexerBack : List (Plc E P_ratchetlaw05_LexerBack) := [⟨511, [true, true, true, true, true, true, true, true], { slots := [3, 8], rows := [], flat := [], keep := 0 }, (Unit × (Unit × Unit)), ((List api_LexerToken) × ((List api_LexerToken) × Unit)), (RdL.cons (Rd.rw 0) (RdL.cons (Rd.rw 1) RdL.nil)), (RdBL.cons (RdB.row 33 true) (RdBL.cons (RdB.row 33 true) RdBL.nil)), fun a b => .p511 b.1 b.2.1⟩,
  ⟨16372, [false, false, true, false, true, true, true, true, true, true, true, true, true], { slots := [3, 8, 11, 12], rows := [], flat := [], keep := 0 }, (Unit × (Unit × (Int × (Int × Unit)))), ((List api_LexerToken) × ((List api_LexerToken) × Unit)), (RdL.cons (Rd.rw 0) (RdL.cons (Rd.rw 1) (RdL.cons (Rd.int .i64) (RdL.cons (Rd.int .i64) RdL.nil)))), (RdBL.cons (RdB.row 33 true) (RdBL.cons (RdB.row 33 true) RdBL.nil)), fun a b => .p16372 a.2.2.1 a.2.2.2.1 b.1 b.2.1⟩]
theorem tab_ratchetlaw05_LexerBack_ok : All (PlcOk 77 0 place_ratchetlaw05_LexerBack st_ratchetlaw05_LexerBack) tab_ratchetlaw05_LexerBack := ⟨⟨rfl, rfl, fun _ _ => rfl, fun _ _ => rfl⟩, ⟨⟨rfl, rfl, fun _ _ => rfl, fun _ _ => rfl⟩, trivial⟩⟩
noncomputable def code_ratchetlaw05_LexerBack : Code := Tryz.f5.body.getD .skip
noncomputable def spec_ratchetlaw05_LexerBack : Spec E.S := (Con.add con_lexer_Spaced (Con.add con_lexer_Tokens (Con.add con_ratchetlaw05_awake noSpec)))
theorem spec_ratchetlaw05_LexerBack_ok : SpecOk E spec_ratchetlaw05_LexerBack := (Con.add_ok con_lexer_Spaced_ok (Con.add_ok con_lexer_Tokens_ok (Con.add_ok con_ratchetlaw05_awake_ok noSpec_ok)))
theorem good_ratchetlaw05_LexerBack : ∀ pt r, run_ratchetlaw05_LexerBack pt = some r → Good E Tryz.f5 code_ratchetlaw05_LexerBack 0 (res_ratchetlaw05_LexerBack.av r) (res_ratchetlaw05_LexerBack.bx r) (place_ratchetlaw05_LexerBack pt) (st_ratchetlaw05_LexerBack pt) := by
  refine run_ratchetlaw05_LexerBack.partial_correctness (fun pt r => Good E Tryz.f5 code_ratchetlaw05_LexerBack 0 (res_ratchetlaw05_LexerBack.av r) (res_ratchetlaw05_LexerBack.bx r) (place_ratchetlaw05_LexerBack pt) (st_ratchetlaw05_LexerBack pt)) ?_
  intro run' ih pt r hr
  cases pt <;> exact fn_step (spec := spec_ratchetlaw05_LexerBack) (wr := (fun i => mem i [])) (l := tab_ratchetlaw05_LexerBack) (z := 77) (p := res_ratchetlaw05_LexerBack) E_ok tab_ratchetlaw05_LexerBack_ok.mem rfl spec_ratchetlaw05_LexerBack_ok ih (Eq.trans (by kernel_rfl) hr)
noncomputable def con_ratchetlaw05_LexerBack : Con E := ⟨5, (ByteArray × Unit), Unit, (RwL.cons Rd.str.w RwL.nil), RdBL.nil, 0, R_ratchetlaw05_LexerBack, fun a b => run_ratchetlaw05_LexerBack (.start a.1), res_ratchetlaw05_LexerBack.av, res_ratchetlaw05_LexerBack.bx⟩
theorem con_ratchetlaw05_LexerBack_ok : con_ratchetlaw05_LexerBack.Ok := fun a b r h => fn_ok (fn := Tryz.f5) (code := code_ratchetlaw05_LexerBack) E_ok (by kernel_rfl) (by kernel_rfl) (by kernel_rfl) (Nat.le_of_ble_eq_true rfl) (good_ratchetlaw05_LexerBack (.start a.1) r h)

/-! ### internal/strconv.small -/
inductive P_internal_strconv_small where
 | start (i0 : Int)
noncomputable def place_internal_strconv_small : P_internal_strconv_small → List Bool
 | .start .. => []
noncomputable def st_internal_strconv_small : P_internal_strconv_small → St E.S
 | .start i0 => st0 15 [.v (.int .i64 i0)] []
abbrev R_internal_strconv_small : Type := ((ByteArray × Unit) × Unit)
noncomputable def res_internal_strconv_small : Res E (ByteArray × Unit) Unit := { rows := [], flat := [], keep := 0, rl := (RdL.cons Rd.str RdL.nil), rb := RdBL.nil }
noncomputable def run_internal_strconv_small : P_internal_strconv_small → Option R_internal_strconv_small
 | .start i0 =>
   if (decide (i0 < (10 : Int))) = true then
     (span (⟨#[48, 49, 50, 51, 52, 53, 54, 55, 56, 57, 97, 98, 99, 100, 101, 102, 103, 104, 105, 106, 107, 108, 109, 110, 111, 112, 113, 114, 115, 116, 117, 118, 119, 120, 121, 122]⟩ : ByteArray).size i0 (IntKind.wrap .i64 (i0 + (1 : Int)))) >>= fun t1 =>
     some (((⟨#[48, 49, 50, 51, 52, 53, 54, 55, 56, 57, 97, 98, 99, 100, 101, 102, 103, 104, 105, 106, 107, 108, 109, 110, 111, 112, 113, 114, 115, 116, 117, 118, 119, 120, 121, 122]⟩ : ByteArray).extract t1.1 t1.2, ()), ())
   else
     (span (⟨#[48, 48, 48, 49, 48, 50, 48, 51, 48, 52, 48, 53, 48, 54, 48, 55, 48, 56, 48, 57, 49, 48, 49, 49, 49, 50, 49, 51, 49, 52, 49, 53, 49, 54, 49, 55, 49, 56, 49, 57, 50, 48, 50, 49, 50, 50, 50, 51, 50, 52, 50, 53, 50, 54, 50, 55, 50, 56, 50, 57, 51, 48, 51, 49, 51, 50, 51, 51, 51, 52, 51, 53, 51, 54, 51, 55, 51, 56, 51, 57, 52, 48, 52, 49, 52, 50, 52, 51, 52, 52, 52, 53, 52, 54, 52, 55, 52, 56, 52, 57, 53, 48, 53, 49, 53, 50, 53, 51, 53, 52, 53, 53, 53, 54, 53, 55, 53, 56, 53, 57, 54, 48, 54, 49, 54, 50, 54, 51, 54, 52, 54, 53, 54, 54, 54, 55, 54, 56, 54, 57, 55, 48, 55, 49, 55, 50, 55, 51, 55, 52, 55, 53, 55, 54, 55, 55, 55, 56, 55, 57, 56, 48, 56, 49, 56, 50, 56, 51, 56, 52, 56, 53, 56, 54, 56, 55, 56, 56, 56, 57, 57, 48, 57, 49, 57, 50, 57, 51, 57, 52, 57, 53, 57, 54, 57, 55, 57, 56, 57, 57]⟩ : ByteArray).size (IntKind.wrap .i64 (i0 * (2 : Int))) (IntKind.wrap .i64 ((IntKind.wrap .i64 (i0 * (2 : Int))) + (2 : Int)))) >>= fun t2 =>
     some (((⟨#[48, 48, 48, 49, 48, 50, 48, 51, 48, 52, 48, 53, 48, 54, 48, 55, 48, 56, 48, 57, 49, 48, 49, 49, 49, 50, 49, 51, 49, 52, 49, 53, 49, 54, 49, 55, 49, 56, 49, 57, 50, 48, 50, 49, 50, 50, 50, 51, 50, 52, 50, 53, 50, 54, 50, 55, 50, 56, 50, 57, 51, 48, 51, 49, 51, 50, 51, 51, 51, 52, 51, 53, 51, 54, 51, 55, 51, 56, 51, 57, 52, 48, 52, 49, 52, 50, 52, 51, 52, 52, 52, 53, 52, 54, 52, 55, 52, 56, 52, 57, 53, 48, 53, 49, 53, 50, 53, 51, 53, 52, 53, 53, 53, 54, 53, 55, 53, 56, 53, 57, 54, 48, 54, 49, 54, 50, 54, 51, 54, 52, 54, 53, 54, 54, 54, 55, 54, 56, 54, 57, 55, 48, 55, 49, 55, 50, 55, 51, 55, 52, 55, 53, 55, 54, 55, 55, 55, 56, 55, 57, 56, 48, 56, 49, 56, 50, 56, 51, 56, 52, 56, 53, 56, 54, 56, 55, 56, 56, 56, 57, 57, 48, 57, 49, 57, 50, 57, 51, 57, 52, 57, 53, 57, 54, 57, 55, 57, 56, 57, 57]⟩ : ByteArray).extract t2.1 t2.2, ()), ())
noncomputable def tab_internal_strconv_small : List (Plc E P_internal_strconv_small) := []
theorem tab_internal_strconv_small_ok : All (PlcOk 15 0 place_internal_strconv_small st_internal_strconv_small) tab_internal_strconv_small := trivial
noncomputable def code_internal_strconv_small : Code := Tryz.f102.body.getD .skip
noncomputable def spec_internal_strconv_small : Spec E.S := noSpec
theorem spec_internal_strconv_small_ok : SpecOk E spec_internal_strconv_small := noSpec_ok
theorem good_internal_strconv_small : ∀ pt r, run_internal_strconv_small pt = some r → Good E Tryz.f102 code_internal_strconv_small 0 (res_internal_strconv_small.av r) (res_internal_strconv_small.bx r) (place_internal_strconv_small pt) (st_internal_strconv_small pt) := by
  intro pt r hr
  cases pt <;> exact fn_step (spec := spec_internal_strconv_small) (wr := (fun i => mem i [])) (l := tab_internal_strconv_small) (z := 15) (p := res_internal_strconv_small) (run' := fun _ => none) E_ok tab_internal_strconv_small_ok.mem rfl spec_internal_strconv_small_ok (fun _ _ h => by cases h) (Eq.trans (by kernel_rfl) hr)
noncomputable def con_internal_strconv_small : Con E := ⟨102, (Int × Unit), Unit, (RwL.cons (Rd.int .i64).w RwL.nil), RdBL.nil, 0, R_internal_strconv_small, fun a b => run_internal_strconv_small (.start a.1), res_internal_strconv_small.av, res_internal_strconv_small.bx⟩
theorem con_internal_strconv_small_ok : con_internal_strconv_small.Ok := fun a b r h => fn_ok (fn := Tryz.f102) (code := code_internal_strconv_small) E_ok (by kernel_rfl) (by kernel_rfl) (by kernel_rfl) (Nat.le_of_ble_eq_true rfl) (good_internal_strconv_small (.start a.1) r h)

/-! ### internal/strconv.isPowerOfTwo -/
inductive P_internal_strconv_isPowerOfTwo where
 | start (x0 : Int)
noncomputable def place_internal_strconv_isPowerOfTwo : P_internal_strconv_isPowerOfTwo → List Bool
 | .start .. => []
noncomputable def st_internal_strconv_isPowerOfTwo : P_internal_strconv_isPowerOfTwo → St E.S
 | .start x0 => st0 8 [.v (.int .i64 x0)] []
abbrev R_internal_strconv_isPowerOfTwo : Type := ((Bool × Unit) × Unit)
noncomputable def res_internal_strconv_isPowerOfTwo : Res E (Bool × Unit) Unit := { rows := [], flat := [], keep := 0, rl := (RdL.cons Rd.bool RdL.nil), rb := RdBL.nil }
noncomputable def run_internal_strconv_isPowerOfTwo : P_internal_strconv_isPowerOfTwo → Option R_internal_strconv_isPowerOfTwo
 | .start x0 =>
   some (((bits .and .i64 x0 (IntKind.wrap .i64 (x0 - (1 : Int)))) == (0 : Int), ()), ())
noncomputable def tab_internal_strconv_isPowerOfTwo : List (Plc E P_internal_strconv_isPowerOfTwo) := []
theorem tab_internal_strconv_isPowerOfTwo_ok : All (PlcOk 8 0 place_internal_strconv_isPowerOfTwo st_internal_strconv_isPowerOfTwo) tab_internal_strconv_isPowerOfTwo := trivial
noncomputable def code_internal_strconv_isPowerOfTwo : Code := Tryz.f129.body.getD .skip
noncomputable def spec_internal_strconv_isPowerOfTwo : Spec E.S := noSpec
theorem spec_internal_strconv_isPowerOfTwo_ok : SpecOk E spec_internal_strconv_isPowerOfTwo := noSpec_ok
theorem good_internal_strconv_isPowerOfTwo : ∀ pt r, run_internal_strconv_isPowerOfTwo pt = some r → Good E Tryz.f129 code_internal_strconv_isPowerOfTwo 0 (res_internal_strconv_isPowerOfTwo.av r) (res_internal_strconv_isPowerOfTwo.bx r) (place_internal_strconv_isPowerOfTwo pt) (st_internal_strconv_isPowerOfTwo pt) := by
  intro pt r hr
  cases pt <;> exact fn_step (spec := spec_internal_strconv_isPowerOfTwo) (wr := (fun i => mem i [])) (l := tab_internal_strconv_isPowerOfTwo) (z := 8) (p := res_internal_strconv_isPowerOfTwo) (run' := fun _ => none) E_ok tab_internal_strconv_isPowerOfTwo_ok.mem rfl spec_internal_strconv_isPowerOfTwo_ok (fun _ _ h => by cases h) (Eq.trans (by kernel_rfl) hr)
noncomputable def con_internal_strconv_isPowerOfTwo : Con E := ⟨129, (Int × Unit), Unit, (RwL.cons (Rd.int .i64).w RwL.nil), RdBL.nil, 0, R_internal_strconv_isPowerOfTwo, fun a b => run_internal_strconv_isPowerOfTwo (.start a.1), res_internal_strconv_isPowerOfTwo.av, res_internal_strconv_isPowerOfTwo.bx⟩
theorem con_internal_strconv_isPowerOfTwo_ok : con_internal_strconv_isPowerOfTwo.Ok := fun a b r h => fn_ok (fn := Tryz.f129) (code := code_internal_strconv_isPowerOfTwo) E_ok (by kernel_rfl) (by kernel_rfl) (by kernel_rfl) (Nat.le_of_ble_eq_true rfl) (good_internal_strconv_isPowerOfTwo (.start a.1) r h)

/-! ### math/bits.TrailingZeros64 -/
inductive P_math_bits_TrailingZeros64 where
 | start (x0 : Int)
noncomputable def place_math_bits_TrailingZeros64 : P_math_bits_TrailingZeros64 → List Bool
 | .start .. => []
noncomputable def st_math_bits_TrailingZeros64 : P_math_bits_TrailingZeros64 → St E.S
 | .start x0 => st0 14 [.v (.int .u64 x0)] []
abbrev R_math_bits_TrailingZeros64 : Type := ((Int × Unit) × Unit)
noncomputable def res_math_bits_TrailingZeros64 : Res E (Int × Unit) Unit := { rows := [], flat := [], keep := 0, rl := (RdL.cons (Rd.int .i64) RdL.nil), rb := RdBL.nil }
noncomputable def run_math_bits_TrailingZeros64 : P_math_bits_TrailingZeros64 → Option R_math_bits_TrailingZeros64
 | .start x0 =>
   if (x0 == (0 : Int)) = true then
     some (((64 : Int), ()), ())
   else
     if (decide ((0 : Int) ≤ (58 : Int))) = true then
       (idx glob7 (shr .u64 (IntKind.wrap .u64 ((bits .and .u64 x0 (IntKind.wrap .u64 (0 - x0))) * (285870213051353865 : Int))) (58 : Int))) >>= fun t1 =>
       some ((IntKind.wrap .i64 t1, ()), ())
     else none
noncomputable def tab_math_bits_TrailingZeros64 : List (Plc E P_math_bits_TrailingZeros64) := []
theorem tab_math_bits_TrailingZeros64_ok : All (PlcOk 14 0 place_math_bits_TrailingZeros64 st_math_bits_TrailingZeros64) tab_math_bits_TrailingZeros64 := trivial
noncomputable def code_math_bits_TrailingZeros64 : Code := Tryz.f138.body.getD .skip
noncomputable def spec_math_bits_TrailingZeros64 : Spec E.S := noSpec
theorem spec_math_bits_TrailingZeros64_ok : SpecOk E spec_math_bits_TrailingZeros64 := noSpec_ok
theorem good_math_bits_TrailingZeros64 : ∀ pt r, run_math_bits_TrailingZeros64 pt = some r → Good E Tryz.f138 code_math_bits_TrailingZeros64 0 (res_math_bits_TrailingZeros64.av r) (res_math_bits_TrailingZeros64.bx r) (place_math_bits_TrailingZeros64 pt) (st_math_bits_TrailingZeros64 pt) := by
  intro pt r hr
  cases pt <;> exact fn_step (spec := spec_math_bits_TrailingZeros64) (wr := (fun i => mem i [])) (l := tab_math_bits_TrailingZeros64) (z := 14) (p := res_math_bits_TrailingZeros64) (run' := fun _ => none) E_ok tab_math_bits_TrailingZeros64_ok.mem rfl spec_math_bits_TrailingZeros64_ok (fun _ _ h => by cases h) (Eq.trans (by kernel_rfl) hr)
noncomputable def con_math_bits_TrailingZeros64 : Con E := ⟨138, (Int × Unit), Unit, (RwL.cons (Rd.int .u64).w RwL.nil), RdBL.nil, 0, R_math_bits_TrailingZeros64, fun a b => run_math_bits_TrailingZeros64 (.start a.1), res_math_bits_TrailingZeros64.av, res_math_bits_TrailingZeros64.bx⟩
theorem con_math_bits_TrailingZeros64_ok : con_math_bits_TrailingZeros64.Ok := fun a b r h => fn_ok (fn := Tryz.f138) (code := code_math_bits_TrailingZeros64) E_ok (by kernel_rfl) (by kernel_rfl) (by kernel_rfl) (Nat.le_of_ble_eq_true rfl) (good_math_bits_TrailingZeros64 (.start a.1) r h)

/-! ### math/bits.TrailingZeros -/
inductive P_math_bits_TrailingZeros where
 | start (x0 : Int)
noncomputable def place_math_bits_TrailingZeros : P_math_bits_TrailingZeros → List Bool
 | .start .. => []
noncomputable def st_math_bits_TrailingZeros : P_math_bits_TrailingZeros → St E.S
 | .start x0 => st0 8 [.v (.int .u64 x0)] []
abbrev R_math_bits_TrailingZeros : Type := ((Int × Unit) × Unit)
noncomputable def res_math_bits_TrailingZeros : Res E (Int × Unit) Unit := { rows := [], flat := [], keep := 0, rl := (RdL.cons (Rd.int .i64) RdL.nil), rb := RdBL.nil }
noncomputable def run_math_bits_TrailingZeros : P_math_bits_TrailingZeros → Option R_math_bits_TrailingZeros
 | .start x0 =>
   (run_math_bits_TrailingZeros64 (.start x0)) >>= fun t1 =>
   some ((t1.1.1, ()), ())
noncomputable def tab_math_bits_TrailingZeros : List (Plc E P_math_bits_TrailingZeros) := []
theorem tab_math_bits_TrailingZeros_ok : All (PlcOk 8 0 place_math_bits_TrailingZeros st_math_bits_TrailingZeros) tab_math_bits_TrailingZeros := trivial
noncomputable def code_math_bits_TrailingZeros : Code := Tryz.f130.body.getD .skip
noncomputable def spec_math_bits_TrailingZeros : Spec E.S := (Con.add con_math_bits_TrailingZeros64 noSpec)
theorem spec_math_bits_TrailingZeros_ok : SpecOk E spec_math_bits_TrailingZeros := (Con.add_ok con_math_bits_TrailingZeros64_ok noSpec_ok)
theorem good_math_bits_TrailingZeros : ∀ pt r, run_math_bits_TrailingZeros pt = some r → Good E Tryz.f130 code_math_bits_TrailingZeros 0 (res_math_bits_TrailingZeros.av r) (res_math_bits_TrailingZeros.bx r) (place_math_bits_TrailingZeros pt) (st_math_bits_TrailingZeros pt) := by
  intro pt r hr
  cases pt <;> exact fn_step (spec := spec_math_bits_TrailingZeros) (wr := (fun i => mem i [])) (l := tab_math_bits_TrailingZeros) (z := 8) (p := res_math_bits_TrailingZeros) (run' := fun _ => none) E_ok tab_math_bits_TrailingZeros_ok.mem rfl spec_math_bits_TrailingZeros_ok (fun _ _ h => by cases h) (Eq.trans (by kernel_rfl) hr)
noncomputable def con_math_bits_TrailingZeros : Con E := ⟨130, (Int × Unit), Unit, (RwL.cons (Rd.int .u64).w RwL.nil), RdBL.nil, 0, R_math_bits_TrailingZeros, fun a b => run_math_bits_TrailingZeros (.start a.1), res_math_bits_TrailingZeros.av, res_math_bits_TrailingZeros.bx⟩
theorem con_math_bits_TrailingZeros_ok : con_math_bits_TrailingZeros.Ok := fun a b r h => fn_ok (fn := Tryz.f130) (code := code_math_bits_TrailingZeros) E_ok (by kernel_rfl) (by kernel_rfl) (by kernel_rfl) (Nat.le_of_ble_eq_true rfl) (good_math_bits_TrailingZeros (.start a.1) r h)

/-! ### internal/strconv.formatBits -/
inductive P_internal_strconv_formatBits where
 | start (dst0 : (List Int)) (u1 : Int) (base2 : Int) (neg3 : Bool) (append_4 : Bool)
 | p7 (dst0 : (List Int)) (u1 : Int) (base2 : Int) (neg3 : Bool) (append_4 : Bool) (s11 : ByteArray)
 | p63 (dst0 : (List Int)) (u1 : Int) (base2 : Int) (neg3 : Bool) (append_4 : Bool) (s11 : ByteArray) (i13 : Int) (B0 : (List Int))
 | p32440 (dst0 : (List Int)) (u1 : Int) (neg3 : Bool) (append_4 : Bool) (s11 : ByteArray) (i13 : Int) (shift14 : Int) (b15 : Int) (m16 : Int) (B0 : (List Int))
 | p127 (dst0 : (List Int)) (neg3 : Bool) (append_4 : Bool) (s11 : ByteArray) (i13 : Int) (B0 : (List Int))
 | p8120 (dst0 : (List Int)) (u1 : Int) (neg3 : Bool) (append_4 : Bool) (s11 : ByteArray) (i13 : Int) (b17 : Int) (B0 : (List Int))
 | p255 (dst0 : (List Int)) (append_4 : Bool) (s11 : ByteArray) (i13 : Int) (B0 : (List Int))
noncomputable def place_internal_strconv_formatBits : P_internal_strconv_formatBits → List Bool
 | .start .. => []
 | .p7 .. => [true, true]
 | .p63 .. => [true, true, true, true, true]
 | .p32440 .. => [false, false, false, true, true, true, false, true, false, true, true, true, true, true]
 | .p127 .. => [true, true, true, true, true, true]
 | .p8120 .. => [false, false, false, true, true, true, false, true, true, true, true, true]
 | .p255 .. => [true, true, true, true, true, true, true]
noncomputable def st_internal_strconv_formatBits : P_internal_strconv_formatBits → St E.S
 | .start dst0 u1 base2 neg3 append_4 => st0 102 [.sl 5 dst0 false, .v (.int .u64 u1), .v (.int .i64 base2), .v (.bool neg3), .v (.bool append_4)] []
 | .p7 dst0 u1 base2 neg3 append_4 s11 => mkSt 102 [0, 1, 2, 3, 4, 10, 11] [.sl 5 dst0 false, .v (.int .u64 u1), .v (.int .i64 base2), .v (.bool neg3), .v (.bool append_4), .nl, .v (.string s11)] []
 | .p63 dst0 u1 base2 neg3 append_4 s11 i13 B0 => mkSt 102 [0, 1, 2, 3, 4, 10, 11, 12, 13] [.sl 5 dst0 false, .v (.int .u64 u1), .v (.int .i64 base2), .v (.bool neg3), .v (.bool append_4), .nl, .v (.string s11), .rp 0 5 (0 : Int) 0, .v (.int .i64 i13)] [.row 5 B0 false]
 | .p32440 dst0 u1 neg3 append_4 s11 i13 shift14 b15 m16 B0 => mkSt 102 [0, 1, 3, 4, 10, 11, 12, 13, 14, 15, 16] [.sl 5 dst0 false, .v (.int .u64 u1), .v (.bool neg3), .v (.bool append_4), .nl, .v (.string s11), .rp 0 5 (0 : Int) 0, .v (.int .i64 i13), .v (.int .u64 shift14), .v (.int .u64 b15), .v (.int .u64 m16)] [.row 5 B0 false]
 | .p127 dst0 neg3 append_4 s11 i13 B0 => mkSt 102 [0, 3, 4, 10, 11, 12, 13] [.sl 5 dst0 false, .v (.bool neg3), .v (.bool append_4), .nl, .v (.string s11), .rp 0 5 (0 : Int) 0, .v (.int .i64 i13)] [.row 5 B0 false]
 | .p8120 dst0 u1 neg3 append_4 s11 i13 b17 B0 => mkSt 102 [0, 1, 3, 4, 10, 11, 12, 13, 17] [.sl 5 dst0 false, .v (.int .u64 u1), .v (.bool neg3), .v (.bool append_4), .nl, .v (.string s11), .rp 0 5 (0 : Int) 0, .v (.int .i64 i13), .v (.int .u64 b17)] [.row 5 B0 false]
 | .p255 dst0 append_4 s11 i13 B0 => mkSt 102 [0, 4, 10, 11, 12, 13] [.sl 5 dst0 false, .v (.bool append_4), .nl, .v (.string s11), .rp 0 5 (0 : Int) 0, .v (.int .i64 i13)] [.row 5 B0 false]
abbrev R_internal_strconv_formatBits : Type := ((Unit × (ByteArray × Unit)) × Unit)
noncomputable def res_internal_strconv_formatBits : Res E (Unit × (ByteArray × Unit)) Unit := { rows := [], flat := [], keep := 0, rl := (RdL.cons Rd.nl (RdL.cons Rd.str RdL.nil)), rb := RdBL.nil }
noncomputable def run_internal_strconv_formatBits : P_internal_strconv_formatBits → Option R_internal_strconv_formatBits
 | .start dst0 u1 base2 neg3 append_4 =>
   if (decide (base2 < (2 : Int))) = true then
     none
   else
     if (base2 == (10 : Int)) = true then
       none
     else
       if (decide (base2 > (36 : Int))) = true then
         none
       else
         run_internal_strconv_formatBits (.p7 dst0 u1 base2 neg3 append_4 (⟨#[]⟩ : ByteArray))
 | .p7 dst0 u1 base2 neg3 append_4 s11 =>
   if neg3 = true then
     run_internal_strconv_formatBits (.p63 dst0 (IntKind.wrap .u64 (0 - u1)) base2 neg3 append_4 s11 (65 : Int) (List.replicate 65 (0 : Int)))
   else
     run_internal_strconv_formatBits (.p63 dst0 u1 base2 neg3 append_4 s11 (65 : Int) (List.replicate 65 (0 : Int)))
 | .p63 dst0 u1 base2 neg3 append_4 s11 i13 B0 =>
   (run_internal_strconv_isPowerOfTwo (.start base2)) >>= fun t1 =>
   if t1.1.1 = true then
     (run_math_bits_TrailingZeros (.start (IntKind.wrap .u64 base2))) >>= fun t2 =>
     run_internal_strconv_formatBits (.p32440 dst0 u1 neg3 append_4 s11 i13 (IntKind.wrap .u64 t2.1.1) (IntKind.wrap .u64 base2) (IntKind.wrap .u64 ((IntKind.wrap .u64 base2) - (1 : Int))) B0)
   else
     run_internal_strconv_formatBits (.p8120 dst0 u1 neg3 append_4 s11 i13 (IntKind.wrap .u64 base2) B0)
 | .p32440 dst0 u1 neg3 append_4 s11 i13 shift14 b15 m16 B0 =>
   if (decide (u1 ≥ b15)) = true then
     (sidx (⟨#[48, 49, 50, 51, 52, 53, 54, 55, 56, 57, 97, 98, 99, 100, 101, 102, 103, 104, 105, 106, 107, 108, 109, 110, 111, 112, 113, 114, 115, 116, 117, 118, 119, 120, 121, 122]⟩ : ByteArray) (bits .and .u64 u1 m16)) >>= fun t1 =>
     if (decide ((0 : Int) ≤ (IntKind.wrap .i64 (i13 - (1 : Int)))) && decide ((IntKind.wrap .i64 (i13 - (1 : Int))) < (65 : Int))) = true then
       (idx B0 (IntKind.wrap .i64 (i13 - (1 : Int)))) >>= fun t2 =>
       if (decide ((0 : Int) ≤ shift14)) = true then
         run_internal_strconv_formatBits (.p32440 dst0 (shr .u64 u1 shift14) neg3 append_4 s11 (IntKind.wrap .i64 (i13 - (1 : Int))) shift14 b15 m16 (List.set B0 (Int.toNat (IntKind.wrap .i64 (i13 - (1 : Int)))) t1))
       else none
     else none
   else
     (sidx (⟨#[48, 49, 50, 51, 52, 53, 54, 55, 56, 57, 97, 98, 99, 100, 101, 102, 103, 104, 105, 106, 107, 108, 109, 110, 111, 112, 113, 114, 115, 116, 117, 118, 119, 120, 121, 122]⟩ : ByteArray) u1) >>= fun t3 =>
     if (decide ((0 : Int) ≤ (IntKind.wrap .i64 (i13 - (1 : Int)))) && decide ((IntKind.wrap .i64 (i13 - (1 : Int))) < (65 : Int))) = true then
       (idx B0 (IntKind.wrap .i64 (i13 - (1 : Int)))) >>= fun t4 =>
       run_internal_strconv_formatBits (.p127 dst0 neg3 append_4 s11 (IntKind.wrap .i64 (i13 - (1 : Int))) (List.set B0 (Int.toNat (IntKind.wrap .i64 (i13 - (1 : Int)))) t3))
     else none
 | .p127 dst0 neg3 append_4 s11 i13 B0 =>
   if neg3 = true then
     if (decide ((0 : Int) ≤ (IntKind.wrap .i64 (i13 - (1 : Int)))) && decide ((IntKind.wrap .i64 (i13 - (1 : Int))) < (65 : Int))) = true then
       (idx B0 (IntKind.wrap .i64 (i13 - (1 : Int)))) >>= fun t1 =>
       run_internal_strconv_formatBits (.p255 dst0 append_4 s11 (IntKind.wrap .i64 (i13 - (1 : Int))) (List.set B0 (Int.toNat (IntKind.wrap .i64 (i13 - (1 : Int)))) (45 : Int)))
     else none
   else
     run_internal_strconv_formatBits (.p255 dst0 append_4 s11 i13 B0)
 | .p8120 dst0 u1 neg3 append_4 s11 i13 b17 B0 =>
   if (decide (u1 ≥ b17)) = true then
     if (!(b17 == (0 : Int))) = true then
       (sidx (⟨#[48, 49, 50, 51, 52, 53, 54, 55, 56, 57, 97, 98, 99, 100, 101, 102, 103, 104, 105, 106, 107, 108, 109, 110, 111, 112, 113, 114, 115, 116, 117, 118, 119, 120, 121, 122]⟩ : ByteArray) (IntKind.wrap .u64 (u1 - (IntKind.wrap .u64 ((IntKind.wrap .u64 (Int.tdiv u1 b17)) * b17))))) >>= fun t1 =>
       if (decide ((0 : Int) ≤ (IntKind.wrap .i64 (i13 - (1 : Int)))) && decide ((IntKind.wrap .i64 (i13 - (1 : Int))) < (65 : Int))) = true then
         (idx B0 (IntKind.wrap .i64 (i13 - (1 : Int)))) >>= fun t2 =>
         run_internal_strconv_formatBits (.p8120 dst0 (IntKind.wrap .u64 (Int.tdiv u1 b17)) neg3 append_4 s11 (IntKind.wrap .i64 (i13 - (1 : Int))) b17 (List.set B0 (Int.toNat (IntKind.wrap .i64 (i13 - (1 : Int)))) t1))
       else none
     else none
   else
     (sidx (⟨#[48, 49, 50, 51, 52, 53, 54, 55, 56, 57, 97, 98, 99, 100, 101, 102, 103, 104, 105, 106, 107, 108, 109, 110, 111, 112, 113, 114, 115, 116, 117, 118, 119, 120, 121, 122]⟩ : ByteArray) u1) >>= fun t3 =>
     if (decide ((0 : Int) ≤ (IntKind.wrap .i64 (i13 - (1 : Int)))) && decide ((IntKind.wrap .i64 (i13 - (1 : Int))) < (65 : Int))) = true then
       (idx B0 (IntKind.wrap .i64 (i13 - (1 : Int)))) >>= fun t4 =>
       run_internal_strconv_formatBits (.p127 dst0 neg3 append_4 s11 (IntKind.wrap .i64 (i13 - (1 : Int))) (List.set B0 (Int.toNat (IntKind.wrap .i64 (i13 - (1 : Int)))) t3))
     else none
 | .p255 dst0 append_4 s11 i13 B0 =>
   if append_4 = true then
     (span 65 i13 (65 : Int)) >>= fun t1 =>
     none
   else
     (span 65 i13 (65 : Int)) >>= fun t2 =>
     if (Nat.ble t2.2 (List.length B0)) = true then
       some (((), (bytesStr (cut B0 t2), ())), ())
     else none
  partial_fixpoint
noncomputable def tab_internal_strconv_formatBits : List (Plc E P_internal_strconv_formatBits) := [⟨7, [true, true], { slots := [0, 1, 2, 3, 4, 10, 11], rows := [], flat := [], keep := 0 }, ((List Int) × (Int × (Int × (Bool × (Bool × (Unit × (ByteArray × Unit))))))), Unit, (RdL.cons (Rd.sl 5 false) (RdL.cons (Rd.int .u64) (RdL.cons (Rd.int .i64) (RdL.cons Rd.bool (RdL.cons Rd.bool (RdL.cons Rd.nl (RdL.cons Rd.str RdL.nil))))))), RdBL.nil, fun a b => .p7 a.1 a.2.1 a.2.2.1 a.2.2.2.1 a.2.2.2.2.1 a.2.2.2.2.2.2.1⟩,
  ⟨63, [true, true, true, true, true], { slots := [0, 1, 2, 3, 4, 10, 11, 12, 13], rows := [], flat := [], keep := 0 }, ((List Int) × (Int × (Int × (Bool × (Bool × (Unit × (ByteArray × (Unit × (Int × Unit))))))))), ((List Int) × Unit), (RdL.cons (Rd.sl 5 false) (RdL.cons (Rd.int .u64) (RdL.cons (Rd.int .i64) (RdL.cons Rd.bool (RdL.cons Rd.bool (RdL.cons Rd.nl (RdL.cons Rd.str (RdL.cons (Rd.rp0 0 5) (RdL.cons (Rd.int .i64) RdL.nil))))))))), (RdBL.cons (RdB.row 5 false) RdBL.nil), fun a b => .p63 a.1 a.2.1 a.2.2.1 a.2.2.2.1 a.2.2.2.2.1 a.2.2.2.2.2.2.1 a.2.2.2.2.2.2.2.2.1 b.1⟩,
  ⟨32440, [false, false, false, true, true, true, false, true, false, true, true, true, true, true], { slots := [0, 1, 3, 4, 10, 11, 12, 13, 14, 15, 16], rows := [], flat := [], keep := 0 }, ((List Int) × (Int × (Bool × (Bool × (Unit × (ByteArray × (Unit × (Int × (Int × (Int × (Int × Unit))))))))))), ((List Int) × Unit), (RdL.cons (Rd.sl 5 false) (RdL.cons (Rd.int .u64) (RdL.cons Rd.bool (RdL.cons Rd.bool (RdL.cons Rd.nl (RdL.cons Rd.str (RdL.cons (Rd.rp0 0 5) (RdL.cons (Rd.int .i64) (RdL.cons (Rd.int .u64) (RdL.cons (Rd.int .u64) (RdL.cons (Rd.int .u64) RdL.nil))))))))))), (RdBL.cons (RdB.row 5 false) RdBL.nil), fun a b => .p32440 a.1 a.2.1 a.2.2.1 a.2.2.2.1 a.2.2.2.2.2.1 a.2.2.2.2.2.2.2.1 a.2.2.2.2.2.2.2.2.1 a.2.2.2.2.2.2.2.2.2.1 a.2.2.2.2.2.2.2.2.2.2.1 b.1⟩,
  ⟨127, [true, true, true, true, true, true], { slots := [0, 3, 4, 10, 11, 12, 13], rows := [], flat := [], keep := 0 }, ((List Int) × (Bool × (Bool × (Unit × (ByteArray × (Unit × (Int × Unit))))))), ((List Int) × Unit), (RdL.cons (Rd.sl 5 false) (RdL.cons Rd.bool (RdL.cons Rd.bool (RdL.cons Rd.nl (RdL.cons Rd.str (RdL.cons (Rd.rp0 0 5) (RdL.cons (Rd.int .i64) RdL.nil))))))), (RdBL.cons (RdB.row 5 false) RdBL.nil), fun a b => .p127 a.1 a.2.1 a.2.2.1 a.2.2.2.2.1 a.2.2.2.2.2.2.1 b.1⟩,
  ⟨8120, [false, false, false, true, true, true, false, true, true, true, true, true], { slots := [0, 1, 3, 4, 10, 11, 12, 13, 17], rows := [], flat := [], keep := 0 }, ((List Int) × (Int × (Bool × (Bool × (Unit × (ByteArray × (Unit × (Int × (Int × Unit))))))))), ((List Int) × Unit), (RdL.cons (Rd.sl 5 false) (RdL.cons (Rd.int .u64) (RdL.cons Rd.bool (RdL.cons Rd.bool (RdL.cons Rd.nl (RdL.cons Rd.str (RdL.cons (Rd.rp0 0 5) (RdL.cons (Rd.int .i64) (RdL.cons (Rd.int .u64) RdL.nil))))))))), (RdBL.cons (RdB.row 5 false) RdBL.nil), fun a b => .p8120 a.1 a.2.1 a.2.2.1 a.2.2.2.1 a.2.2.2.2.2.1 a.2.2.2.2.2.2.2.1 a.2.2.2.2.2.2.2.2.1 b.1⟩,
  ⟨255, [true, true, true, true, true, true, true], { slots := [0, 4, 10, 11, 12, 13], rows := [], flat := [], keep := 0 }, ((List Int) × (Bool × (Unit × (ByteArray × (Unit × (Int × Unit)))))), ((List Int) × Unit), (RdL.cons (Rd.sl 5 false) (RdL.cons Rd.bool (RdL.cons Rd.nl (RdL.cons Rd.str (RdL.cons (Rd.rp0 0 5) (RdL.cons (Rd.int .i64) RdL.nil)))))), (RdBL.cons (RdB.row 5 false) RdBL.nil), fun a b => .p255 a.1 a.2.1 a.2.2.2.1 a.2.2.2.2.2.1 b.1⟩]
theorem tab_internal_strconv_formatBits_ok : All (PlcOk 102 0 place_internal_strconv_formatBits st_internal_strconv_formatBits) tab_internal_strconv_formatBits := ⟨⟨rfl, rfl, fun _ _ => rfl, fun _ _ => rfl⟩, ⟨⟨rfl, rfl, fun _ _ => rfl, fun _ _ => rfl⟩, ⟨⟨rfl, rfl, fun _ _ => rfl, fun _ _ => rfl⟩, ⟨⟨rfl, rfl, fun _ _ => rfl, fun _ _ => rfl⟩, ⟨⟨rfl, rfl, fun _ _ => rfl, fun _ _ => rfl⟩, ⟨⟨rfl, rfl, fun _ _ => rfl, fun _ _ => rfl⟩, trivial⟩⟩⟩⟩⟩⟩
noncomputable def code_internal_strconv_formatBits : Code := Tryz.f105.body.getD .skip
noncomputable def spec_internal_strconv_formatBits : Spec E.S := (Con.add con_math_bits_TrailingZeros (Con.add con_internal_strconv_isPowerOfTwo noSpec))
theorem spec_internal_strconv_formatBits_ok : SpecOk E spec_internal_strconv_formatBits := (Con.add_ok con_math_bits_TrailingZeros_ok (Con.add_ok con_internal_strconv_isPowerOfTwo_ok noSpec_ok))
theorem good_internal_strconv_formatBits : ∀ pt r, run_internal_strconv_formatBits pt = some r → Good E Tryz.f105 code_internal_strconv_formatBits 0 (res_internal_strconv_formatBits.av r) (res_internal_strconv_formatBits.bx r) (place_internal_strconv_formatBits pt) (st_internal_strconv_formatBits pt) := by
  refine run_internal_strconv_formatBits.partial_correctness (fun pt r => Good E Tryz.f105 code_internal_strconv_formatBits 0 (res_internal_strconv_formatBits.av r) (res_internal_strconv_formatBits.bx r) (place_internal_strconv_formatBits pt) (st_internal_strconv_formatBits pt)) ?_
  intro run' ih pt r hr
  cases pt <;> exact fn_step (spec := spec_internal_strconv_formatBits) (wr := (fun i => mem i [12, 97, 100])) (l := tab_internal_strconv_formatBits) (z := 102) (p := res_internal_strconv_formatBits) E_ok tab_internal_strconv_formatBits_ok.mem rfl spec_internal_strconv_formatBits_ok ih (Eq.trans (by kernel_rfl) hr)
noncomputable def con_internal_strconv_formatBits : Con E := ⟨105, ((List Int) × (Int × (Int × (Bool × (Bool × Unit))))), Unit, (RwL.cons (Rw.sl 5) (RwL.cons (Rd.int .u64).w (RwL.cons (Rd.int .i64).w (RwL.cons Rd.bool.w (RwL.cons Rd.bool.w RwL.nil))))), RdBL.nil, 0, R_internal_strconv_formatBits, fun a b => run_internal_strconv_formatBits (.start a.1 a.2.1 a.2.2.1 a.2.2.2.1 a.2.2.2.2.1), res_internal_strconv_formatBits.av, res_internal_strconv_formatBits.bx⟩
theorem con_internal_strconv_formatBits_ok : con_internal_strconv_formatBits.Ok := fun a b r h => fn_ok (fn := Tryz.f105) (code := code_internal_strconv_formatBits) E_ok (by kernel_rfl) (by kernel_rfl) (by kernel_rfl) (Nat.le_of_ble_eq_true rfl) (good_internal_strconv_formatBits (.start a.1 a.2.1 a.2.2.1 a.2.2.2.1 a.2.2.2.2.1) r h)

/-! ### math/bits.Len64 -/
inductive P_math_bits_Len64 where
 | start (x0 : Int)
 | p7 (x0 : Int) (n2 : Int)
 | p15 (x0 : Int) (n2 : Int)
 | p31 (x0 : Int) (n2 : Int)
noncomputable def place_math_bits_Len64 : P_math_bits_Len64 → List Bool
 | .start .. => []
 | .p7 .. => [true, true]
 | .p15 .. => [true, true, true]
 | .p31 .. => [true, true, true, true]
noncomputable def st_math_bits_Len64 : P_math_bits_Len64 → St E.S
 | .start x0 => st0 25 [.v (.int .u64 x0)] []
 | .p7 x0 n2 => mkSt 25 [0, 2] [.v (.int .u64 x0), .v (.int .i64 n2)] []
 | .p15 x0 n2 => mkSt 25 [0, 2] [.v (.int .u64 x0), .v (.int .i64 n2)] []
 | .p31 x0 n2 => mkSt 25 [0, 2] [.v (.int .u64 x0), .v (.int .i64 n2)] []
abbrev R_math_bits_Len64 : Type := ((Int × Unit) × Unit)
noncomputable def res_math_bits_Len64 : Res E (Int × Unit) Unit := { rows := [], flat := [], keep := 0, rl := (RdL.cons (Rd.int .i64) RdL.nil), rb := RdBL.nil }
noncomputable def run_math_bits_Len64 : P_math_bits_Len64 → Option R_math_bits_Len64
 | .start x0 =>
   if (decide (x0 ≥ (4294967296 : Int))) = true then
     if (decide ((0 : Int) ≤ (32 : Int))) = true then
       run_math_bits_Len64 (.p7 (shr .u64 x0 (32 : Int)) (32 : Int))
     else none
   else
     run_math_bits_Len64 (.p7 x0 (0 : Int))
 | .p7 x0 n2 =>
   if (decide (x0 ≥ (65536 : Int))) = true then
     if (decide ((0 : Int) ≤ (16 : Int))) = true then
       run_math_bits_Len64 (.p15 (shr .u64 x0 (16 : Int)) (IntKind.wrap .i64 (n2 + (16 : Int))))
     else none
   else
     run_math_bits_Len64 (.p15 x0 n2)
 | .p15 x0 n2 =>
   if (decide (x0 ≥ (256 : Int))) = true then
     if (decide ((0 : Int) ≤ (8 : Int))) = true then
       run_math_bits_Len64 (.p31 (shr .u64 x0 (8 : Int)) (IntKind.wrap .i64 (n2 + (8 : Int))))
     else none
   else
     run_math_bits_Len64 (.p31 x0 n2)
 | .p31 x0 n2 =>
   (sidx (⟨#[0, 1, 2, 2, 3, 3, 3, 3, 4, 4, 4, 4, 4, 4, 4, 4, 5, 5, 5, 5, 5, 5, 5, 5, 5, 5, 5, 5, 5, 5, 5, 5, 6, 6, 6, 6, 6, 6, 6, 6, 6, 6, 6, 6, 6, 6, 6, 6, 6, 6, 6, 6, 6, 6, 6, 6, 6, 6, 6, 6, 6, 6, 6, 6, 7, 7, 7, 7, 7, 7, 7, 7, 7, 7, 7, 7, 7, 7, 7, 7, 7, 7, 7, 7, 7, 7, 7, 7, 7, 7, 7, 7, 7, 7, 7, 7, 7, 7, 7, 7, 7, 7, 7, 7, 7, 7, 7, 7, 7, 7, 7, 7, 7, 7, 7, 7, 7, 7, 7, 7, 7, 7, 7, 7, 7, 7, 7, 7, 8, 8, 8, 8, 8, 8, 8, 8, 8, 8, 8, 8, 8, 8, 8, 8, 8, 8, 8, 8, 8, 8, 8, 8, 8, 8, 8, 8, 8, 8, 8, 8, 8, 8, 8, 8, 8, 8, 8, 8, 8, 8, 8, 8, 8, 8, 8, 8, 8, 8, 8, 8, 8, 8, 8, 8, 8, 8, 8, 8, 8, 8, 8, 8, 8, 8, 8, 8, 8, 8, 8, 8, 8, 8, 8, 8, 8, 8, 8, 8, 8, 8, 8, 8, 8, 8, 8, 8, 8, 8, 8, 8, 8, 8, 8, 8, 8, 8, 8, 8, 8, 8, 8, 8, 8, 8, 8, 8, 8, 8, 8, 8, 8, 8, 8, 8, 8, 8, 8, 8, 8, 8, 8, 8, 8, 8, 8, 8]⟩ : ByteArray) (IntKind.wrap .u8 x0)) >>= fun t1 =>
   some ((IntKind.wrap .i64 (n2 + (IntKind.wrap .i64 t1)), ()), ())
  partial_fixpoint
noncomputable def tab_math_bits_Len64 : List (Plc E P_math_bits_Len64) := [⟨7, [true, true], { slots := [0, 2], rows := [], flat := [], keep := 0 }, (Int × (Int × Unit)), Unit, (RdL.cons (Rd.int .u64) (RdL.cons (Rd.int .i64) RdL.nil)), RdBL.nil, fun a b => .p7 a.1 a.2.1⟩,
  ⟨15, [true, true, true], { slots := [0, 2], rows := [], flat := [], keep := 0 }, (Int × (Int × Unit)), Unit, (RdL.cons (Rd.int .u64) (RdL.cons (Rd.int .i64) RdL.nil)), RdBL.nil, fun a b => .p15 a.1 a.2.1⟩,
  ⟨31, [true, true, true, true], { slots := [0, 2], rows := [], flat := [], keep := 0 }, (Int × (Int × Unit)), Unit, (RdL.cons (Rd.int .u64) (RdL.cons (Rd.int .i64) RdL.nil)), RdBL.nil, fun a b => .p31 a.1 a.2.1⟩]
theorem tab_math_bits_Len64_ok : All (PlcOk 25 0 place_math_bits_Len64 st_math_bits_Len64) tab_math_bits_Len64 := ⟨⟨rfl, rfl, fun _ _ => rfl, fun _ _ => rfl⟩, ⟨⟨rfl, rfl, fun _ _ => rfl, fun _ _ => rfl⟩, ⟨⟨rfl, rfl, fun _ _ => rfl, fun _ _ => rfl⟩, trivial⟩⟩⟩
noncomputable def code_math_bits_Len64 : Code := Tryz.f127.body.getD .skip
noncomputable def spec_math_bits_Len64 : Spec E.S := noSpec
theorem spec_math_bits_Len64_ok : SpecOk E spec_math_bits_Len64 := noSpec_ok
theorem good_math_bits_Len64 : ∀ pt r, run_math_bits_Len64 pt = some r → Good E Tryz.f127 code_math_bits_Len64 0 (res_math_bits_Len64.av r) (res_math_bits_Len64.bx r) (place_math_bits_Len64 pt) (st_math_bits_Len64 pt) := by
  refine run_math_bits_Len64.partial_correctness (fun pt r => Good E Tryz.f127 code_math_bits_Len64 0 (res_math_bits_Len64.av r) (res_math_bits_Len64.bx r) (place_math_bits_Len64 pt) (st_math_bits_Len64 pt)) ?_
  intro run' ih pt r hr
  cases pt <;> exact fn_step (spec := spec_math_bits_Len64) (wr := (fun i => mem i [])) (l := tab_math_bits_Len64) (z := 25) (p := res_math_bits_Len64) E_ok tab_math_bits_Len64_ok.mem rfl spec_math_bits_Len64_ok ih (Eq.trans (by kernel_rfl) hr)
noncomputable def con_math_bits_Len64 : Con E := ⟨127, (Int × Unit), Unit, (RwL.cons (Rd.int .u64).w RwL.nil), RdBL.nil, 0, R_math_bits_Len64, fun a b => run_math_bits_Len64 (.start a.1), res_math_bits_Len64.av, res_math_bits_Len64.bx⟩
theorem con_math_bits_Len64_ok : con_math_bits_Len64.Ok := fun a b r h => fn_ok (fn := Tryz.f127) (code := code_math_bits_Len64) E_ok (by kernel_rfl) (by kernel_rfl) (by kernel_rfl) (Nat.le_of_ble_eq_true rfl) (good_math_bits_Len64 (.start a.1) r h)

/-! ### internal/strconv.log10Pow2 -/
inductive P_internal_strconv_log10Pow2 where
 | start (x0 : Int)
noncomputable def place_internal_strconv_log10Pow2 : P_internal_strconv_log10Pow2 → List Bool
 | .start .. => []
noncomputable def st_internal_strconv_log10Pow2 : P_internal_strconv_log10Pow2 → St E.S
 | .start x0 => st0 6 [.v (.int .i64 x0)] []
abbrev R_internal_strconv_log10Pow2 : Type := ((Int × Unit) × Unit)
noncomputable def res_internal_strconv_log10Pow2 : Res E (Int × Unit) Unit := { rows := [], flat := [], keep := 0, rl := (RdL.cons (Rd.int .i64) RdL.nil), rb := RdBL.nil }
noncomputable def run_internal_strconv_log10Pow2 : P_internal_strconv_log10Pow2 → Option R_internal_strconv_log10Pow2
 | .start x0 =>
   if (decide ((0 : Int) ≤ (18 : Int))) = true then
     some ((shr .i64 (IntKind.wrap .i64 (x0 * (78913 : Int))) (18 : Int), ()), ())
   else none
noncomputable def tab_internal_strconv_log10Pow2 : List (Plc E P_internal_strconv_log10Pow2) := []
theorem tab_internal_strconv_log10Pow2_ok : All (PlcOk 6 0 place_internal_strconv_log10Pow2 st_internal_strconv_log10Pow2) tab_internal_strconv_log10Pow2 := trivial
noncomputable def code_internal_strconv_log10Pow2 : Code := Tryz.f126.body.getD .skip
noncomputable def spec_internal_strconv_log10Pow2 : Spec E.S := noSpec
theorem spec_internal_strconv_log10Pow2_ok : SpecOk E spec_internal_strconv_log10Pow2 := noSpec_ok
theorem good_internal_strconv_log10Pow2 : ∀ pt r, run_internal_strconv_log10Pow2 pt = some r → Good E Tryz.f126 code_internal_strconv_log10Pow2 0 (res_internal_strconv_log10Pow2.av r) (res_internal_strconv_log10Pow2.bx r) (place_internal_strconv_log10Pow2 pt) (st_internal_strconv_log10Pow2 pt) := by
  intro pt r hr
  cases pt <;> exact fn_step (spec := spec_internal_strconv_log10Pow2) (wr := (fun i => mem i [])) (l := tab_internal_strconv_log10Pow2) (z := 6) (p := res_internal_strconv_log10Pow2) (run' := fun _ => none) E_ok tab_internal_strconv_log10Pow2_ok.mem rfl spec_internal_strconv_log10Pow2_ok (fun _ _ h => by cases h) (Eq.trans (by kernel_rfl) hr)
noncomputable def con_internal_strconv_log10Pow2 : Con E := ⟨126, (Int × Unit), Unit, (RwL.cons (Rd.int .i64).w RwL.nil), RdBL.nil, 0, R_internal_strconv_log10Pow2, fun a b => run_internal_strconv_log10Pow2 (.start a.1), res_internal_strconv_log10Pow2.av, res_internal_strconv_log10Pow2.bx⟩
theorem con_internal_strconv_log10Pow2_ok : con_internal_strconv_log10Pow2.Ok := fun a b r h => fn_ok (fn := Tryz.f126) (code := code_internal_strconv_log10Pow2) E_ok (by kernel_rfl) (by kernel_rfl) (by kernel_rfl) (Nat.le_of_ble_eq_true rfl) (good_internal_strconv_log10Pow2 (.start a.1) r h)

/-! ### internal/strconv.bool2[int] -/
inductive P_internal_strconv_bool2_int where
 | start (b0 : Bool)
noncomputable def place_internal_strconv_bool2_int : P_internal_strconv_bool2_int → List Bool
 | .start .. => []
noncomputable def st_internal_strconv_bool2_int : P_internal_strconv_bool2_int → St E.S
 | .start b0 => st0 4 [.v (.bool b0)] []
abbrev R_internal_strconv_bool2_int : Type := ((Int × Unit) × Unit)
noncomputable def res_internal_strconv_bool2_int : Res E (Int × Unit) Unit := { rows := [], flat := [], keep := 0, rl := (RdL.cons (Rd.int .i64) RdL.nil), rb := RdBL.nil }
noncomputable def run_internal_strconv_bool2_int : P_internal_strconv_bool2_int → Option R_internal_strconv_bool2_int
 | .start b0 =>
   if b0 = true then
     some (((1 : Int), ()), ())
   else
     some (((0 : Int), ()), ())
noncomputable def tab_internal_strconv_bool2_int : List (Plc E P_internal_strconv_bool2_int) := []
theorem tab_internal_strconv_bool2_int_ok : All (PlcOk 4 0 place_internal_strconv_bool2_int st_internal_strconv_bool2_int) tab_internal_strconv_bool2_int := trivial
noncomputable def code_internal_strconv_bool2_int : Code := Tryz.f128.body.getD .skip
noncomputable def spec_internal_strconv_bool2_int : Spec E.S := noSpec
theorem spec_internal_strconv_bool2_int_ok : SpecOk E spec_internal_strconv_bool2_int := noSpec_ok
theorem good_internal_strconv_bool2_int : ∀ pt r, run_internal_strconv_bool2_int pt = some r → Good E Tryz.f128 code_internal_strconv_bool2_int 0 (res_internal_strconv_bool2_int.av r) (res_internal_strconv_bool2_int.bx r) (place_internal_strconv_bool2_int pt) (st_internal_strconv_bool2_int pt) := by
  intro pt r hr
  cases pt <;> exact fn_step (spec := spec_internal_strconv_bool2_int) (wr := (fun i => mem i [])) (l := tab_internal_strconv_bool2_int) (z := 4) (p := res_internal_strconv_bool2_int) (run' := fun _ => none) E_ok tab_internal_strconv_bool2_int_ok.mem rfl spec_internal_strconv_bool2_int_ok (fun _ _ h => by cases h) (Eq.trans (by kernel_rfl) hr)
noncomputable def con_internal_strconv_bool2_int : Con E := ⟨128, (Bool × Unit), Unit, (RwL.cons Rd.bool.w RwL.nil), RdBL.nil, 0, R_internal_strconv_bool2_int, fun a b => run_internal_strconv_bool2_int (.start a.1), res_internal_strconv_bool2_int.av, res_internal_strconv_bool2_int.bx⟩
theorem con_internal_strconv_bool2_int_ok : con_internal_strconv_bool2_int.Ok := fun a b r h => fn_ok (fn := Tryz.f128) (code := code_internal_strconv_bool2_int) E_ok (by kernel_rfl) (by kernel_rfl) (by kernel_rfl) (Nat.le_of_ble_eq_true rfl) (good_internal_strconv_bool2_int (.start a.1) r h)

/-! ### internal/strconv.numDigits -/
inductive P_internal_strconv_numDigits where
 | start (d0 : Int)
noncomputable def place_internal_strconv_numDigits : P_internal_strconv_numDigits → List Bool
 | .start .. => []
noncomputable def st_internal_strconv_numDigits : P_internal_strconv_numDigits → St E.S
 | .start d0 => st0 15 [.v (.int .u64 d0)] []
abbrev R_internal_strconv_numDigits : Type := ((Int × Unit) × Unit)
noncomputable def res_internal_strconv_numDigits : Res E (Int × Unit) Unit := { rows := [], flat := [], keep := 0, rl := (RdL.cons (Rd.int .i64) RdL.nil), rb := RdBL.nil }
noncomputable def run_internal_strconv_numDigits : P_internal_strconv_numDigits → Option R_internal_strconv_numDigits
 | .start d0 =>
   (run_math_bits_Len64 (.start d0)) >>= fun t1 =>
   (run_internal_strconv_log10Pow2 (.start t1.1.1)) >>= fun t2 =>
   (idx glob1 t2.1.1) >>= fun t3 =>
   (run_internal_strconv_bool2_int (.start (decide (d0 ≥ t3)))) >>= fun t4 =>
   some ((IntKind.wrap .i64 (t2.1.1 + t4.1.1), ()), ())
noncomputable def tab_internal_strconv_numDigits : List (Plc E P_internal_strconv_numDigits) := []
theorem tab_internal_strconv_numDigits_ok : All (PlcOk 15 0 place_internal_strconv_numDigits st_internal_strconv_numDigits) tab_internal_strconv_numDigits := trivial
noncomputable def code_internal_strconv_numDigits : Code := Tryz.f103.body.getD .skip
noncomputable def spec_internal_strconv_numDigits : Spec E.S := (Con.add con_internal_strconv_bool2_int (Con.add con_internal_strconv_log10Pow2 (Con.add con_math_bits_Len64 noSpec)))
theorem spec_internal_strconv_numDigits_ok : SpecOk E spec_internal_strconv_numDigits := (Con.add_ok con_internal_strconv_bool2_int_ok (Con.add_ok con_internal_strconv_log10Pow2_ok (Con.add_ok con_math_bits_Len64_ok noSpec_ok)))
theorem good_internal_strconv_numDigits : ∀ pt r, run_internal_strconv_numDigits pt = some r → Good E Tryz.f103 code_internal_strconv_numDigits 0 (res_internal_strconv_numDigits.av r) (res_internal_strconv_numDigits.bx r) (place_internal_strconv_numDigits pt) (st_internal_strconv_numDigits pt) := by
  intro pt r hr
  cases pt <;> exact fn_step (spec := spec_internal_strconv_numDigits) (wr := (fun i => mem i [])) (l := tab_internal_strconv_numDigits) (z := 15) (p := res_internal_strconv_numDigits) (run' := fun _ => none) E_ok tab_internal_strconv_numDigits_ok.mem rfl spec_internal_strconv_numDigits_ok (fun _ _ h => by cases h) (Eq.trans (by kernel_rfl) hr)
noncomputable def con_internal_strconv_numDigits : Con E := ⟨103, (Int × Unit), Unit, (RwL.cons (Rd.int .u64).w RwL.nil), RdBL.nil, 0, R_internal_strconv_numDigits, fun a b => run_internal_strconv_numDigits (.start a.1), res_internal_strconv_numDigits.av, res_internal_strconv_numDigits.bx⟩
theorem con_internal_strconv_numDigits_ok : con_internal_strconv_numDigits.Ok := fun a b r h => fn_ok (fn := Tryz.f103) (code := code_internal_strconv_numDigits) E_ok (by kernel_rfl) (by kernel_rfl) (by kernel_rfl) (Nat.le_of_ble_eq_true rfl) (good_internal_strconv_numDigits (.start a.1) r h)

/-! ### internal/strconv.formatBase10 -/
inductive P_internal_strconv_formatBase10 where
 | start (a0 : (Nat × Nat)) (u1 : Int) (B0 : (List Int))
 | p24 (a0 : (Nat × Nat)) (u1 : Int) (nd4 : Int) (B0 : (List Int))
 | p31 (a0 : (Nat × Nat)) (nd4 : Int) (x12 : Int) (B0 : (List Int))
 | p63 (a0 : (Nat × Nat)) (nd4 : Int) (x12 : Int) (B0 : (List Int))
noncomputable def place_internal_strconv_formatBase10 : P_internal_strconv_formatBase10 → List Bool
 | .start .. => []
 | .p24 .. => [false, false, false, true]
 | .p31 .. => [true, true, true, true]
 | .p63 .. => [true, true, true, true, true]
noncomputable def st_internal_strconv_formatBase10 : P_internal_strconv_formatBase10 → St E.S
 | .start a0 u1 B0 => st0 167 [.ws 0 5 a0, .v (.int .u64 u1)] [.row 5 B0 false]
 | .p24 a0 u1 nd4 B0 => mkSt 167 [0, 1, 4] [.ws 0 5 a0, .v (.int .u64 u1), .v (.int .i64 nd4)] [.row 5 B0 false]
 | .p31 a0 nd4 x12 B0 => mkSt 167 [0, 4, 12] [.ws 0 5 a0, .v (.int .i64 nd4), .v (.int .u32 x12)] [.row 5 B0 false]
 | .p63 a0 nd4 x12 B0 => mkSt 167 [0, 4, 12] [.ws 0 5 a0, .v (.int .i64 nd4), .v (.int .u32 x12)] [.row 5 B0 false]
abbrev R_internal_strconv_formatBase10 : Type := (Unit × Unit)
noncomputable def res_internal_strconv_formatBase10 : Res E Unit Unit := { rows := [], flat := [], keep := 0, rl := RdL.nil, rb := RdBL.nil }
noncomputable def run_internal_strconv_formatBase10 : P_internal_strconv_formatBase10 → Option R_internal_strconv_formatBase10
 | .start a0 u1 B0 =>
   run_internal_strconv_formatBase10 (.p24 a0 u1 ((a0.2 - a0.1 : Nat) : Int) B0)
 | .p24 a0 u1 nd4 B0 =>
   if (decide (nd4 ≥ (8 : Int))) = true then
     if (!((100000000 : Int) == (0 : Int))) = true then
       if (!((100000000 : Int) == (0 : Int))) = true then
         if (!((10000 : Int) == (0 : Int))) = true then
           if (!((10000 : Int) == (0 : Int))) = true then
             if (!((100 : Int) == (0 : Int))) = true then
               if (!((100 : Int) == (0 : Int))) = true then
                 if (!((100 : Int) == (0 : Int))) = true then
                   if (!((100 : Int) == (0 : Int))) = true then
                     (sidx (⟨#[48, 48, 48, 49, 48, 50, 48, 51, 48, 52, 48, 53, 48, 54, 48, 55, 48, 56, 48, 57, 49, 48, 49, 49, 49, 50, 49, 51, 49, 52, 49, 53, 49, 54, 49, 55, 49, 56, 49, 57, 50, 48, 50, 49, 50, 50, 50, 51, 50, 52, 50, 53, 50, 54, 50, 55, 50, 56, 50, 57, 51, 48, 51, 49, 51, 50, 51, 51, 51, 52, 51, 53, 51, 54, 51, 55, 51, 56, 51, 57, 52, 48, 52, 49, 52, 50, 52, 51, 52, 52, 52, 53, 52, 54, 52, 55, 52, 56, 52, 57, 53, 48, 53, 49, 53, 50, 53, 51, 53, 52, 53, 53, 53, 54, 53, 55, 53, 56, 53, 57, 54, 48, 54, 49, 54, 50, 54, 51, 54, 52, 54, 53, 54, 54, 54, 55, 54, 56, 54, 57, 55, 48, 55, 49, 55, 50, 55, 51, 55, 52, 55, 53, 55, 54, 55, 55, 55, 56, 55, 57, 56, 48, 56, 49, 56, 50, 56, 51, 56, 52, 56, 53, 56, 54, 56, 55, 56, 56, 56, 57, 57, 48, 57, 49, 57, 50, 57, 51, 57, 52, 57, 53, 57, 54, 57, 55, 57, 56, 57, 57]⟩ : ByteArray) (IntKind.wrap .u32 ((IntKind.wrap .u32 ((Int.tmod (Int.tmod (IntKind.wrap .u32 (Int.tmod u1 (100000000 : Int))) (10000 : Int)) (100 : Int)) * (2 : Int))) + (1 : Int)))) >>= fun t1 =>
                     (sidx (⟨#[48, 48, 48, 49, 48, 50, 48, 51, 48, 52, 48, 53, 48, 54, 48, 55, 48, 56, 48, 57, 49, 48, 49, 49, 49, 50, 49, 51, 49, 52, 49, 53, 49, 54, 49, 55, 49, 56, 49, 57, 50, 48, 50, 49, 50, 50, 50, 51, 50, 52, 50, 53, 50, 54, 50, 55, 50, 56, 50, 57, 51, 48, 51, 49, 51, 50, 51, 51, 51, 52, 51, 53, 51, 54, 51, 55, 51, 56, 51, 57, 52, 48, 52, 49, 52, 50, 52, 51, 52, 52, 52, 53, 52, 54, 52, 55, 52, 56, 52, 57, 53, 48, 53, 49, 53, 50, 53, 51, 53, 52, 53, 53, 53, 54, 53, 55, 53, 56, 53, 57, 54, 48, 54, 49, 54, 50, 54, 51, 54, 52, 54, 53, 54, 54, 54, 55, 54, 56, 54, 57, 55, 48, 55, 49, 55, 50, 55, 51, 55, 52, 55, 53, 55, 54, 55, 55, 55, 56, 55, 57, 56, 48, 56, 49, 56, 50, 56, 51, 56, 52, 56, 53, 56, 54, 56, 55, 56, 56, 56, 57, 57, 48, 57, 49, 57, 50, 57, 51, 57, 52, 57, 53, 57, 54, 57, 55, 57, 56, 57, 57]⟩ : ByteArray) (IntKind.wrap .u32 ((Int.tmod (Int.tmod (IntKind.wrap .u32 (Int.tmod u1 (100000000 : Int))) (10000 : Int)) (100 : Int)) * (2 : Int)))) >>= fun t2 =>
                     if (decide ((0 : Int) ≤ (IntKind.wrap .i64 (nd4 - (1 : Int)))) && decide ((IntKind.wrap .i64 (nd4 - (1 : Int))) < ((a0.2 - a0.1 : Nat) : Int))) = true then
                       (idx B0 ((a0.1 : Int) + (IntKind.wrap .i64 (nd4 - (1 : Int))))) >>= fun t3 =>
                       if (decide ((0 : Int) ≤ (IntKind.wrap .i64 (nd4 - (2 : Int)))) && decide ((IntKind.wrap .i64 (nd4 - (2 : Int))) < ((a0.2 - a0.1 : Nat) : Int))) = true then
                         (idx (List.set B0 (Int.toNat ((a0.1 : Int) + (IntKind.wrap .i64 (nd4 - (1 : Int))))) t1) ((a0.1 : Int) + (IntKind.wrap .i64 (nd4 - (2 : Int))))) >>= fun t4 =>
                         (sidx (⟨#[48, 48, 48, 49, 48, 50, 48, 51, 48, 52, 48, 53, 48, 54, 48, 55, 48, 56, 48, 57, 49, 48, 49, 49, 49, 50, 49, 51, 49, 52, 49, 53, 49, 54, 49, 55, 49, 56, 49, 57, 50, 48, 50, 49, 50, 50, 50, 51, 50, 52, 50, 53, 50, 54, 50, 55, 50, 56, 50, 57, 51, 48, 51, 49, 51, 50, 51, 51, 51, 52, 51, 53, 51, 54, 51, 55, 51, 56, 51, 57, 52, 48, 52, 49, 52, 50, 52, 51, 52, 52, 52, 53, 52, 54, 52, 55, 52, 56, 52, 57, 53, 48, 53, 49, 53, 50, 53, 51, 53, 52, 53, 53, 53, 54, 53, 55, 53, 56, 53, 57, 54, 48, 54, 49, 54, 50, 54, 51, 54, 52, 54, 53, 54, 54, 54, 55, 54, 56, 54, 57, 55, 48, 55, 49, 55, 50, 55, 51, 55, 52, 55, 53, 55, 54, 55, 55, 55, 56, 55, 57, 56, 48, 56, 49, 56, 50, 56, 51, 56, 52, 56, 53, 56, 54, 56, 55, 56, 56, 56, 57, 57, 48, 57, 49, 57, 50, 57, 51, 57, 52, 57, 53, 57, 54, 57, 55, 57, 56, 57, 57]⟩ : ByteArray) (IntKind.wrap .u32 ((IntKind.wrap .u32 ((IntKind.wrap .u32 (Int.tdiv (Int.tmod (IntKind.wrap .u32 (Int.tmod u1 (100000000 : Int))) (10000 : Int)) (100 : Int))) * (2 : Int))) + (1 : Int)))) >>= fun t5 =>
                         (sidx (⟨#[48, 48, 48, 49, 48, 50, 48, 51, 48, 52, 48, 53, 48, 54, 48, 55, 48, 56, 48, 57, 49, 48, 49, 49, 49, 50, 49, 51, 49, 52, 49, 53, 49, 54, 49, 55, 49, 56, 49, 57, 50, 48, 50, 49, 50, 50, 50, 51, 50, 52, 50, 53, 50, 54, 50, 55, 50, 56, 50, 57, 51, 48, 51, 49, 51, 50, 51, 51, 51, 52, 51, 53, 51, 54, 51, 55, 51, 56, 51, 57, 52, 48, 52, 49, 52, 50, 52, 51, 52, 52, 52, 53, 52, 54, 52, 55, 52, 56, 52, 57, 53, 48, 53, 49, 53, 50, 53, 51, 53, 52, 53, 53, 53, 54, 53, 55, 53, 56, 53, 57, 54, 48, 54, 49, 54, 50, 54, 51, 54, 52, 54, 53, 54, 54, 54, 55, 54, 56, 54, 57, 55, 48, 55, 49, 55, 50, 55, 51, 55, 52, 55, 53, 55, 54, 55, 55, 55, 56, 55, 57, 56, 48, 56, 49, 56, 50, 56, 51, 56, 52, 56, 53, 56, 54, 56, 55, 56, 56, 56, 57, 57, 48, 57, 49, 57, 50, 57, 51, 57, 52, 57, 53, 57, 54, 57, 55, 57, 56, 57, 57]⟩ : ByteArray) (IntKind.wrap .u32 ((IntKind.wrap .u32 (Int.tdiv (Int.tmod (IntKind.wrap .u32 (Int.tmod u1 (100000000 : Int))) (10000 : Int)) (100 : Int))) * (2 : Int)))) >>= fun t6 =>
                         if (decide ((0 : Int) ≤ (IntKind.wrap .i64 (nd4 - (3 : Int)))) && decide ((IntKind.wrap .i64 (nd4 - (3 : Int))) < ((a0.2 - a0.1 : Nat) : Int))) = true then
                           (idx (List.set (List.set B0 (Int.toNat ((a0.1 : Int) + (IntKind.wrap .i64 (nd4 - (1 : Int))))) t1) (Int.toNat ((a0.1 : Int) + (IntKind.wrap .i64 (nd4 - (2 : Int))))) t2) ((a0.1 : Int) + (IntKind.wrap .i64 (nd4 - (3 : Int))))) >>= fun t7 =>
                           if (decide ((0 : Int) ≤ (IntKind.wrap .i64 (nd4 - (4 : Int)))) && decide ((IntKind.wrap .i64 (nd4 - (4 : Int))) < ((a0.2 - a0.1 : Nat) : Int))) = true then
                             (idx (List.set (List.set (List.set B0 (Int.toNat ((a0.1 : Int) + (IntKind.wrap .i64 (nd4 - (1 : Int))))) t1) (Int.toNat ((a0.1 : Int) + (IntKind.wrap .i64 (nd4 - (2 : Int))))) t2) (Int.toNat ((a0.1 : Int) + (IntKind.wrap .i64 (nd4 - (3 : Int))))) t5) ((a0.1 : Int) + (IntKind.wrap .i64 (nd4 - (4 : Int))))) >>= fun t8 =>
                             (sidx (⟨#[48, 48, 48, 49, 48, 50, 48, 51, 48, 52, 48, 53, 48, 54, 48, 55, 48, 56, 48, 57, 49, 48, 49, 49, 49, 50, 49, 51, 49, 52, 49, 53, 49, 54, 49, 55, 49, 56, 49, 57, 50, 48, 50, 49, 50, 50, 50, 51, 50, 52, 50, 53, 50, 54, 50, 55, 50, 56, 50, 57, 51, 48, 51, 49, 51, 50, 51, 51, 51, 52, 51, 53, 51, 54, 51, 55, 51, 56, 51, 57, 52, 48, 52, 49, 52, 50, 52, 51, 52, 52, 52, 53, 52, 54, 52, 55, 52, 56, 52, 57, 53, 48, 53, 49, 53, 50, 53, 51, 53, 52, 53, 53, 53, 54, 53, 55, 53, 56, 53, 57, 54, 48, 54, 49, 54, 50, 54, 51, 54, 52, 54, 53, 54, 54, 54, 55, 54, 56, 54, 57, 55, 48, 55, 49, 55, 50, 55, 51, 55, 52, 55, 53, 55, 54, 55, 55, 55, 56, 55, 57, 56, 48, 56, 49, 56, 50, 56, 51, 56, 52, 56, 53, 56, 54, 56, 55, 56, 56, 56, 57, 57, 48, 57, 49, 57, 50, 57, 51, 57, 52, 57, 53, 57, 54, 57, 55, 57, 56, 57, 57]⟩ : ByteArray) (IntKind.wrap .u32 ((IntKind.wrap .u32 ((Int.tmod (IntKind.wrap .u32 (Int.tdiv (IntKind.wrap .u32 (Int.tmod u1 (100000000 : Int))) (10000 : Int))) (100 : Int)) * (2 : Int))) + (1 : Int)))) >>= fun t9 =>
                             (sidx (⟨#[48, 48, 48, 49, 48, 50, 48, 51, 48, 52, 48, 53, 48, 54, 48, 55, 48, 56, 48, 57, 49, 48, 49, 49, 49, 50, 49, 51, 49, 52, 49, 53, 49, 54, 49, 55, 49, 56, 49, 57, 50, 48, 50, 49, 50, 50, 50, 51, 50, 52, 50, 53, 50, 54, 50, 55, 50, 56, 50, 57, 51, 48, 51, 49, 51, 50, 51, 51, 51, 52, 51, 53, 51, 54, 51, 55, 51, 56, 51, 57, 52, 48, 52, 49, 52, 50, 52, 51, 52, 52, 52, 53, 52, 54, 52, 55, 52, 56, 52, 57, 53, 48, 53, 49, 53, 50, 53, 51, 53, 52, 53, 53, 53, 54, 53, 55, 53, 56, 53, 57, 54, 48, 54, 49, 54, 50, 54, 51, 54, 52, 54, 53, 54, 54, 54, 55, 54, 56, 54, 57, 55, 48, 55, 49, 55, 50, 55, 51, 55, 52, 55, 53, 55, 54, 55, 55, 55, 56, 55, 57, 56, 48, 56, 49, 56, 50, 56, 51, 56, 52, 56, 53, 56, 54, 56, 55, 56, 56, 56, 57, 57, 48, 57, 49, 57, 50, 57, 51, 57, 52, 57, 53, 57, 54, 57, 55, 57, 56, 57, 57]⟩ : ByteArray) (IntKind.wrap .u32 ((Int.tmod (IntKind.wrap .u32 (Int.tdiv (IntKind.wrap .u32 (Int.tmod u1 (100000000 : Int))) (10000 : Int))) (100 : Int)) * (2 : Int)))) >>= fun t10 =>
                             if (decide ((0 : Int) ≤ (IntKind.wrap .i64 (nd4 - (5 : Int)))) && decide ((IntKind.wrap .i64 (nd4 - (5 : Int))) < ((a0.2 - a0.1 : Nat) : Int))) = true then
                               (idx (List.set (List.set (List.set (List.set B0 (Int.toNat ((a0.1 : Int) + (IntKind.wrap .i64 (nd4 - (1 : Int))))) t1) (Int.toNat ((a0.1 : Int) + (IntKind.wrap .i64 (nd4 - (2 : Int))))) t2) (Int.toNat ((a0.1 : Int) + (IntKind.wrap .i64 (nd4 - (3 : Int))))) t5) (Int.toNat ((a0.1 : Int) + (IntKind.wrap .i64 (nd4 - (4 : Int))))) t6) ((a0.1 : Int) + (IntKind.wrap .i64 (nd4 - (5 : Int))))) >>= fun t11 =>
                               if (decide ((0 : Int) ≤ (IntKind.wrap .i64 (nd4 - (6 : Int)))) && decide ((IntKind.wrap .i64 (nd4 - (6 : Int))) < ((a0.2 - a0.1 : Nat) : Int))) = true then
                                 (idx (List.set (List.set (List.set (List.set (List.set B0 (Int.toNat ((a0.1 : Int) + (IntKind.wrap .i64 (nd4 - (1 : Int))))) t1) (Int.toNat ((a0.1 : Int) + (IntKind.wrap .i64 (nd4 - (2 : Int))))) t2) (Int.toNat ((a0.1 : Int) + (IntKind.wrap .i64 (nd4 - (3 : Int))))) t5) (Int.toNat ((a0.1 : Int) + (IntKind.wrap .i64 (nd4 - (4 : Int))))) t6) (Int.toNat ((a0.1 : Int) + (IntKind.wrap .i64 (nd4 - (5 : Int))))) t9) ((a0.1 : Int) + (IntKind.wrap .i64 (nd4 - (6 : Int))))) >>= fun t12 =>
                                 (sidx (⟨#[48, 48, 48, 49, 48, 50, 48, 51, 48, 52, 48, 53, 48, 54, 48, 55, 48, 56, 48, 57, 49, 48, 49, 49, 49, 50, 49, 51, 49, 52, 49, 53, 49, 54, 49, 55, 49, 56, 49, 57, 50, 48, 50, 49, 50, 50, 50, 51, 50, 52, 50, 53, 50, 54, 50, 55, 50, 56, 50, 57, 51, 48, 51, 49, 51, 50, 51, 51, 51, 52, 51, 53, 51, 54, 51, 55, 51, 56, 51, 57, 52, 48, 52, 49, 52, 50, 52, 51, 52, 52, 52, 53, 52, 54, 52, 55, 52, 56, 52, 57, 53, 48, 53, 49, 53, 50, 53, 51, 53, 52, 53, 53, 53, 54, 53, 55, 53, 56, 53, 57, 54, 48, 54, 49, 54, 50, 54, 51, 54, 52, 54, 53, 54, 54, 54, 55, 54, 56, 54, 57, 55, 48, 55, 49, 55, 50, 55, 51, 55, 52, 55, 53, 55, 54, 55, 55, 55, 56, 55, 57, 56, 48, 56, 49, 56, 50, 56, 51, 56, 52, 56, 53, 56, 54, 56, 55, 56, 56, 56, 57, 57, 48, 57, 49, 57, 50, 57, 51, 57, 52, 57, 53, 57, 54, 57, 55, 57, 56, 57, 57]⟩ : ByteArray) (IntKind.wrap .u32 ((IntKind.wrap .u32 ((IntKind.wrap .u32 (Int.tdiv (IntKind.wrap .u32 (Int.tdiv (IntKind.wrap .u32 (Int.tmod u1 (100000000 : Int))) (10000 : Int))) (100 : Int))) * (2 : Int))) + (1 : Int)))) >>= fun t13 =>
                                 (sidx (⟨#[48, 48, 48, 49, 48, 50, 48, 51, 48, 52, 48, 53, 48, 54, 48, 55, 48, 56, 48, 57, 49, 48, 49, 49, 49, 50, 49, 51, 49, 52, 49, 53, 49, 54, 49, 55, 49, 56, 49, 57, 50, 48, 50, 49, 50, 50, 50, 51, 50, 52, 50, 53, 50, 54, 50, 55, 50, 56, 50, 57, 51, 48, 51, 49, 51, 50, 51, 51, 51, 52, 51, 53, 51, 54, 51, 55, 51, 56, 51, 57, 52, 48, 52, 49, 52, 50, 52, 51, 52, 52, 52, 53, 52, 54, 52, 55, 52, 56, 52, 57, 53, 48, 53, 49, 53, 50, 53, 51, 53, 52, 53, 53, 53, 54, 53, 55, 53, 56, 53, 57, 54, 48, 54, 49, 54, 50, 54, 51, 54, 52, 54, 53, 54, 54, 54, 55, 54, 56, 54, 57, 55, 48, 55, 49, 55, 50, 55, 51, 55, 52, 55, 53, 55, 54, 55, 55, 55, 56, 55, 57, 56, 48, 56, 49, 56, 50, 56, 51, 56, 52, 56, 53, 56, 54, 56, 55, 56, 56, 56, 57, 57, 48, 57, 49, 57, 50, 57, 51, 57, 52, 57, 53, 57, 54, 57, 55, 57, 56, 57, 57]⟩ : ByteArray) (IntKind.wrap .u32 ((IntKind.wrap .u32 (Int.tdiv (IntKind.wrap .u32 (Int.tdiv (IntKind.wrap .u32 (Int.tmod u1 (100000000 : Int))) (10000 : Int))) (100 : Int))) * (2 : Int)))) >>= fun t14 =>
                                 if (decide ((0 : Int) ≤ (IntKind.wrap .i64 (nd4 - (7 : Int)))) && decide ((IntKind.wrap .i64 (nd4 - (7 : Int))) < ((a0.2 - a0.1 : Nat) : Int))) = true then
                                   (idx (List.set (List.set (List.set (List.set (List.set (List.set B0 (Int.toNat ((a0.1 : Int) + (IntKind.wrap .i64 (nd4 - (1 : Int))))) t1) (Int.toNat ((a0.1 : Int) + (IntKind.wrap .i64 (nd4 - (2 : Int))))) t2) (Int.toNat ((a0.1 : Int) + (IntKind.wrap .i64 (nd4 - (3 : Int))))) t5) (Int.toNat ((a0.1 : Int) + (IntKind.wrap .i64 (nd4 - (4 : Int))))) t6) (Int.toNat ((a0.1 : Int) + (IntKind.wrap .i64 (nd4 - (5 : Int))))) t9) (Int.toNat ((a0.1 : Int) + (IntKind.wrap .i64 (nd4 - (6 : Int))))) t10) ((a0.1 : Int) + (IntKind.wrap .i64 (nd4 - (7 : Int))))) >>= fun t15 =>
                                   if (decide ((0 : Int) ≤ (IntKind.wrap .i64 (nd4 - (8 : Int)))) && decide ((IntKind.wrap .i64 (nd4 - (8 : Int))) < ((a0.2 - a0.1 : Nat) : Int))) = true then
                                     (idx (List.set (List.set (List.set (List.set (List.set (List.set (List.set B0 (Int.toNat ((a0.1 : Int) + (IntKind.wrap .i64 (nd4 - (1 : Int))))) t1) (Int.toNat ((a0.1 : Int) + (IntKind.wrap .i64 (nd4 - (2 : Int))))) t2) (Int.toNat ((a0.1 : Int) + (IntKind.wrap .i64 (nd4 - (3 : Int))))) t5) (Int.toNat ((a0.1 : Int) + (IntKind.wrap .i64 (nd4 - (4 : Int))))) t6) (Int.toNat ((a0.1 : Int) + (IntKind.wrap .i64 (nd4 - (5 : Int))))) t9) (Int.toNat ((a0.1 : Int) + (IntKind.wrap .i64 (nd4 - (6 : Int))))) t10) (Int.toNat ((a0.1 : Int) + (IntKind.wrap .i64 (nd4 - (7 : Int))))) t13) ((a0.1 : Int) + (IntKind.wrap .i64 (nd4 - (8 : Int))))) >>= fun t16 =>
                                     run_internal_strconv_formatBase10 (.p24 a0 (IntKind.wrap .u64 (Int.tdiv u1 (100000000 : Int))) (IntKind.wrap .i64 (nd4 - (8 : Int))) (List.set (List.set (List.set (List.set (List.set (List.set (List.set (List.set B0 (Int.toNat ((a0.1 : Int) + (IntKind.wrap .i64 (nd4 - (1 : Int))))) t1) (Int.toNat ((a0.1 : Int) + (IntKind.wrap .i64 (nd4 - (2 : Int))))) t2) (Int.toNat ((a0.1 : Int) + (IntKind.wrap .i64 (nd4 - (3 : Int))))) t5) (Int.toNat ((a0.1 : Int) + (IntKind.wrap .i64 (nd4 - (4 : Int))))) t6) (Int.toNat ((a0.1 : Int) + (IntKind.wrap .i64 (nd4 - (5 : Int))))) t9) (Int.toNat ((a0.1 : Int) + (IntKind.wrap .i64 (nd4 - (6 : Int))))) t10) (Int.toNat ((a0.1 : Int) + (IntKind.wrap .i64 (nd4 - (7 : Int))))) t13) (Int.toNat ((a0.1 : Int) + (IntKind.wrap .i64 (nd4 - (8 : Int))))) t14))
                                   else none
                                 else none
                               else none
                             else none
                           else none
                         else none
                       else none
                     else none
                   else none
                 else none
               else none
             else none
           else none
         else none
       else none
     else none
   else
     if (decide (nd4 ≥ (4 : Int))) = true then
       if (!((10000 : Int) == (0 : Int))) = true then
         if (!((10000 : Int) == (0 : Int))) = true then
           if (!((100 : Int) == (0 : Int))) = true then
             if (!((100 : Int) == (0 : Int))) = true then
               (sidx (⟨#[48, 48, 48, 49, 48, 50, 48, 51, 48, 52, 48, 53, 48, 54, 48, 55, 48, 56, 48, 57, 49, 48, 49, 49, 49, 50, 49, 51, 49, 52, 49, 53, 49, 54, 49, 55, 49, 56, 49, 57, 50, 48, 50, 49, 50, 50, 50, 51, 50, 52, 50, 53, 50, 54, 50, 55, 50, 56, 50, 57, 51, 48, 51, 49, 51, 50, 51, 51, 51, 52, 51, 53, 51, 54, 51, 55, 51, 56, 51, 57, 52, 48, 52, 49, 52, 50, 52, 51, 52, 52, 52, 53, 52, 54, 52, 55, 52, 56, 52, 57, 53, 48, 53, 49, 53, 50, 53, 51, 53, 52, 53, 53, 53, 54, 53, 55, 53, 56, 53, 57, 54, 48, 54, 49, 54, 50, 54, 51, 54, 52, 54, 53, 54, 54, 54, 55, 54, 56, 54, 57, 55, 48, 55, 49, 55, 50, 55, 51, 55, 52, 55, 53, 55, 54, 55, 55, 55, 56, 55, 57, 56, 48, 56, 49, 56, 50, 56, 51, 56, 52, 56, 53, 56, 54, 56, 55, 56, 56, 56, 57, 57, 48, 57, 49, 57, 50, 57, 51, 57, 52, 57, 53, 57, 54, 57, 55, 57, 56, 57, 57]⟩ : ByteArray) (IntKind.wrap .u32 ((IntKind.wrap .u32 ((Int.tmod (Int.tmod (IntKind.wrap .u32 u1) (10000 : Int)) (100 : Int)) * (2 : Int))) + (1 : Int)))) >>= fun t17 =>
               (sidx (⟨#[48, 48, 48, 49, 48, 50, 48, 51, 48, 52, 48, 53, 48, 54, 48, 55, 48, 56, 48, 57, 49, 48, 49, 49, 49, 50, 49, 51, 49, 52, 49, 53, 49, 54, 49, 55, 49, 56, 49, 57, 50, 48, 50, 49, 50, 50, 50, 51, 50, 52, 50, 53, 50, 54, 50, 55, 50, 56, 50, 57, 51, 48, 51, 49, 51, 50, 51, 51, 51, 52, 51, 53, 51, 54, 51, 55, 51, 56, 51, 57, 52, 48, 52, 49, 52, 50, 52, 51, 52, 52, 52, 53, 52, 54, 52, 55, 52, 56, 52, 57, 53, 48, 53, 49, 53, 50, 53, 51, 53, 52, 53, 53, 53, 54, 53, 55, 53, 56, 53, 57, 54, 48, 54, 49, 54, 50, 54, 51, 54, 52, 54, 53, 54, 54, 54, 55, 54, 56, 54, 57, 55, 48, 55, 49, 55, 50, 55, 51, 55, 52, 55, 53, 55, 54, 55, 55, 55, 56, 55, 57, 56, 48, 56, 49, 56, 50, 56, 51, 56, 52, 56, 53, 56, 54, 56, 55, 56, 56, 56, 57, 57, 48, 57, 49, 57, 50, 57, 51, 57, 52, 57, 53, 57, 54, 57, 55, 57, 56, 57, 57]⟩ : ByteArray) (IntKind.wrap .u32 ((Int.tmod (Int.tmod (IntKind.wrap .u32 u1) (10000 : Int)) (100 : Int)) * (2 : Int)))) >>= fun t18 =>
               if (decide ((0 : Int) ≤ (IntKind.wrap .i64 (nd4 - (1 : Int)))) && decide ((IntKind.wrap .i64 (nd4 - (1 : Int))) < ((a0.2 - a0.1 : Nat) : Int))) = true then
                 (idx B0 ((a0.1 : Int) + (IntKind.wrap .i64 (nd4 - (1 : Int))))) >>= fun t19 =>
                 if (decide ((0 : Int) ≤ (IntKind.wrap .i64 (nd4 - (2 : Int)))) && decide ((IntKind.wrap .i64 (nd4 - (2 : Int))) < ((a0.2 - a0.1 : Nat) : Int))) = true then
                   (idx (List.set B0 (Int.toNat ((a0.1 : Int) + (IntKind.wrap .i64 (nd4 - (1 : Int))))) t17) ((a0.1 : Int) + (IntKind.wrap .i64 (nd4 - (2 : Int))))) >>= fun t20 =>
                   (sidx (⟨#[48, 48, 48, 49, 48, 50, 48, 51, 48, 52, 48, 53, 48, 54, 48, 55, 48, 56, 48, 57, 49, 48, 49, 49, 49, 50, 49, 51, 49, 52, 49, 53, 49, 54, 49, 55, 49, 56, 49, 57, 50, 48, 50, 49, 50, 50, 50, 51, 50, 52, 50, 53, 50, 54, 50, 55, 50, 56, 50, 57, 51, 48, 51, 49, 51, 50, 51, 51, 51, 52, 51, 53, 51, 54, 51, 55, 51, 56, 51, 57, 52, 48, 52, 49, 52, 50, 52, 51, 52, 52, 52, 53, 52, 54, 52, 55, 52, 56, 52, 57, 53, 48, 53, 49, 53, 50, 53, 51, 53, 52, 53, 53, 53, 54, 53, 55, 53, 56, 53, 57, 54, 48, 54, 49, 54, 50, 54, 51, 54, 52, 54, 53, 54, 54, 54, 55, 54, 56, 54, 57, 55, 48, 55, 49, 55, 50, 55, 51, 55, 52, 55, 53, 55, 54, 55, 55, 55, 56, 55, 57, 56, 48, 56, 49, 56, 50, 56, 51, 56, 52, 56, 53, 56, 54, 56, 55, 56, 56, 56, 57, 57, 48, 57, 49, 57, 50, 57, 51, 57, 52, 57, 53, 57, 54, 57, 55, 57, 56, 57, 57]⟩ : ByteArray) (IntKind.wrap .u32 ((IntKind.wrap .u32 ((IntKind.wrap .u32 (Int.tdiv (Int.tmod (IntKind.wrap .u32 u1) (10000 : Int)) (100 : Int))) * (2 : Int))) + (1 : Int)))) >>= fun t21 =>
                   (sidx (⟨#[48, 48, 48, 49, 48, 50, 48, 51, 48, 52, 48, 53, 48, 54, 48, 55, 48, 56, 48, 57, 49, 48, 49, 49, 49, 50, 49, 51, 49, 52, 49, 53, 49, 54, 49, 55, 49, 56, 49, 57, 50, 48, 50, 49, 50, 50, 50, 51, 50, 52, 50, 53, 50, 54, 50, 55, 50, 56, 50, 57, 51, 48, 51, 49, 51, 50, 51, 51, 51, 52, 51, 53, 51, 54, 51, 55, 51, 56, 51, 57, 52, 48, 52, 49, 52, 50, 52, 51, 52, 52, 52, 53, 52, 54, 52, 55, 52, 56, 52, 57, 53, 48, 53, 49, 53, 50, 53, 51, 53, 52, 53, 53, 53, 54, 53, 55, 53, 56, 53, 57, 54, 48, 54, 49, 54, 50, 54, 51, 54, 52, 54, 53, 54, 54, 54, 55, 54, 56, 54, 57, 55, 48, 55, 49, 55, 50, 55, 51, 55, 52, 55, 53, 55, 54, 55, 55, 55, 56, 55, 57, 56, 48, 56, 49, 56, 50, 56, 51, 56, 52, 56, 53, 56, 54, 56, 55, 56, 56, 56, 57, 57, 48, 57, 49, 57, 50, 57, 51, 57, 52, 57, 53, 57, 54, 57, 55, 57, 56, 57, 57]⟩ : ByteArray) (IntKind.wrap .u32 ((IntKind.wrap .u32 (Int.tdiv (Int.tmod (IntKind.wrap .u32 u1) (10000 : Int)) (100 : Int))) * (2 : Int)))) >>= fun t22 =>
                   if (decide ((0 : Int) ≤ (IntKind.wrap .i64 (nd4 - (3 : Int)))) && decide ((IntKind.wrap .i64 (nd4 - (3 : Int))) < ((a0.2 - a0.1 : Nat) : Int))) = true then
                     (idx (List.set (List.set B0 (Int.toNat ((a0.1 : Int) + (IntKind.wrap .i64 (nd4 - (1 : Int))))) t17) (Int.toNat ((a0.1 : Int) + (IntKind.wrap .i64 (nd4 - (2 : Int))))) t18) ((a0.1 : Int) + (IntKind.wrap .i64 (nd4 - (3 : Int))))) >>= fun t23 =>
                     if (decide ((0 : Int) ≤ (IntKind.wrap .i64 (nd4 - (4 : Int)))) && decide ((IntKind.wrap .i64 (nd4 - (4 : Int))) < ((a0.2 - a0.1 : Nat) : Int))) = true then
                       (idx (List.set (List.set (List.set B0 (Int.toNat ((a0.1 : Int) + (IntKind.wrap .i64 (nd4 - (1 : Int))))) t17) (Int.toNat ((a0.1 : Int) + (IntKind.wrap .i64 (nd4 - (2 : Int))))) t18) (Int.toNat ((a0.1 : Int) + (IntKind.wrap .i64 (nd4 - (3 : Int))))) t21) ((a0.1 : Int) + (IntKind.wrap .i64 (nd4 - (4 : Int))))) >>= fun t24 =>
                       run_internal_strconv_formatBase10 (.p31 a0 (IntKind.wrap .i64 (nd4 - (4 : Int))) (IntKind.wrap .u32 (Int.tdiv (IntKind.wrap .u32 u1) (10000 : Int))) (List.set (List.set (List.set (List.set B0 (Int.toNat ((a0.1 : Int) + (IntKind.wrap .i64 (nd4 - (1 : Int))))) t17) (Int.toNat ((a0.1 : Int) + (IntKind.wrap .i64 (nd4 - (2 : Int))))) t18) (Int.toNat ((a0.1 : Int) + (IntKind.wrap .i64 (nd4 - (3 : Int))))) t21) (Int.toNat ((a0.1 : Int) + (IntKind.wrap .i64 (nd4 - (4 : Int))))) t22))
                     else none
                   else none
                 else none
               else none
             else none
           else none
         else none
       else none
     else
       run_internal_strconv_formatBase10 (.p31 a0 nd4 (IntKind.wrap .u32 u1) B0)
 | .p31 a0 nd4 x12 B0 =>
   if (decide (nd4 ≥ (2 : Int))) = true then
     if (!((100 : Int) == (0 : Int))) = true then
       if (!((100 : Int) == (0 : Int))) = true then
         (sidx (⟨#[48, 48, 48, 49, 48, 50, 48, 51, 48, 52, 48, 53, 48, 54, 48, 55, 48, 56, 48, 57, 49, 48, 49, 49, 49, 50, 49, 51, 49, 52, 49, 53, 49, 54, 49, 55, 49, 56, 49, 57, 50, 48, 50, 49, 50, 50, 50, 51, 50, 52, 50, 53, 50, 54, 50, 55, 50, 56, 50, 57, 51, 48, 51, 49, 51, 50, 51, 51, 51, 52, 51, 53, 51, 54, 51, 55, 51, 56, 51, 57, 52, 48, 52, 49, 52, 50, 52, 51, 52, 52, 52, 53, 52, 54, 52, 55, 52, 56, 52, 57, 53, 48, 53, 49, 53, 50, 53, 51, 53, 52, 53, 53, 53, 54, 53, 55, 53, 56, 53, 57, 54, 48, 54, 49, 54, 50, 54, 51, 54, 52, 54, 53, 54, 54, 54, 55, 54, 56, 54, 57, 55, 48, 55, 49, 55, 50, 55, 51, 55, 52, 55, 53, 55, 54, 55, 55, 55, 56, 55, 57, 56, 48, 56, 49, 56, 50, 56, 51, 56, 52, 56, 53, 56, 54, 56, 55, 56, 56, 56, 57, 57, 48, 57, 49, 57, 50, 57, 51, 57, 52, 57, 53, 57, 54, 57, 55, 57, 56, 57, 57]⟩ : ByteArray) (IntKind.wrap .u32 ((IntKind.wrap .u32 ((Int.tmod x12 (100 : Int)) * (2 : Int))) + (1 : Int)))) >>= fun t1 =>
         (sidx (⟨#[48, 48, 48, 49, 48, 50, 48, 51, 48, 52, 48, 53, 48, 54, 48, 55, 48, 56, 48, 57, 49, 48, 49, 49, 49, 50, 49, 51, 49, 52, 49, 53, 49, 54, 49, 55, 49, 56, 49, 57, 50, 48, 50, 49, 50, 50, 50, 51, 50, 52, 50, 53, 50, 54, 50, 55, 50, 56, 50, 57, 51, 48, 51, 49, 51, 50, 51, 51, 51, 52, 51, 53, 51, 54, 51, 55, 51, 56, 51, 57, 52, 48, 52, 49, 52, 50, 52, 51, 52, 52, 52, 53, 52, 54, 52, 55, 52, 56, 52, 57, 53, 48, 53, 49, 53, 50, 53, 51, 53, 52, 53, 53, 53, 54, 53, 55, 53, 56, 53, 57, 54, 48, 54, 49, 54, 50, 54, 51, 54, 52, 54, 53, 54, 54, 54, 55, 54, 56, 54, 57, 55, 48, 55, 49, 55, 50, 55, 51, 55, 52, 55, 53, 55, 54, 55, 55, 55, 56, 55, 57, 56, 48, 56, 49, 56, 50, 56, 51, 56, 52, 56, 53, 56, 54, 56, 55, 56, 56, 56, 57, 57, 48, 57, 49, 57, 50, 57, 51, 57, 52, 57, 53, 57, 54, 57, 55, 57, 56, 57, 57]⟩ : ByteArray) (IntKind.wrap .u32 ((Int.tmod x12 (100 : Int)) * (2 : Int)))) >>= fun t2 =>
         if (decide ((0 : Int) ≤ (IntKind.wrap .i64 (nd4 - (1 : Int)))) && decide ((IntKind.wrap .i64 (nd4 - (1 : Int))) < ((a0.2 - a0.1 : Nat) : Int))) = true then
           (idx B0 ((a0.1 : Int) + (IntKind.wrap .i64 (nd4 - (1 : Int))))) >>= fun t3 =>
           if (decide ((0 : Int) ≤ (IntKind.wrap .i64 (nd4 - (2 : Int)))) && decide ((IntKind.wrap .i64 (nd4 - (2 : Int))) < ((a0.2 - a0.1 : Nat) : Int))) = true then
             (idx (List.set B0 (Int.toNat ((a0.1 : Int) + (IntKind.wrap .i64 (nd4 - (1 : Int))))) t1) ((a0.1 : Int) + (IntKind.wrap .i64 (nd4 - (2 : Int))))) >>= fun t4 =>
             run_internal_strconv_formatBase10 (.p63 a0 (IntKind.wrap .i64 (nd4 - (2 : Int))) (IntKind.wrap .u32 (Int.tdiv x12 (100 : Int))) (List.set (List.set B0 (Int.toNat ((a0.1 : Int) + (IntKind.wrap .i64 (nd4 - (1 : Int))))) t1) (Int.toNat ((a0.1 : Int) + (IntKind.wrap .i64 (nd4 - (2 : Int))))) t2))
           else none
         else none
       else none
     else none
   else
     run_internal_strconv_formatBase10 (.p63 a0 nd4 x12 B0)
 | .p63 a0 nd4 x12 B0 =>
   if (decide (nd4 > (0 : Int))) = true then
     if (decide ((0 : Int) ≤ (0 : Int)) && decide ((0 : Int) < ((a0.2 - a0.1 : Nat) : Int))) = true then
       (idx B0 ((a0.1 : Int) + (0 : Int))) >>= fun t1 =>
       some ((), ())
     else none
   else
     some ((), ())
  partial_fixpoint
noncomputable def tab_internal_strconv_formatBase10 : List (Plc E P_internal_strconv_formatBase10) := [⟨24, [false, false, false, true], { slots := [0, 1, 4], rows := [], flat := [], keep := 0 }, ((Nat × Nat) × (Int × (Int × Unit))), ((List Int) × Unit), (RdL.cons (Rd.ws 0 5) (RdL.cons (Rd.int .u64) (RdL.cons (Rd.int .i64) RdL.nil))), (RdBL.cons (RdB.row 5 false) RdBL.nil), fun a b => .p24 a.1 a.2.1 a.2.2.1 b.1⟩,
  ⟨31, [true, true, true, true], { slots := [0, 4, 12], rows := [], flat := [], keep := 0 }, ((Nat × Nat) × (Int × (Int × Unit))), ((List Int) × Unit), (RdL.cons (Rd.ws 0 5) (RdL.cons (Rd.int .i64) (RdL.cons (Rd.int .u32) RdL.nil))), (RdBL.cons (RdB.row 5 false) RdBL.nil), fun a b => .p31 a.1 a.2.1 a.2.2.1 b.1⟩,
  ⟨63, [true, true, true, true, true], { slots := [0, 4, 12], rows := [], flat := [], keep := 0 }, ((Nat × Nat) × (Int × (Int × Unit))), ((List Int) × Unit), (RdL.cons (Rd.ws 0 5) (RdL.cons (Rd.int .i64) (RdL.cons (Rd.int .u32) RdL.nil))), (RdBL.cons (RdB.row 5 false) RdBL.nil), fun a b => .p63 a.1 a.2.1 a.2.2.1 b.1⟩]
theorem tab_internal_strconv_formatBase10_ok : All (PlcOk 167 0 place_internal_strconv_formatBase10 st_internal_strconv_formatBase10) tab_internal_strconv_formatBase10 := ⟨⟨rfl, rfl, fun _ _ => rfl, fun _ _ => rfl⟩, ⟨⟨rfl, rfl, fun _ _ => rfl, fun _ _ => rfl⟩, ⟨⟨rfl, rfl, fun _ _ => rfl, fun _ _ => rfl⟩, trivial⟩⟩⟩
noncomputable def code_internal_strconv_formatBase10 : Code := Tryz.f104.body.getD .skip
noncomputable def spec_internal_strconv_formatBase10 : Spec E.S := noSpec
theorem spec_internal_strconv_formatBase10_ok : SpecOk E spec_internal_strconv_formatBase10 := noSpec_ok
theorem good_internal_strconv_formatBase10 : ∀ pt r, run_internal_strconv_formatBase10 pt = some r → Good E Tryz.f104 code_internal_strconv_formatBase10 0 (res_internal_strconv_formatBase10.av r) (res_internal_strconv_formatBase10.bx r) (place_internal_strconv_formatBase10 pt) (st_internal_strconv_formatBase10 pt) := by
  refine run_internal_strconv_formatBase10.partial_correctness (fun pt r => Good E Tryz.f104 code_internal_strconv_formatBase10 0 (res_internal_strconv_formatBase10.av r) (res_internal_strconv_formatBase10.bx r) (place_internal_strconv_formatBase10 pt) (st_internal_strconv_formatBase10 pt)) ?_
  intro run' ih pt r hr
  cases pt <;> exact fn_step (spec := spec_internal_strconv_formatBase10) (wr := (fun i => mem i [0, 17, 42, 45, 55, 58, 68, 71, 81, 84, 110, 113, 123, 126, 145, 148, 162])) (l := tab_internal_strconv_formatBase10) (z := 167) (p := res_internal_strconv_formatBase10) E_ok tab_internal_strconv_formatBase10_ok.mem rfl spec_internal_strconv_formatBase10_ok ih (Eq.trans (by kernel_rfl) hr)
noncomputable def con_internal_strconv_formatBase10 : Con E := ⟨104, ((Nat × Nat) × (Int × Unit)), ((List Int) × Unit), (RwL.cons (Rd.ws 0 5).w (RwL.cons (Rd.int .u64).w RwL.nil)), (RdBL.cons (RdB.row 5 false) RdBL.nil), 0, R_internal_strconv_formatBase10, fun a b => run_internal_strconv_formatBase10 (.start a.1 a.2.1 b.1), res_internal_strconv_formatBase10.av, res_internal_strconv_formatBase10.bx⟩
theorem con_internal_strconv_formatBase10_ok : con_internal_strconv_formatBase10.Ok := fun a b r h => fn_ok (fn := Tryz.f104) (code := code_internal_strconv_formatBase10) E_ok (by kernel_rfl) (by kernel_rfl) (by kernel_rfl) (Nat.le_of_ble_eq_true rfl) (good_internal_strconv_formatBase10 (.start a.1 a.2.1 b.1) r h)

/-! ### internal/strconv.FormatInt -/
inductive P_internal_strconv_FormatInt where
 | start (i0 : Int) (base1 : Int)
 | p53 (i0 : Int)
 | p431 (i0 : Int) (u6 : Int) (B0 : (List Int))
noncomputable def place_internal_strconv_FormatInt : P_internal_strconv_FormatInt → List Bool
 | .start .. => []
 | .p53 .. => [true, false, true, false, true]
 | .p431 .. => [true, true, true, true, false, true, false, true]
noncomputable def st_internal_strconv_FormatInt : P_internal_strconv_FormatInt → St E.S
 | .start i0 base1 => st0 54 [.v (.int .i64 i0), .v (.int .i64 base1)] []
 | .p53 i0 => mkSt 54 [0] [.v (.int .i64 i0)] []
 | .p431 i0 u6 B0 => mkSt 54 [0, 5, 6] [.v (.int .i64 i0), .rp 0 5 (0 : Int) 0, .v (.int .u64 u6)] [.row 5 B0 false]
abbrev R_internal_strconv_FormatInt : Type := ((ByteArray × Unit) × Unit)
noncomputable def res_internal_strconv_FormatInt : Res E (ByteArray × Unit) Unit := { rows := [], flat := [], keep := 0, rl := (RdL.cons Rd.str RdL.nil), rb := RdBL.nil }
noncomputable def run_internal_strconv_FormatInt : P_internal_strconv_FormatInt → Option R_internal_strconv_FormatInt
 | .start i0 base1 =>
   if (base1 == (10 : Int)) = true then
     if (decide ((0 : Int) ≤ i0)) = true then
       if (decide (i0 < (100 : Int))) = true then
         (run_internal_strconv_small (.start i0)) >>= fun t1 =>
         some ((t1.1.1, ()), ())
       else
         run_internal_strconv_FormatInt (.p53 i0)
     else
       run_internal_strconv_FormatInt (.p53 i0)
   else
     (run_internal_strconv_formatBits (.start ([]) (IntKind.wrap .u64 i0) base1 (decide (i0 < (0 : Int))) false)) >>= fun t2 =>
     some ((t2.1.2.1, ()), ())
 | .p53 i0 =>
   if (decide (i0 < (0 : Int))) = true then
     run_internal_strconv_FormatInt (.p431 i0 (IntKind.wrap .u64 (0 - (IntKind.wrap .u64 i0))) (List.replicate 24 (0 : Int)))
   else
     run_internal_strconv_FormatInt (.p431 i0 (IntKind.wrap .u64 i0) (List.replicate 24 (0 : Int)))
 | .p431 i0 u6 B0 =>
   (run_internal_strconv_numDigits (.start u6)) >>= fun t1 =>
   (span 24 (1 : Int) (IntKind.wrap .i64 ((1 : Int) + t1.1.1))) >>= fun t2 =>
   (run_internal_strconv_formatBase10 (.start t2 u6 B0)) >>= fun t3 =>
   if (decide (i0 < (0 : Int))) = true then
     if (decide ((0 : Int) ≤ (0 : Int)) && decide ((0 : Int) < (24 : Int))) = true then
       none
     else none
   else
     (span 24 (1 : Int) (IntKind.wrap .i64 ((1 : Int) + t1.1.1))) >>= fun t4 =>
     none
  partial_fixpoint
noncomputable def tab_internal_strconv_FormatInt : List (Plc E P_internal_strconv_FormatInt) := [⟨53, [true, false, true, false, true], { slots := [0], rows := [], flat := [], keep := 0 }, (Int × Unit), Unit, (RdL.cons (Rd.int .i64) RdL.nil), RdBL.nil, fun a b => .p53 a.1⟩,
  ⟨431, [true, true, true, true, false, true, false, true], { slots := [0, 5, 6], rows := [], flat := [], keep := 0 }, (Int × (Unit × (Int × Unit))), ((List Int) × Unit), (RdL.cons (Rd.int .i64) (RdL.cons (Rd.rp0 0 5) (RdL.cons (Rd.int .u64) RdL.nil))), (RdBL.cons (RdB.row 5 false) RdBL.nil), fun a b => .p431 a.1 a.2.2.1 b.1⟩]
theorem tab_internal_strconv_FormatInt_ok : All (PlcOk 54 0 place_internal_strconv_FormatInt st_internal_strconv_FormatInt) tab_internal_strconv_FormatInt := ⟨⟨rfl, rfl, fun _ _ => rfl, fun _ _ => rfl⟩, ⟨⟨rfl, rfl, fun _ _ => rfl, fun _ _ => rfl⟩, trivial⟩⟩
noncomputable def code_internal_strconv_FormatInt : Code := Tryz.f79.body.getD .skip
noncomputable def spec_internal_strconv_FormatInt : Spec E.S := (Con.add con_internal_strconv_formatBase10 (Con.add con_internal_strconv_numDigits (Con.add con_internal_strconv_formatBits (Con.add con_internal_strconv_small noSpec))))
theorem spec_internal_strconv_FormatInt_ok : SpecOk E spec_internal_strconv_FormatInt := (Con.add_ok con_internal_strconv_formatBase10_ok (Con.add_ok con_internal_strconv_numDigits_ok (Con.add_ok con_internal_strconv_formatBits_ok (Con.add_ok con_internal_strconv_small_ok noSpec_ok))))
theorem good_internal_strconv_FormatInt : ∀ pt r, run_internal_strconv_FormatInt pt = some r → Good E Tryz.f79 code_internal_strconv_FormatInt 0 (res_internal_strconv_FormatInt.av r) (res_internal_strconv_FormatInt.bx r) (place_internal_strconv_FormatInt pt) (st_internal_strconv_FormatInt pt) := by
  refine run_internal_strconv_FormatInt.partial_correctness (fun pt r => Good E Tryz.f79 code_internal_strconv_FormatInt 0 (res_internal_strconv_FormatInt.av r) (res_internal_strconv_FormatInt.bx r) (place_internal_strconv_FormatInt pt) (st_internal_strconv_FormatInt pt)) ?_
  intro run' ih pt r hr
  cases pt <;> exact fn_step (spec := spec_internal_strconv_FormatInt) (wr := (fun i => mem i [5, 30, 38, 42])) (l := tab_internal_strconv_FormatInt) (z := 54) (p := res_internal_strconv_FormatInt) E_ok tab_internal_strconv_FormatInt_ok.mem rfl spec_internal_strconv_FormatInt_ok ih (Eq.trans (by kernel_rfl) hr)
noncomputable def con_internal_strconv_FormatInt : Con E := ⟨79, (Int × (Int × Unit)), Unit, (RwL.cons (Rd.int .i64).w (RwL.cons (Rd.int .i64).w RwL.nil)), RdBL.nil, 0, R_internal_strconv_FormatInt, fun a b => run_internal_strconv_FormatInt (.start a.1 a.2.1), res_internal_strconv_FormatInt.av, res_internal_strconv_FormatInt.bx⟩
theorem con_internal_strconv_FormatInt_ok : con_internal_strconv_FormatInt.Ok := fun a b r h => fn_ok (fn := Tryz.f79) (code := code_internal_strconv_FormatInt) E_ok (by kernel_rfl) (by kernel_rfl) (by kernel_rfl) (Nat.le_of_ble_eq_true rfl) (good_internal_strconv_FormatInt (.start a.1 a.2.1) r h)

/-! ### strconv.FormatInt -/
inductive P_strconv_FormatInt where
 | start (i0 : Int) (base1 : Int)
noncomputable def place_strconv_FormatInt : P_strconv_FormatInt → List Bool
 | .start .. => []
noncomputable def st_strconv_FormatInt : P_strconv_FormatInt → St E.S
 | .start i0 base1 => st0 8 [.v (.int .i64 i0), .v (.int .i64 base1)] []
abbrev R_strconv_FormatInt : Type := ((ByteArray × Unit) × Unit)
noncomputable def res_strconv_FormatInt : Res E (ByteArray × Unit) Unit := { rows := [], flat := [], keep := 0, rl := (RdL.cons Rd.str RdL.nil), rb := RdBL.nil }
noncomputable def run_strconv_FormatInt : P_strconv_FormatInt → Option R_strconv_FormatInt
 | .start i0 base1 =>
   (run_internal_strconv_FormatInt (.start i0 base1)) >>= fun t1 =>
   some ((t1.1.1, ()), ())
noncomputable def tab_strconv_FormatInt : List (Plc E P_strconv_FormatInt) := []
theorem tab_strconv_FormatInt_ok : All (PlcOk 8 0 place_strconv_FormatInt st_strconv_FormatInt) tab_strconv_FormatInt := trivial
noncomputable def code_strconv_FormatInt : Code := Tryz.f44.body.getD .skip
noncomputable def spec_strconv_FormatInt : Spec E.S := (Con.add con_internal_strconv_FormatInt noSpec)
theorem spec_strconv_FormatInt_ok : SpecOk E spec_strconv_FormatInt := (Con.add_ok con_internal_strconv_FormatInt_ok noSpec_ok)
theorem good_strconv_FormatInt : ∀ pt r, run_strconv_FormatInt pt = some r → Good E Tryz.f44 code_strconv_FormatInt 0 (res_strconv_FormatInt.av r) (res_strconv_FormatInt.bx r) (place_strconv_FormatInt pt) (st_strconv_FormatInt pt) := by
  intro pt r hr
  cases pt <;> exact fn_step (spec := spec_strconv_FormatInt) (wr := (fun i => mem i [])) (l := tab_strconv_FormatInt) (z := 8) (p := res_strconv_FormatInt) (run' := fun _ => none) E_ok tab_strconv_FormatInt_ok.mem rfl spec_strconv_FormatInt_ok (fun _ _ h => by cases h) (Eq.trans (by kernel_rfl) hr)
noncomputable def con_strconv_FormatInt : Con E := ⟨44, (Int × (Int × Unit)), Unit, (RwL.cons (Rd.int .i64).w (RwL.cons (Rd.int .i64).w RwL.nil)), RdBL.nil, 0, R_strconv_FormatInt, fun a b => run_strconv_FormatInt (.start a.1 a.2.1), res_strconv_FormatInt.av, res_strconv_FormatInt.bx⟩
theorem con_strconv_FormatInt_ok : con_strconv_FormatInt.Ok := fun a b r h => fn_ok (fn := Tryz.f44) (code := code_strconv_FormatInt) E_ok (by kernel_rfl) (by kernel_rfl) (by kernel_rfl) (Nat.le_of_ble_eq_true rfl) (good_strconv_FormatInt (.start a.1 a.2.1) r h)

noncomputable def con_strconv_FormatInt_or : Con E := conFmt E 44 (fun n b => run_strconv_FormatInt (.start n b))
theorem con_strconv_FormatInt_or_ok : con_strconv_FormatInt_or.Ok := conFmt_ok (fn := Tryz.f44) (by kernel_rfl) (by kernel_rfl) (by kernel_rfl) (g := 1) rfl (fun n w h0 h1 ht => Tryz.strconv_FormatInt_10 n h0 h1 w ht) (fun n b r h => con_strconv_FormatInt_ok (n, b, ()) () r h)

/-! ### ratchet/lexer.FormatLiteral -/
inductive P_lexer_FormatLiteral where
 | start (value0 : Int) (width1 : Int) (sign2 : Int)
 | p7 (value0 : Int) (width1 : Int) (sign2 : Int)
 | p127 (width1 : Int) (sign2 : Int) (digits9 : ByteArray)
noncomputable def place_lexer_FormatLiteral : P_lexer_FormatLiteral → List Bool
 | .start .. => []
 | .p7 .. => [true, true]
 | .p127 .. => [true, true, true, true, true, true]
noncomputable def st_lexer_FormatLiteral : P_lexer_FormatLiteral → St E.S
 | .start value0 width1 sign2 => st0 56 [.v (.int .i64 value0), .v (.int .i64 width1), .v (.int .u8 sign2)] []
 | .p7 value0 width1 sign2 => mkSt 56 [0, 1, 2] [.v (.int .i64 value0), .v (.int .i64 width1), .v (.int .u8 sign2)] []
 | .p127 width1 sign2 digits9 => mkSt 56 [1, 2, 9] [.v (.int .i64 width1), .v (.int .u8 sign2), .v (.string digits9)] []
abbrev R_lexer_FormatLiteral : Type := ((ByteArray × (Int × Unit)) × Unit)
noncomputable def res_lexer_FormatLiteral : Res E (ByteArray × (Int × Unit)) Unit := { rows := [], flat := [], keep := 0, rl := (RdL.cons Rd.str (RdL.cons (Rd.int .i64) RdL.nil)), rb := RdBL.nil }
noncomputable def run_lexer_FormatLiteral : P_lexer_FormatLiteral → Option R_lexer_FormatLiteral
 | .start value0 width1 sign2 =>
   (run_lexer_within (.start width1 (1 : Int) (16 : Int))) >>= fun t1 =>
   if (!t1.1.1) = true then
     some (((⟨#[]⟩ : ByteArray), ((2 : Int), ())), ())
   else
     if (decide ((0 : Int) ≤ width1)) = true then
       (run_lexer_within (.start value0 (0 : Int) (IntKind.wrap .i64 ((shl .i64 (1 : Int) width1) - (1 : Int))))) >>= fun t2 =>
       if (!t2.1.1) = true then
         some (((⟨#[]⟩ : ByteArray), ((2 : Int), ())), ())
       else
         run_lexer_FormatLiteral (.p7 value0 width1 sign2)
     else none
 | .p7 value0 width1 sign2 =>
   (run_lexer_baseOf (.start sign2)) >>= fun t1 =>
   if (t1.1.1 == (0 : Int)) = true then
     some (((⟨#[]⟩ : ByteArray), ((15 : Int), ())), ())
   else
     (fmtRun value0 t1.1.1 (run_strconv_FormatInt (.start value0 t1.1.1))) >>= fun t2 =>
     if (decide ((Option.getD (aget ieq (aput ieq (aput ieq ([] : List (Int × Int)) (98 : Int) (1 : Int)) (104 : Int) (4 : Int)) sign2) (0 : Int)) > (0 : Int))) = true then
       if (!((Option.getD (aget ieq (aput ieq (aput ieq ([] : List (Int × Int)) (98 : Int) (1 : Int)) (104 : Int) (4 : Int)) sign2) (0 : Int)) == (0 : Int))) = true then
         (repeatRun ((⟨#[48]⟩ : ByteArray), IntKind.wrap .i64 ((IntKind.wrap .i64 (Int.tdiv (IntKind.wrap .i64 ((IntKind.wrap .i64 (width1 + (Option.getD (aget ieq (aput ieq (aput ieq ([] : List (Int × Int)) (98 : Int) (1 : Int)) (104 : Int) (4 : Int)) sign2) (0 : Int)))) - (1 : Int))) (Option.getD (aget ieq (aput ieq (aput ieq ([] : List (Int × Int)) (98 : Int) (1 : Int)) (104 : Int) (4 : Int)) sign2) (0 : Int)))) - (t2.1.1.size : Int)), ()) ()) >>= fun t3 =>
         if (Nat.ble (t3.1.1.size + t2.1.1.size) 9223372036854775807) = true then
           run_lexer_FormatLiteral (.p127 width1 sign2 (t3.1.1 ++ t2.1.1))
         else none
       else none
     else
       run_lexer_FormatLiteral (.p127 width1 sign2 t2.1.1)
 | .p127 width1 sign2 digits9 =>
   (itoaRun (width1, ()) ()) >>= fun t1 =>
   if (Nat.ble (t1.1.1.size + (⟨#[39]⟩ : ByteArray).size) 9223372036854775807) = true then
     if (Nat.ble ((t1.1.1 ++ (⟨#[39]⟩ : ByteArray)).size + (Utf8.encode (IntKind.wrap .i32 sign2)).size) 9223372036854775807) = true then
       if (Nat.ble (((t1.1.1 ++ (⟨#[39]⟩ : ByteArray)) ++ (Utf8.encode (IntKind.wrap .i32 sign2))).size + digits9.size) 9223372036854775807) = true then
         some ((((t1.1.1 ++ (⟨#[39]⟩ : ByteArray)) ++ (Utf8.encode (IntKind.wrap .i32 sign2))) ++ digits9, ((0 : Int), ())), ())
       else none
     else none
   else none
  partial_fixpoint
noncomputable def tab_lexer_FormatLiteral : List (Plc E P_lexer_FormatLiteral) := [⟨7, [true, true], { slots := [0, 1, 2], rows := [], flat := [], keep := 0 }, (Int × (Int × (Int × Unit))), Unit, (RdL.cons (Rd.int .i64) (RdL.cons (Rd.int .i64) (RdL.cons (Rd.int .u8) RdL.nil))), RdBL.nil, fun a b => .p7 a.1 a.2.1 a.2.2.1⟩,
  ⟨127, [true, true, true, true, true, true], { slots := [1, 2, 9], rows := [], flat := [], keep := 0 }, (Int × (Int × (ByteArray × Unit))), Unit, (RdL.cons (Rd.int .i64) (RdL.cons (Rd.int .u8) (RdL.cons Rd.str RdL.nil))), RdBL.nil, fun a b => .p127 a.1 a.2.1 a.2.2.1⟩]
theorem tab_lexer_FormatLiteral_ok : All (PlcOk 56 0 place_lexer_FormatLiteral st_lexer_FormatLiteral) tab_lexer_FormatLiteral := ⟨⟨rfl, rfl, fun _ _ => rfl, fun _ _ => rfl⟩, ⟨⟨rfl, rfl, fun _ _ => rfl, fun _ _ => rfl⟩, trivial⟩⟩
noncomputable def code_lexer_FormatLiteral : Code := Tryz.f19.body.getD .skip
noncomputable def spec_lexer_FormatLiteral : Spec E.S := (Con.add con_strconv_Itoa (Con.add con_strings_Repeat (Con.add con_strconv_FormatInt_or (Con.add con_lexer_baseOf (Con.add con_lexer_within noSpec)))))
theorem spec_lexer_FormatLiteral_ok : SpecOk E spec_lexer_FormatLiteral := (Con.add_ok con_strconv_Itoa_ok (Con.add_ok con_strings_Repeat_ok (Con.add_ok con_strconv_FormatInt_or_ok (Con.add_ok con_lexer_baseOf_ok (Con.add_ok con_lexer_within_ok noSpec_ok)))))
theorem good_lexer_FormatLiteral : ∀ pt r, run_lexer_FormatLiteral pt = some r → Good E Tryz.f19 code_lexer_FormatLiteral 0 (res_lexer_FormatLiteral.av r) (res_lexer_FormatLiteral.bx r) (place_lexer_FormatLiteral pt) (st_lexer_FormatLiteral pt) := by
  refine run_lexer_FormatLiteral.partial_correctness (fun pt r => Good E Tryz.f19 code_lexer_FormatLiteral 0 (res_lexer_FormatLiteral.av r) (res_lexer_FormatLiteral.bx r) (place_lexer_FormatLiteral pt) (st_lexer_FormatLiteral pt)) ?_
  intro run' ih pt r hr
  cases pt <;> exact fn_step (spec := spec_lexer_FormatLiteral) (wr := (fun i => mem i [])) (l := tab_lexer_FormatLiteral) (z := 56) (p := res_lexer_FormatLiteral) E_ok tab_lexer_FormatLiteral_ok.mem rfl spec_lexer_FormatLiteral_ok ih (Eq.trans (by kernel_rfl) hr)
noncomputable def con_lexer_FormatLiteral : Con E := ⟨19, (Int × (Int × (Int × Unit))), Unit, (RwL.cons (Rd.int .i64).w (RwL.cons (Rd.int .i64).w (RwL.cons (Rd.int .u8).w RwL.nil))), RdBL.nil, 0, R_lexer_FormatLiteral, fun a b => run_lexer_FormatLiteral (.start a.1 a.2.1 a.2.2.1), res_lexer_FormatLiteral.av, res_lexer_FormatLiteral.bx⟩
theorem con_lexer_FormatLiteral_ok : con_lexer_FormatLiteral.Ok := fun a b r h => fn_ok (fn := Tryz.f19) (code := code_lexer_FormatLiteral) E_ok (by kernel_rfl) (by kernel_rfl) (by kernel_rfl) (Nat.le_of_ble_eq_true rfl) (good_lexer_FormatLiteral (.start a.1 a.2.1 a.2.2.1) r h)

/-! ### ratchet/ratchetref05.FormatErr -/
inductive P_ratchetref05_FormatErr where
 | start (value0 : Int) (width1 : Int) (sign2 : Int)
 | p7 (sign2 : Int)
noncomputable def place_ratchetref05_FormatErr : P_ratchetref05_FormatErr → List Bool
 | .start .. => []
 | .p7 .. => [true, true]
noncomputable def st_ratchetref05_FormatErr : P_ratchetref05_FormatErr → St E.S
 | .start value0 width1 sign2 => st0 19 [.v (.int .i64 value0), .v (.int .i64 width1), .v (.int .u8 sign2)] []
 | .p7 sign2 => mkSt 19 [2] [.v (.int .u8 sign2)] []
abbrev R_ratchetref05_FormatErr : Type := ((Int × Unit) × Unit)
noncomputable def res_ratchetref05_FormatErr : Res E (Int × Unit) Unit := { rows := [], flat := [], keep := 0, rl := (RdL.cons (Rd.int .i64) RdL.nil), rb := RdBL.nil }
noncomputable def run_ratchetref05_FormatErr : P_ratchetref05_FormatErr → Option R_ratchetref05_FormatErr
 | .start value0 width1 sign2 =>
   (run_ratchetbase_IsWidth (.start width1)) >>= fun t1 =>
   if (!t1.1.1) = true then
     some (((2 : Int), ()), ())
   else
     (run_ratchetbase_Fits (.start value0 width1)) >>= fun t2 =>
     if (!t2.1.1) = true then
       some (((2 : Int), ()), ())
     else
       run_ratchetref05_FormatErr (.p7 sign2)
 | .p7 sign2 =>
   (run_ratchetref05_By (.start sign2)) >>= fun t1 =>
   if (t1.1.1 == (0 : Int)) = true then
     some (((15 : Int), ()), ())
   else
     some (((0 : Int), ()), ())
  partial_fixpoint
noncomputable def tab_ratchetref05_FormatErr : List (Plc E P_ratchetref05_FormatErr) := [⟨7, [true, true], { slots := [2], rows := [], flat := [], keep := 0 }, (Int × Unit), Unit, (RdL.cons (Rd.int .u8) RdL.nil), RdBL.nil, fun a b => .p7 a.1⟩]
theorem tab_ratchetref05_FormatErr_ok : All (PlcOk 19 0 place_ratchetref05_FormatErr st_ratchetref05_FormatErr) tab_ratchetref05_FormatErr := ⟨⟨rfl, rfl, fun _ _ => rfl, fun _ _ => rfl⟩, trivial⟩
noncomputable def code_ratchetref05_FormatErr : Code := Tryz.f20.body.getD .skip
noncomputable def spec_ratchetref05_FormatErr : Spec E.S := (Con.add con_ratchetref05_By (Con.add con_ratchetbase_Fits (Con.add con_ratchetbase_IsWidth noSpec)))
theorem spec_ratchetref05_FormatErr_ok : SpecOk E spec_ratchetref05_FormatErr := (Con.add_ok con_ratchetref05_By_ok (Con.add_ok con_ratchetbase_Fits_ok (Con.add_ok con_ratchetbase_IsWidth_ok noSpec_ok)))
theorem good_ratchetref05_FormatErr : ∀ pt r, run_ratchetref05_FormatErr pt = some r → Good E Tryz.f20 code_ratchetref05_FormatErr 0 (res_ratchetref05_FormatErr.av r) (res_ratchetref05_FormatErr.bx r) (place_ratchetref05_FormatErr pt) (st_ratchetref05_FormatErr pt) := by
  refine run_ratchetref05_FormatErr.partial_correctness (fun pt r => Good E Tryz.f20 code_ratchetref05_FormatErr 0 (res_ratchetref05_FormatErr.av r) (res_ratchetref05_FormatErr.bx r) (place_ratchetref05_FormatErr pt) (st_ratchetref05_FormatErr pt)) ?_
  intro run' ih pt r hr
  cases pt <;> exact fn_step (spec := spec_ratchetref05_FormatErr) (wr := (fun i => mem i [])) (l := tab_ratchetref05_FormatErr) (z := 19) (p := res_ratchetref05_FormatErr) E_ok tab_ratchetref05_FormatErr_ok.mem rfl spec_ratchetref05_FormatErr_ok ih (Eq.trans (by kernel_rfl) hr)
noncomputable def con_ratchetref05_FormatErr : Con E := ⟨20, (Int × (Int × (Int × Unit))), Unit, (RwL.cons (Rd.int .i64).w (RwL.cons (Rd.int .i64).w (RwL.cons (Rd.int .u8).w RwL.nil))), RdBL.nil, 0, R_ratchetref05_FormatErr, fun a b => run_ratchetref05_FormatErr (.start a.1 a.2.1 a.2.2.1), res_ratchetref05_FormatErr.av, res_ratchetref05_FormatErr.bx⟩
theorem con_ratchetref05_FormatErr_ok : con_ratchetref05_FormatErr.Ok := fun a b r h => fn_ok (fn := Tryz.f20) (code := code_ratchetref05_FormatErr) E_ok (by kernel_rfl) (by kernel_rfl) (by kernel_rfl) (Nat.le_of_ble_eq_true rfl) (good_ratchetref05_FormatErr (.start a.1 a.2.1 a.2.2.1) r h)

/-! ### ratchet/ratchetbase.Size -/
inductive P_ratchetbase_Size where
 | start (n0 : Int)
noncomputable def place_ratchetbase_Size : P_ratchetbase_Size → List Bool
 | .start .. => []
noncomputable def st_ratchetbase_Size : P_ratchetbase_Size → St E.S
 | .start n0 => st0 7 [.v (.int .i64 n0)] []
abbrev R_ratchetbase_Size : Type := ((Int × Unit) × Unit)
noncomputable def res_ratchetbase_Size : Res E (Int × Unit) Unit := { rows := [], flat := [], keep := 0, rl := (RdL.cons (Rd.int .i64) RdL.nil), rb := RdBL.nil }
noncomputable def run_ratchetbase_Size : P_ratchetbase_Size → Option R_ratchetbase_Size
 | .start n0 =>
   some ((if (IntKind.wrap .i64 (0 - n0)) > n0 then (IntKind.wrap .i64 (0 - n0)) else n0, ()), ())
noncomputable def tab_ratchetbase_Size : List (Plc E P_ratchetbase_Size) := []
theorem tab_ratchetbase_Size_ok : All (PlcOk 7 0 place_ratchetbase_Size st_ratchetbase_Size) tab_ratchetbase_Size := trivial
noncomputable def code_ratchetbase_Size : Code := Tryz.f84.body.getD .skip
noncomputable def spec_ratchetbase_Size : Spec E.S := noSpec
theorem spec_ratchetbase_Size_ok : SpecOk E spec_ratchetbase_Size := noSpec_ok
theorem good_ratchetbase_Size : ∀ pt r, run_ratchetbase_Size pt = some r → Good E Tryz.f84 code_ratchetbase_Size 0 (res_ratchetbase_Size.av r) (res_ratchetbase_Size.bx r) (place_ratchetbase_Size pt) (st_ratchetbase_Size pt) := by
  intro pt r hr
  cases pt <;> exact fn_step (spec := spec_ratchetbase_Size) (wr := (fun i => mem i [])) (l := tab_ratchetbase_Size) (z := 7) (p := res_ratchetbase_Size) (run' := fun _ => none) E_ok tab_ratchetbase_Size_ok.mem rfl spec_ratchetbase_Size_ok (fun _ _ h => by cases h) (Eq.trans (by kernel_rfl) hr)
noncomputable def con_ratchetbase_Size : Con E := ⟨84, (Int × Unit), Unit, (RwL.cons (Rd.int .i64).w RwL.nil), RdBL.nil, 0, R_ratchetbase_Size, fun a b => run_ratchetbase_Size (.start a.1), res_ratchetbase_Size.av, res_ratchetbase_Size.bx⟩
theorem con_ratchetbase_Size_ok : con_ratchetbase_Size.Ok := fun a b r h => fn_ok (fn := Tryz.f84) (code := code_ratchetbase_Size) E_ok (by kernel_rfl) (by kernel_rfl) (by kernel_rfl) (Nat.le_of_ble_eq_true rfl) (good_ratchetbase_Size (.start a.1) r h)

/-! ### ratchet/ratchetbase.Decimal -/
inductive P_ratchetbase_Decimal where
 | start (n0 : Int)
 | p31 (n0 : Int) (s3 : ByteArray) (sign4 : ByteArray)
 | p248 (n0 : Int) (s3 : ByteArray) (sign4 : ByteArray)
noncomputable def place_ratchetbase_Decimal : P_ratchetbase_Decimal → List Bool
 | .start .. => []
 | .p31 .. => [true, true, true, true]
 | .p248 .. => [false, false, false, true, true, true, true]
noncomputable def st_ratchetbase_Decimal : P_ratchetbase_Decimal → St E.S
 | .start n0 => st0 27 [.v (.int .i64 n0)] []
 | .p31 n0 s3 sign4 => mkSt 27 [0, 3, 4] [.v (.int .i64 n0), .v (.string s3), .v (.string sign4)] []
 | .p248 n0 s3 sign4 => mkSt 27 [0, 3, 4] [.v (.int .i64 n0), .v (.string s3), .v (.string sign4)] []
abbrev R_ratchetbase_Decimal : Type := ((ByteArray × Unit) × Unit)
noncomputable def res_ratchetbase_Decimal : Res E (ByteArray × Unit) Unit := { rows := [], flat := [], keep := 0, rl := (RdL.cons Rd.str RdL.nil), rb := RdBL.nil }
noncomputable def run_ratchetbase_Decimal : P_ratchetbase_Decimal → Option R_ratchetbase_Decimal
 | .start n0 =>
   if (n0 == (0 : Int)) = true then
     some (((⟨#[48]⟩ : ByteArray), ()), ())
   else
     if (decide (n0 < (0 : Int))) = true then
       run_ratchetbase_Decimal (.p31 n0 (⟨#[]⟩ : ByteArray) (⟨#[45]⟩ : ByteArray))
     else
       run_ratchetbase_Decimal (.p31 n0 (⟨#[]⟩ : ByteArray) (⟨#[]⟩ : ByteArray))
 | .p31 n0 s3 sign4 =>
   run_ratchetbase_Decimal (.p248 n0 s3 sign4)
 | .p248 n0 s3 sign4 =>
   if (n0 != (0 : Int)) = true then
     if (!((10 : Int) == (0 : Int))) = true then
       (run_ratchetbase_Size (.start (Int.tmod n0 (10 : Int)))) >>= fun t1 =>
       if (Nat.ble ((bytesStr ([IntKind.wrap .u8 (IntKind.wrap .i64 ((48 : Int) + t1.1.1))] : List Int)).size + s3.size) 9223372036854775807) = true then
         if (!((10 : Int) == (0 : Int))) = true then
           run_ratchetbase_Decimal (.p248 (IntKind.wrap .i64 (Int.tdiv n0 (10 : Int))) ((bytesStr ([IntKind.wrap .u8 (IntKind.wrap .i64 ((48 : Int) + t1.1.1))] : List Int)) ++ s3) sign4)
         else none
       else none
     else none
   else
     if (Nat.ble (sign4.size + s3.size) 9223372036854775807) = true then
       some ((sign4 ++ s3, ()), ())
     else none
  partial_fixpoint
noncomputable def tab_ratchetbase_Decimal : List (Plc E P_ratchetbase_Decimal) := [⟨31, [true, true, true, true], { slots := [0, 3, 4], rows := [], flat := [], keep := 0 }, (Int × (ByteArray × (ByteArray × Unit))), Unit, (RdL.cons (Rd.int .i64) (RdL.cons Rd.str (RdL.cons Rd.str RdL.nil))), RdBL.nil, fun a b => .p31 a.1 a.2.1 a.2.2.1⟩,
  ⟨248, [false, false, false, true, true, true, true], { slots := [0, 3, 4], rows := [], flat := [], keep := 0 }, (Int × (ByteArray × (ByteArray × Unit))), Unit, (RdL.cons (Rd.int .i64) (RdL.cons Rd.str (RdL.cons Rd.str RdL.nil))), RdBL.nil, fun a b => .p248 a.1 a.2.1 a.2.2.1⟩]
theorem tab_ratchetbase_Decimal_ok : All (PlcOk 27 0 place_ratchetbase_Decimal st_ratchetbase_Decimal) tab_ratchetbase_Decimal := ⟨⟨rfl, rfl, fun _ _ => rfl, fun _ _ => rfl⟩, ⟨⟨rfl, rfl, fun _ _ => rfl, fun _ _ => rfl⟩, trivial⟩⟩
noncomputable def code_ratchetbase_Decimal : Code := Tryz.f47.body.getD .skip
noncomputable def spec_ratchetbase_Decimal : Spec E.S := (Con.add con_ratchetbase_Size noSpec)
theorem spec_ratchetbase_Decimal_ok : SpecOk E spec_ratchetbase_Decimal := (Con.add_ok con_ratchetbase_Size_ok noSpec_ok)
theorem good_ratchetbase_Decimal : ∀ pt r, run_ratchetbase_Decimal pt = some r → Good E Tryz.f47 code_ratchetbase_Decimal 0 (res_ratchetbase_Decimal.av r) (res_ratchetbase_Decimal.bx r) (place_ratchetbase_Decimal pt) (st_ratchetbase_Decimal pt) := by
  refine run_ratchetbase_Decimal.partial_correctness (fun pt r => Good E Tryz.f47 code_ratchetbase_Decimal 0 (res_ratchetbase_Decimal.av r) (res_ratchetbase_Decimal.bx r) (place_ratchetbase_Decimal pt) (st_ratchetbase_Decimal pt)) ?_
  intro run' ih pt r hr
  cases pt <;> exact fn_step (spec := spec_ratchetbase_Decimal) (wr := (fun i => mem i [])) (l := tab_ratchetbase_Decimal) (z := 27) (p := res_ratchetbase_Decimal) E_ok tab_ratchetbase_Decimal_ok.mem rfl spec_ratchetbase_Decimal_ok ih (Eq.trans (by kernel_rfl) hr)
noncomputable def con_ratchetbase_Decimal : Con E := ⟨47, (Int × Unit), Unit, (RwL.cons (Rd.int .i64).w RwL.nil), RdBL.nil, 0, R_ratchetbase_Decimal, fun a b => run_ratchetbase_Decimal (.start a.1), res_ratchetbase_Decimal.av, res_ratchetbase_Decimal.bx⟩
theorem con_ratchetbase_Decimal_ok : con_ratchetbase_Decimal.Ok := fun a b r h => fn_ok (fn := Tryz.f47) (code := code_ratchetbase_Decimal) E_ok (by kernel_rfl) (by kernel_rfl) (by kernel_rfl) (Nat.le_of_ble_eq_true rfl) (good_ratchetbase_Decimal (.start a.1) r h)

/-! ### ratchet/ratchetref05.Format -/
inductive P_ratchetref05_Format where
 | start (value0 : Int) (width1 : Int) (sign2 : Int)
 | p31 (value0 : Int) (width1 : Int) (sign2 : Int) (step7 : Int)
 | p1012 (value0 : Int) (width1 : Int) (sign2 : Int) (step7 : Int) (t8 : ByteArray) (k9 : Int)
noncomputable def place_ratchetref05_Format : P_ratchetref05_Format → List Bool
 | .start .. => []
 | .p31 .. => [true, true, true, true]
 | .p1012 .. => [false, false, true, false, true, true, true, true, true]
noncomputable def st_ratchetref05_Format : P_ratchetref05_Format → St E.S
 | .start value0 width1 sign2 => st0 49 [.v (.int .i64 value0), .v (.int .i64 width1), .v (.int .u8 sign2)] []
 | .p31 value0 width1 sign2 step7 => mkSt 49 [0, 1, 2, 7] [.v (.int .i64 value0), .v (.int .i64 width1), .v (.int .u8 sign2), .v (.int .i64 step7)] []
 | .p1012 value0 width1 sign2 step7 t8 k9 => mkSt 49 [0, 1, 2, 7, 8, 9] [.v (.int .i64 value0), .v (.int .i64 width1), .v (.int .u8 sign2), .v (.int .i64 step7), .v (.string t8), .v (.int .i64 k9)] []
abbrev R_ratchetref05_Format : Type := ((ByteArray × Unit) × Unit)
noncomputable def res_ratchetref05_Format : Res E (ByteArray × Unit) Unit := { rows := [], flat := [], keep := 0, rl := (RdL.cons Rd.str RdL.nil), rb := RdBL.nil }
noncomputable def run_ratchetref05_Format : P_ratchetref05_Format → Option R_ratchetref05_Format
 | .start value0 width1 sign2 =>
   if (sign2 == (100 : Int)) = true then
     (run_ratchetbase_Decimal (.start width1)) >>= fun t1 =>
     if (Nat.ble (t1.1.1.size + (⟨#[39, 100]⟩ : ByteArray).size) 9223372036854775807) = true then
       (run_ratchetbase_Decimal (.start value0)) >>= fun t2 =>
       if (Nat.ble ((t1.1.1 ++ (⟨#[39, 100]⟩ : ByteArray)).size + t2.1.1.size) 9223372036854775807) = true then
         some (((t1.1.1 ++ (⟨#[39, 100]⟩ : ByteArray)) ++ t2.1.1, ()), ())
       else none
     else none
   else
     if (sign2 == (104 : Int)) = true then
       run_ratchetref05_Format (.p31 value0 width1 sign2 (4 : Int))
     else
       run_ratchetref05_Format (.p31 value0 width1 sign2 (1 : Int))
 | .p31 value0 width1 sign2 step7 =>
   run_ratchetref05_Format (.p1012 value0 width1 sign2 step7 (⟨#[]⟩ : ByteArray) (0 : Int))
 | .p1012 value0 width1 sign2 step7 t8 k9 =>
   if (decide (k9 < width1)) = true then
     (run_ratchetbase_Power (.start k9)) >>= fun t1 =>
     if (!(t1.1.1 == (0 : Int))) = true then
       (run_ratchetbase_Power (.start step7)) >>= fun t2 =>
       if (!(t2.1.1 == (0 : Int))) = true then
         (span (⟨#[48, 49, 50, 51, 52, 53, 54, 55, 56, 57, 97, 98, 99, 100, 101, 102]⟩ : ByteArray).size (Int.tmod (IntKind.wrap .i64 (Int.tdiv value0 t1.1.1)) t2.1.1) (IntKind.wrap .i64 ((Int.tmod (IntKind.wrap .i64 (Int.tdiv value0 t1.1.1)) t2.1.1) + (1 : Int)))) >>= fun t3 =>
         if (Nat.ble (((⟨#[48, 49, 50, 51, 52, 53, 54, 55, 56, 57, 97, 98, 99, 100, 101, 102]⟩ : ByteArray).extract t3.1 t3.2).size + t8.size) 9223372036854775807) = true then
           run_ratchetref05_Format (.p1012 value0 width1 sign2 step7 (((⟨#[48, 49, 50, 51, 52, 53, 54, 55, 56, 57, 97, 98, 99, 100, 101, 102]⟩ : ByteArray).extract t3.1 t3.2) ++ t8) (IntKind.wrap .i64 (k9 + step7)))
         else none
       else none
     else none
   else
     (run_ratchetbase_Decimal (.start width1)) >>= fun t4 =>
     if (Nat.ble (t4.1.1.size + (⟨#[39]⟩ : ByteArray).size) 9223372036854775807) = true then
       if (Nat.ble ((t4.1.1 ++ (⟨#[39]⟩ : ByteArray)).size + (bytesStr ([sign2] : List Int)).size) 9223372036854775807) = true then
         if (Nat.ble (((t4.1.1 ++ (⟨#[39]⟩ : ByteArray)) ++ (bytesStr ([sign2] : List Int))).size + t8.size) 9223372036854775807) = true then
           some ((((t4.1.1 ++ (⟨#[39]⟩ : ByteArray)) ++ (bytesStr ([sign2] : List Int))) ++ t8, ()), ())
         else none
       else none
     else none
  partial_fixpoint
noncomputable def tab_ratchetref05_Format : List (Plc E P_ratchetref05_Format) := [⟨31, [true, true, true, true], { slots := [0, 1, 2, 7], rows := [], flat := [], keep := 0 }, (Int × (Int × (Int × (Int × Unit)))), Unit, (RdL.cons (Rd.int .i64) (RdL.cons (Rd.int .i64) (RdL.cons (Rd.int .u8) (RdL.cons (Rd.int .i64) RdL.nil)))), RdBL.nil, fun a b => .p31 a.1 a.2.1 a.2.2.1 a.2.2.2.1⟩,
  ⟨1012, [false, false, true, false, true, true, true, true, true], { slots := [0, 1, 2, 7, 8, 9], rows := [], flat := [], keep := 0 }, (Int × (Int × (Int × (Int × (ByteArray × (Int × Unit)))))), Unit, (RdL.cons (Rd.int .i64) (RdL.cons (Rd.int .i64) (RdL.cons (Rd.int .u8) (RdL.cons (Rd.int .i64) (RdL.cons Rd.str (RdL.cons (Rd.int .i64) RdL.nil)))))), RdBL.nil, fun a b => .p1012 a.1 a.2.1 a.2.2.1 a.2.2.2.1 a.2.2.2.2.1 a.2.2.2.2.2.1⟩]
theorem tab_ratchetref05_Format_ok : All (PlcOk 49 0 place_ratchetref05_Format st_ratchetref05_Format) tab_ratchetref05_Format := ⟨⟨rfl, rfl, fun _ _ => rfl, fun _ _ => rfl⟩, ⟨⟨rfl, rfl, fun _ _ => rfl, fun _ _ => rfl⟩, trivial⟩⟩
noncomputable def code_ratchetref05_Format : Code := Tryz.f21.body.getD .skip
noncomputable def spec_ratchetref05_Format : Spec E.S := (Con.add con_ratchetbase_Power (Con.add con_ratchetbase_Decimal noSpec))
theorem spec_ratchetref05_Format_ok : SpecOk E spec_ratchetref05_Format := (Con.add_ok con_ratchetbase_Power_ok (Con.add_ok con_ratchetbase_Decimal_ok noSpec_ok))
theorem good_ratchetref05_Format : ∀ pt r, run_ratchetref05_Format pt = some r → Good E Tryz.f21 code_ratchetref05_Format 0 (res_ratchetref05_Format.av r) (res_ratchetref05_Format.bx r) (place_ratchetref05_Format pt) (st_ratchetref05_Format pt) := by
  refine run_ratchetref05_Format.partial_correctness (fun pt r => Good E Tryz.f21 code_ratchetref05_Format 0 (res_ratchetref05_Format.av r) (res_ratchetref05_Format.bx r) (place_ratchetref05_Format pt) (st_ratchetref05_Format pt)) ?_
  intro run' ih pt r hr
  cases pt <;> exact fn_step (spec := spec_ratchetref05_Format) (wr := (fun i => mem i [])) (l := tab_ratchetref05_Format) (z := 49) (p := res_ratchetref05_Format) E_ok tab_ratchetref05_Format_ok.mem rfl spec_ratchetref05_Format_ok ih (Eq.trans (by kernel_rfl) hr)
noncomputable def con_ratchetref05_Format : Con E := ⟨21, (Int × (Int × (Int × Unit))), Unit, (RwL.cons (Rd.int .i64).w (RwL.cons (Rd.int .i64).w (RwL.cons (Rd.int .u8).w RwL.nil))), RdBL.nil, 0, R_ratchetref05_Format, fun a b => run_ratchetref05_Format (.start a.1 a.2.1 a.2.2.1), res_ratchetref05_Format.av, res_ratchetref05_Format.bx⟩
theorem con_ratchetref05_Format_ok : con_ratchetref05_Format.Ok := fun a b r h => fn_ok (fn := Tryz.f21) (code := code_ratchetref05_Format) E_ok (by kernel_rfl) (by kernel_rfl) (by kernel_rfl) (Nat.le_of_ble_eq_true rfl) (good_ratchetref05_Format (.start a.1 a.2.1 a.2.2.1) r h)

/-! ### ratchet/ratchetlaw05.LexerLiterals -/
inductive P_ratchetlaw05_LexerLiterals where
 | start (s0 : ByteArray) (x1_0 : Int) (x1_1 : Int) (sign2 : Int)
 | p127 (sign2 : Int) (B0_0 : Int) (B0_1 : Int)
 | p1023 (t11 : ByteArray) (B0_0 : Int) (B0_1 : Int)
noncomputable def place_ratchetlaw05_LexerLiterals : P_ratchetlaw05_LexerLiterals → List Bool
 | .start .. => []
 | .p127 .. => [true, true, true, true, true, true]
 | .p1023 .. => [true, true, true, true, true, true, true, true, true]
noncomputable def st_ratchetlaw05_LexerLiterals : P_ratchetlaw05_LexerLiterals → St E.S
 | .start s0 x1_0 x1_1 sign2 => st0 87 [.v (.string s0), .agg [.v (.int .i64 x1_0), .v (.int .i64 x1_1)], .v (.int .u8 sign2)] []
 | .p127 sign2 B0_0 B0_1 => mkSt 87 [2, 4] [.v (.int .u8 sign2), .bp 0 0] [.var 47 [.v (.int .i64 B0_0), .v (.int .i64 B0_1)]]
 | .p1023 t11 B0_0 B0_1 => mkSt 87 [4, 11] [.bp 0 0, .v (.string t11)] [.var 47 [.v (.int .i64 B0_0), .v (.int .i64 B0_1)]]
abbrev R_ratchetlaw05_LexerLiterals : Type := ((Bool × Unit) × Unit)
noncomputable def res_ratchetlaw05_LexerLiterals : Res E (Bool × Unit) Unit := { rows := [], flat := [], keep := 0, rl := (RdL.cons Rd.bool RdL.nil), rb := RdBL.nil }
noncomputable def run_ratchetlaw05_LexerLiterals : P_ratchetlaw05_LexerLiterals → Option R_ratchetlaw05_LexerLiterals
 | .start s0 x1_0 x1_1 sign2 =>
   (some () : Option Unit) >>= fun t1 =>
   if (!true) = true then
     some ((false, ()), ())
   else
     if (decide ((s0.size : Int) > (60 : Int))) = true then
       some ((true, ()), ())
     else
       (run_lexer_ParseLiteral (.start s0)) >>= fun t2 =>
       (run_ratchetref05_Literal (.start s0)) >>= fun t3 =>
       if (t2.1.2.1 != t3.1.2.1) = true then
         some ((false, ()), ())
       else
         if (!((t2.1.1.1 == t3.1.1.1) && ((t2.1.1.2.1 == t3.1.1.2.1) && true))) = true then
           some ((false, ()), ())
         else
           run_ratchetlaw05_LexerLiterals (.p127 sign2 x1_0 x1_1)
 | .p127 sign2 B0_0 B0_1 =>
   (run_lexer_FormatLiteral (.start B0_0 B0_1 sign2)) >>= fun t1 =>
   (run_ratchetref05_FormatErr (.start B0_0 B0_1 sign2)) >>= fun t2 =>
   if (t2.1.1 != (0 : Int)) = true then
     if (t1.1.2.1 == t2.1.1) = true then
       some ((seq t1.1.1 (⟨#[]⟩ : ByteArray), ()), ())
     else
       some ((false, ()), ())
   else
     if (t1.1.2.1 != (0 : Int)) = true then
       some ((false, ()), ())
     else
       (run_ratchetref05_Format (.start B0_0 B0_1 sign2)) >>= fun t3 =>
       if (!(seq t1.1.1 t3.1.1)) = true then
         some ((false, ()), ())
       else
         run_ratchetlaw05_LexerLiterals (.p1023 t1.1.1 B0_0 B0_1)
 | .p1023 t11 B0_0 B0_1 =>
   (run_lexer_ParseLiteral (.start t11)) >>= fun t1 =>
   if (t1.1.2.1 == (0 : Int)) = true then
     some ((((t1.1.1.1 == B0_0) && ((t1.1.1.2.1 == B0_1) && true)), ()), ())
   else
     some ((false, ()), ())
  partial_fixpoint
noncomputable def tab_ratchetlaw05_LexerLiterals : List (Plc E P_ratchetlaw05_LexerLiterals) := [⟨127, [true, true, true, true, true, true], { slots := [2, 4], rows := [], flat := [], keep := 0 }, (Int × (Unit × Unit)), ((Int × (Int × Unit)) × Unit), (RdL.cons (Rd.int .u8) (RdL.cons (Rd.bp 0 0) RdL.nil)), (RdBL.cons (RdB.var 47 (RdL.cons (Rd.int .i64) (RdL.cons (Rd.int .i64) RdL.nil))) RdBL.nil), fun a b => .p127 a.1 b.1.1 b.1.2.1⟩,
  ⟨1023, [true, true, true, true, true, true, true, true, true], { slots := [4, 11], rows := [], flat := [], keep := 0 }, (Unit × (ByteArray × Unit)), ((Int × (Int × Unit)) × Unit), (RdL.cons (Rd.bp 0 0) (RdL.cons Rd.str RdL.nil)), (RdBL.cons (RdB.var 47 (RdL.cons (Rd.int .i64) (RdL.cons (Rd.int .i64) RdL.nil))) RdBL.nil), fun a b => .p1023 a.2.1 b.1.1 b.1.2.1⟩]
theorem tab_ratchetlaw05_LexerLiterals_ok : All (PlcOk 87 0 place_ratchetlaw05_LexerLiterals st_ratchetlaw05_LexerLiterals) tab_ratchetlaw05_LexerLiterals := ⟨⟨rfl, rfl, fun _ _ => rfl, fun _ _ => rfl⟩, ⟨⟨rfl, rfl, fun _ _ => rfl, fun _ _ => rfl⟩, trivial⟩⟩
noncomputable def code_ratchetlaw05_LexerLiterals : Code := Tryz.f6.body.getD .skip
noncomputable def spec_ratchetlaw05_LexerLiterals : Spec E.S := (Con.add con_ratchetref05_Format (Con.add con_ratchetref05_FormatErr (Con.add con_lexer_FormatLiteral (Con.add con_ratchetref05_Literal (Con.add con_lexer_ParseLiteral (Con.add con_ratchetlaw05_awake noSpec))))))
theorem spec_ratchetlaw05_LexerLiterals_ok : SpecOk E spec_ratchetlaw05_LexerLiterals := (Con.add_ok con_ratchetref05_Format_ok (Con.add_ok con_ratchetref05_FormatErr_ok (Con.add_ok con_lexer_FormatLiteral_ok (Con.add_ok con_ratchetref05_Literal_ok (Con.add_ok con_lexer_ParseLiteral_ok (Con.add_ok con_ratchetlaw05_awake_ok noSpec_ok))))))
theorem good_ratchetlaw05_LexerLiterals : ∀ pt r, run_ratchetlaw05_LexerLiterals pt = some r → Good E Tryz.f6 code_ratchetlaw05_LexerLiterals 0 (res_ratchetlaw05_LexerLiterals.av r) (res_ratchetlaw05_LexerLiterals.bx r) (place_ratchetlaw05_LexerLiterals pt) (st_ratchetlaw05_LexerLiterals pt) := by
  refine run_ratchetlaw05_LexerLiterals.partial_correctness (fun pt r => Good E Tryz.f6 code_ratchetlaw05_LexerLiterals 0 (res_ratchetlaw05_LexerLiterals.av r) (res_ratchetlaw05_LexerLiterals.bx r) (place_ratchetlaw05_LexerLiterals pt) (st_ratchetlaw05_LexerLiterals pt)) ?_
  intro run' ih pt r hr
  cases pt <;> exact fn_step (spec := spec_ratchetlaw05_LexerLiterals) (wr := (fun i => mem i [])) (l := tab_ratchetlaw05_LexerLiterals) (z := 87) (p := res_ratchetlaw05_LexerLiterals) E_ok tab_ratchetlaw05_LexerLiterals_ok.mem rfl spec_ratchetlaw05_LexerLiterals_ok ih (Eq.trans (by kernel_rfl) hr)
noncomputable def con_ratchetlaw05_LexerLiterals : Con E := ⟨6, (ByteArray × ((Int × (Int × Unit)) × (Int × Unit))), Unit, (RwL.cons Rd.str.w (RwL.cons (Rw.agg (RwL.cons (Rd.int .i64).w (RwL.cons (Rd.int .i64).w RwL.nil))) (RwL.cons (Rd.int .u8).w RwL.nil))), RdBL.nil, 0, R_ratchetlaw05_LexerLiterals, fun a b => run_ratchetlaw05_LexerLiterals (.start a.1 a.2.1.1 a.2.1.2.1 a.2.2.1), res_ratchetlaw05_LexerLiterals.av, res_ratchetlaw05_LexerLiterals.bx⟩
theorem con_ratchetlaw05_LexerLiterals_ok : con_ratchetlaw05_LexerLiterals.Ok := fun a b r h => fn_ok (fn := Tryz.f6) (code := code_ratchetlaw05_LexerLiterals) E_ok (by kernel_rfl) (by kernel_rfl) (by kernel_rfl) (Nat.le_of_ble_eq_true rfl) (good_ratchetlaw05_LexerLiterals (.start a.1 a.2.1.1 a.2.1.2.1 a.2.2.1) r h)

end Go.Proofs.YtfmkleeneddijaaGreatDoor.Ev.F
