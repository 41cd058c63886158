/- LexerLiterals: for every input the law returns true, and each argument reads afterwards as it read before. Conditions: the listed package-level variables start as the program lays them (the card ties them to its text). -/
import Derived.Test.YtfmkleeneddijaaGreatDoorLawC
import Derived.Test.YtfmkleeneddijaaGreatDoorPLitr
set_option linter.unusedVariables false
namespace Go.Proofs.YtfmkleeneddijaaGreatDoor
open Go.Proofs.YtfmkleeneddijaaGreatDoor.Ev Go.Proofs.YtfmkleeneddijaaGreatDoor.Ev.F Go.RowKit

set_option maxRecDepth 100000 in
theorem lexerLiterals_args : ArgsR E [9, 47, 5] con_ratchetlaw05_LexerLiterals.rl (fun a => (a.1.size ≤ maxLen) ∧ (((Lit.int .i64 ((⟨a.2.1.1, a.2.1.2.1⟩ : arr2_int).a0)).wf = true) ∧ ((Lit.int .i64 ((⟨a.2.1.1, a.2.1.2.1⟩ : arr2_int).a1)).wf = true) ∧ True) ∧ ((Lit.int .u8 a.2.2.1).wf = true) ∧ True) := (ArgsR.cons (ArgR.cell Tryz.underlying9 rfl (Reads.str Tryz.underlying9) (fun _ => rfl)) (ArgsR.cons (ArgR.agg Tryz.underlying47 rfl (fun x => (x.a0, x.a1, ())) (fun a => (⟨a.1, a.2.1⟩ : arr2_int)) (Reads.iso (f := fun a => (⟨a.1, a.2.1⟩ : arr2_int)) (g := fun x => (x.a0, x.a1, ())) (hfg := fun _ => rfl) (Reads.array Tryz.underlying47 (by kernel_rfl) (ReadsA.cons (by kernel_rfl) (Reads.int Tryz.underlying3) (ReadsA.cons (by kernel_rfl) (Reads.int Tryz.underlying3) ReadsA.nil)))) (fun _ => rfl) (fun _ => rfl)) (ArgsR.cons (ArgR.cell Tryz.underlying5 rfl (Reads.int Tryz.underlying5) (fun _ => rfl)) ArgsR.nil)))
set_option maxRecDepth 100000 in
theorem lexerLiterals_lifted (os : Os) (started : os.Started) (H : Type) (enc : TypeId × Value → H) :
    ReturnsInHanded {} Tryz.checked os 6 .any (fun w args => (Rows.lexerLiteralsSpec.pre enc Tryz.prog Tryz.f6 [] false w args ∧ laidMet Tryz.prog laid w) ∧ sizedMet enc Tryz.prog Tryz.f6 (OpenSpec.ofChange Rows.lexerLiteralsSpec) false w args)
      (Rows.lexerLiteralsSpec.post enc Tryz.prog Tryz.f6 false true false false) := by
  refine returnsInHanded_of_change_and (C := Tryz.checked) (X := fun w _ => laidMet Tryz.prog laid w) (fun _ _ _ hh h => h.of_heap hh) own started (by kernel_rfl) Tryz.func6
    (ChangeSpec.witness_at (enc := enc) (C := Tryz.checked) (os := os) (X := fun w _ => laidMet Tryz.prog laid w) false (laidWorld os) #[.string ⟨#[]⟩, .agg #[.int .i64 0, .int .i64 0], .int .u8 0] 8 rfl (by kernel_rfl) (by kernel_rfl) (by kernel_rfl) (by kernel_rfl) (by kernel_rfl) (laidWorld_met os _)) ?_
  intro W base args ds gs before hval hW _ _ hL _
  exact law_calls (E := E) (s := Rows.lexerLiteralsSpec) (fn := Tryz.f6) (by kernel_rfl) (parsOk (by kernel_rfl)) (tb := 4) rfl Tryz.underlying4 rfl
    (fun ds h => by match ds, h with | [d0, d1, d2], _ => rfl) con_ratchetlaw05_LexerLiterals con_ratchetlaw05_LexerLiterals_ok (fn0 := Tryz.f6) (fun fn' h => by obtain rfl := Option.some.inj (Tryz.func6.symm.trans h); exact ⟨by kernel_rfl, by kernel_rfl⟩) Tryz.func6
    lexerLiterals_args (fun W h => glob_rep h) (fun W h => held_ok h) () rfl (fun a h => ⟨_, (fun a0 a1 a2 _ _ h => literals_law a0 a1 a2 h) (a.1) (⟨a.2.1.1, a.2.1.2.1⟩ : arr2_int) (a.2.2.1) h.1 h.2.1 h.2.2.1, rfl⟩) W base args ds gs before hval hW hL
theorem lexerLiterals_row : Rows.LexerLiteralsSaid :=
  OpenClaim.holds_of_wide 6 Tryz.f6 rfl rfl rfl rfl rfl rfl rfl ⟨rfl, rfl, rfl, rfl, rfl⟩ rfl rfl rfl rfl rfl (by kernel_rfl) Tryz.func6 (by kernel_rfl)
    (of_decide_eq_true (by kernel_rfl)) (by unfold Func.isWrapper; rw [if_neg (of_decide_eq_false (by kernel_rfl))]; exact ⟨rfl, rfl⟩)
    (fun os started H enc _ => lexerLiterals_lifted os started H enc)
/-- LexerLiterals: for every input the law returns true, and its arguments read as they did. -/
theorem lexerLiterals_holds : Rows.LexerLiteralsCardSaid :=
  Claim7.holds_tied_plain_at .later [] [.data, .data, .data, .data, .sentinel, .sentinel, .pinned] true (true, "d21578ad616a84cfe5bb56869727e05701152885baf4ed509683b95cfaa2253f") true
    lexerLiterals_row (fun _ h => by cases h) (by kernel_rfl) (fun _ h => by cases h) lexerLiterals_row_tie rfl ⟨rfl, rfl⟩ (by kernel_rfl) rfl
    (fun f fn hf hfn => by
      obtain rfl : f = 6 := Option.some.inj ((show Tryz.prog.funcNamed "ratchet/ratchetlaw05.LexerLiterals" = some 6 by kernel_rfl).symm.trans hf) |>.symm
      obtain rfl : fn = Tryz.f6 := (Option.some.inj (Tryz.func6.symm.trans hfn)).symm
      exact ⟨by kernel_rfl, noStandIn (by kernel_rfl)⟩)
    (by kernel_rfl)
#print axioms lexerLiterals_holds
end Go.Proofs.YtfmkleeneddijaaGreatDoor
