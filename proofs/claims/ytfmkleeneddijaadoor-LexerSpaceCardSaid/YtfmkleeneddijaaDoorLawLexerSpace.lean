/- LexerSpace: for every input the law returns true, and each argument reads afterwards as it read before. Conditions: the listed package-level variables start as the program lays them (the card ties them to its text). -/
import Derived.Test.YtfmkleeneddijaaDoorLawC
import Derived.Test.YtfmkleeneddijaaDoorPSpace2
set_option linter.unusedVariables false
namespace Go.Proofs.YtfmkleeneddijaaDoor
open Go.Proofs.YtfmkleeneddijaaDoor.Ev Go.Proofs.YtfmkleeneddijaaDoor.Ev.F Go.RowKit

set_option maxRecDepth 100000 in
theorem lexerSpace_args : ArgsR E [9, 9] con_ratchetlaw05_LexerSpace.rl (fun a => (a.1.size ≤ maxLen) ∧ (a.2.1.size ≤ maxLen) ∧ True) := (ArgsR.cons (ArgR.cell Tryd.underlying9 rfl (Reads.str Tryd.underlying9) (fun _ => rfl)) (ArgsR.cons (ArgR.cell Tryd.underlying9 rfl (Reads.str Tryd.underlying9) (fun _ => rfl)) ArgsR.nil))
set_option maxRecDepth 100000 in
theorem lexerSpace_lifted (os : Os) (started : os.Started) (H : Type) (enc : TypeId × Value → H) :
    ReturnsInHanded {} Tryd.checked os 5 .any (fun w args => (Rows.lexerSpaceSpec.pre enc Tryd.prog Tryd.f5 [] false w args ∧ laidMet Tryd.prog laid w) ∧ sizedMet enc Tryd.prog Tryd.f5 (OpenSpec.ofChange Rows.lexerSpaceSpec) false w args)
      (Rows.lexerSpaceSpec.post enc Tryd.prog Tryd.f5 false true false false) := by
  refine returnsInHanded_of_change_and (C := Tryd.checked) (X := fun w _ => laidMet Tryd.prog laid w) (fun _ _ _ hh h => h.of_heap hh) own started (by kernel_rfl) Tryd.func5
    (ChangeSpec.witness_at (enc := enc) (C := Tryd.checked) (os := os) (X := fun w _ => laidMet Tryd.prog laid w) false (laidWorld os) #[.string ⟨#[]⟩, .string ⟨#[]⟩] 8 rfl (by kernel_rfl) (by kernel_rfl) (by kernel_rfl) (by kernel_rfl) (by kernel_rfl) (laidWorld_met os _)) ?_
  intro W base args ds gs before hval hW _ _ hL _
  exact law_calls (E := E) (s := Rows.lexerSpaceSpec) (fn := Tryd.f5) (by kernel_rfl) (parsOk (by kernel_rfl)) (tb := 4) rfl Tryd.underlying4 rfl
    (fun ds h => by match ds, h with | [d0, d1], _ => rfl) con_ratchetlaw05_LexerSpace con_ratchetlaw05_LexerSpace_ok (fn0 := Tryd.f5) (fun fn' h => by obtain rfl := Option.some.inj (Tryd.func5.symm.trans h); exact ⟨by kernel_rfl, by kernel_rfl⟩) Tryd.func5
    lexerSpace_args (fun W h => glob_rep h) (fun W h => held_ok h) () rfl (fun a h => ⟨_, (fun a0 a1 _ _ => space_true _ _) (a.1) (a.2.1) h.1 h.2.1, rfl⟩) W base args ds gs before hval hW hL
theorem lexerSpace_row : Rows.LexerSpaceSaid :=
  OpenClaim.holds_of_wide 5 Tryd.f5 rfl rfl rfl rfl rfl rfl rfl ⟨rfl, rfl, rfl, rfl, rfl⟩ rfl rfl rfl rfl rfl (by kernel_rfl) Tryd.func5 (by kernel_rfl)
    (of_decide_eq_true (by kernel_rfl)) (by unfold Func.isWrapper; rw [if_neg (of_decide_eq_false (by kernel_rfl))]; exact ⟨rfl, rfl⟩)
    (fun os started H enc _ => lexerSpace_lifted os started H enc)
/-- LexerSpace: for every input the law returns true, and its arguments read as they did. -/
theorem lexerSpace_holds : Rows.LexerSpaceCardSaid :=
  Claim7.holds_tied_plain_at .later [] [.data, .data, .data, .data, .sentinel, .sentinel, .pinned] true (true, "b6daf86655df53586f9181a07a70728133bfe47d63b0d2c97f6a24c387031ee3") true
    lexerSpace_row (fun _ h => by cases h) (by kernel_rfl) (fun _ h => by cases h) lexerSpace_row_tie rfl ⟨rfl, rfl⟩ (by kernel_rfl) rfl
    (fun f fn hf hfn => by
      obtain rfl : f = 5 := Option.some.inj ((show Tryd.prog.funcNamed "ratchet/ratchetlaw05.LexerSpace" = some 5 by kernel_rfl).symm.trans hf) |>.symm
      obtain rfl : fn = Tryd.f5 := (Option.some.inj (Tryd.func5.symm.trans hfn)).symm
      exact ⟨by kernel_rfl, noStandIn (by kernel_rfl)⟩)
    (by kernel_rfl)
#print axioms lexerSpace_holds
end Go.Proofs.YtfmkleeneddijaaDoor
