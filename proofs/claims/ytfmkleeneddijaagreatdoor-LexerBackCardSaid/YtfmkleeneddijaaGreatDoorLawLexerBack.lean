/- LexerBack: for every input the law returns true, and each argument reads afterwards as it read before. Conditions: the listed package-level variables start as the program lays them (the card ties them to its text). -/
import Derived.Test.YtfmkleeneddijaaGreatDoorLawC
import Derived.Test.YtfmkleeneddijaaGreatDoorPBack
set_option linter.unusedVariables false
namespace Go.Proofs.YtfmkleeneddijaaGreatDoor
open Go.Proofs.YtfmkleeneddijaaGreatDoor.Ev Go.Proofs.YtfmkleeneddijaaGreatDoor.Ev.F Go.RowKit

set_option maxRecDepth 100000 in
theorem lexerBack_args : ArgsR E [9] con_ratchetlaw05_LexerBack.rl (fun a => (a.1.size ≤ maxLen) ∧ True) := (ArgsR.cons (ArgR.cell Tryz.underlying9 rfl (Reads.str Tryz.underlying9) (fun _ => rfl)) ArgsR.nil)
set_option maxRecDepth 100000 in
theorem lexerBack_lifted (os : Os) (started : os.Started) (H : Type) (enc : TypeId × Value → H) :
    ReturnsInHanded {} Tryz.checked os 5 .any (fun w args => (Rows.lexerBackSpec.pre enc Tryz.prog Tryz.f5 [] false w args ∧ laidMet Tryz.prog laid w) ∧ sizedMet enc Tryz.prog Tryz.f5 (OpenSpec.ofChange Rows.lexerBackSpec) false w args)
      (Rows.lexerBackSpec.post enc Tryz.prog Tryz.f5 false true false false) := by
  refine returnsInHanded_of_change_and (C := Tryz.checked) (X := fun w _ => laidMet Tryz.prog laid w) (fun _ _ _ hh h => h.of_heap hh) own started (by kernel_rfl) Tryz.func5
    (ChangeSpec.witness_at (enc := enc) (C := Tryz.checked) (os := os) (X := fun w _ => laidMet Tryz.prog laid w) false (laidWorld os) #[.string ⟨#[]⟩] 8 rfl (by kernel_rfl) (by kernel_rfl) (by kernel_rfl) (by kernel_rfl) (by kernel_rfl) (laidWorld_met os _)) ?_
  intro W base args ds gs before hval hW _ _ hL _
  exact law_calls (E := E) (s := Rows.lexerBackSpec) (fn := Tryz.f5) (by kernel_rfl) (parsOk (by kernel_rfl)) (tb := 4) rfl Tryz.underlying4 rfl
    (fun ds h => by match ds, h with | [d0], _ => rfl) con_ratchetlaw05_LexerBack con_ratchetlaw05_LexerBack_ok (fn0 := Tryz.f5) (fun fn' h => by obtain rfl := Option.some.inj (Tryz.func5.symm.trans h); exact ⟨by kernel_rfl, by kernel_rfl⟩) Tryz.func5
    lexerBack_args (fun W h => glob_rep h) (fun W h => held_ok h) () rfl (fun a h => ⟨_, (fun a0 _ => back_true _) (a.1) h.1, rfl⟩) W base args ds gs before hval hW hL
theorem lexerBack_row : Rows.LexerBackSaid :=
  OpenClaim.holds_of_wide 5 Tryz.f5 rfl rfl rfl rfl rfl rfl rfl ⟨rfl, rfl, rfl, rfl, rfl⟩ rfl rfl rfl rfl rfl (by kernel_rfl) Tryz.func5 (by kernel_rfl)
    (of_decide_eq_true (by kernel_rfl)) (by unfold Func.isWrapper; rw [if_neg (of_decide_eq_false (by kernel_rfl))]; exact ⟨rfl, rfl⟩)
    (fun os started H enc _ => lexerBack_lifted os started H enc)
/-- LexerBack: for every input the law returns true, and its arguments read as they did. -/
theorem lexerBack_holds : Rows.LexerBackCardSaid :=
  Claim7.holds_tied_plain_at .later [] [.data, .data, .data, .data, .sentinel, .sentinel, .pinned] true (true, "d21578ad616a84cfe5bb56869727e05701152885baf4ed509683b95cfaa2253f") true
    lexerBack_row (fun _ h => by cases h) (by kernel_rfl) (fun _ h => by cases h) lexerBack_row_tie rfl ⟨rfl, rfl⟩ (by kernel_rfl) rfl
    (fun f fn hf hfn => by
      obtain rfl : f = 5 := Option.some.inj ((show Tryz.prog.funcNamed "ratchet/ratchetlaw05.LexerBack" = some 5 by kernel_rfl).symm.trans hf) |>.symm
      obtain rfl : fn = Tryz.f5 := (Option.some.inj (Tryz.func5.symm.trans hfn)).symm
      exact ⟨by kernel_rfl, noStandIn (by kernel_rfl)⟩)
    (by kernel_rfl)
#print axioms lexerBack_holds
end Go.Proofs.YtfmkleeneddijaaGreatDoor
