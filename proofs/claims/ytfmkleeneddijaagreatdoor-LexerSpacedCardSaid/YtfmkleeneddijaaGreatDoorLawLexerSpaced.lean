/- LexerSpaced: for every input the law returns true, and each argument reads afterwards as it read before. Conditions: the listed package-level variables start as the program lays them (the card ties them to its text). -/
import Derived.Test.YtfmkleeneddijaaGreatDoorLawC
import Derived.Test.YtfmkleeneddijaaGreatDoorPCheck
set_option linter.unusedVariables false
namespace Go.Proofs.YtfmkleeneddijaaGreatDoor
open Go.Proofs.YtfmkleeneddijaaGreatDoor.Ev Go.Proofs.YtfmkleeneddijaaGreatDoor.Ev.F Go.RowKit

set_option maxRecDepth 100000 in
theorem lexerSpaced_args : ArgsR E [23] con_ratchetlaw05_LexerSpaced.rl (fun a => (a.1.length ≤ maxLen ∧ ∀ x ∈ a.1, ((Lit.int .i64 x.Kind).wf = true) ∧ ((Lit.int .i64 x.At).wf = true) ∧ (x.Text.size ≤ maxLen) ∧ ((Lit.int .i64 x.Value).wf = true) ∧ ((Lit.int .i64 x.Width).wf = true) ∧ True) ∧ True) := (ArgsR.cons (ArgR.cell Tryz.underlying23 rfl (Reads.sl (E := E) (e := 33) Tryz.underlying23 (Nat.le_of_ble_eq_true (by kernel_rfl)) (p := ((Pk.iso (Pk.cons (Pk.int .i64) (Pk.cons (Pk.int .i64) (Pk.cons Pk.str (Pk.cons (Pk.int .i64) (Pk.cons (Pk.int .i64) Pk.unit))))) (fun a => (⟨a.1, a.2.1, a.2.2.1, a.2.2.2.1, a.2.2.2.2.1⟩ : api_LexerToken)) (fun x => (x.Kind, x.At, x.Text, x.Value, x.Width, ())) (fun _ => rfl)) : Pk S api_LexerToken)) (fun _ => by kernel_rfl) (Reads.iso (f := fun a => (⟨a.1, a.2.1, a.2.2.1, a.2.2.2.1, a.2.2.2.2.1⟩ : api_LexerToken)) (g := fun x => (x.Kind, x.At, x.Text, x.Value, x.Width, ())) (hfg := fun _ => rfl) (Reads.struct Tryz.underlying33 (by kernel_rfl) (ReadsF.cons rfl (by kernel_rfl) (Reads.int Tryz.underlying3) (ReadsF.cons rfl (by kernel_rfl) (Reads.int Tryz.underlying3) (ReadsF.cons rfl (by kernel_rfl) (Reads.str Tryz.underlying9) (ReadsF.cons rfl (by kernel_rfl) (Reads.int Tryz.underlying3) (ReadsF.cons rfl (by kernel_rfl) (Reads.int Tryz.underlying3) ReadsF.nil)))))))) (fun _ => rfl)) ArgsR.nil)
set_option maxRecDepth 100000 in
theorem lexerSpaced_lifted (os : Os) (started : os.Started) (H : Type) (enc : TypeId × Value → H) :
    ReturnsInHanded {} Tryz.checked os 4 .any (fun w args => (Rows.lexerSpacedSpec.pre enc Tryz.prog Tryz.f4 [] false w args ∧ laidMet Tryz.prog laid w) ∧ sizedMet enc Tryz.prog Tryz.f4 (OpenSpec.ofChange Rows.lexerSpacedSpec) false w args)
      (Rows.lexerSpacedSpec.post enc Tryz.prog Tryz.f4 false true false false) := by
  refine returnsInHanded_of_change_and (C := Tryz.checked) (X := fun w _ => laidMet Tryz.prog laid w) (fun _ _ _ hh h => h.of_heap hh) own started (by kernel_rfl) Tryz.func4
    (ChangeSpec.witness_at (enc := enc) (C := Tryz.checked) (os := os) (X := fun w _ => laidMet Tryz.prog laid w) false (laidWorld os) #[.slice none 0 0] 8 rfl (by kernel_rfl) (by kernel_rfl) (by kernel_rfl) (by kernel_rfl) (by kernel_rfl) (laidWorld_met os _)) ?_
  intro W base args ds gs before hval hW _ _ hL _
  exact law_calls (E := E) (s := Rows.lexerSpacedSpec) (fn := Tryz.f4) (by kernel_rfl) (parsOk (by kernel_rfl)) (tb := 4) rfl Tryz.underlying4 rfl
    (fun ds h => by match ds, h with | [d0], _ => rfl) con_ratchetlaw05_LexerSpaced con_ratchetlaw05_LexerSpaced_ok (fn0 := Tryz.f4) (fun fn' h => by obtain rfl := Option.some.inj (Tryz.func4.symm.trans h); exact ⟨by kernel_rfl, by kernel_rfl⟩) Tryz.func4
    lexerSpaced_args (fun W h => glob_rep h) (fun W h => held_ok h) () rfl (fun a h => ⟨_, (fun a0 _ => spaced_true _) (a.1) h.1, rfl⟩) W base args ds gs before hval hW hL
theorem lexerSpaced_row : Rows.LexerSpacedSaid :=
  OpenClaim.holds_of_wide 4 Tryz.f4 rfl rfl rfl rfl rfl rfl rfl ⟨rfl, rfl, rfl, rfl, rfl⟩ rfl rfl rfl rfl rfl (by kernel_rfl) Tryz.func4 (by kernel_rfl)
    (of_decide_eq_true (by kernel_rfl)) (by unfold Func.isWrapper; rw [if_neg (of_decide_eq_false (by kernel_rfl))]; exact ⟨rfl, rfl⟩)
    (fun os started H enc _ => lexerSpaced_lifted os started H enc)
/-- LexerSpaced: for every input the law returns true, and its arguments read as they did. -/
theorem lexerSpaced_holds : Rows.LexerSpacedCardSaid :=
  Claim7.holds_tied_plain_at .later [] [.data, .data, .data, .data, .sentinel, .sentinel, .pinned] true (true, "d21578ad616a84cfe5bb56869727e05701152885baf4ed509683b95cfaa2253f") true
    lexerSpaced_row (fun _ h => by cases h) (by kernel_rfl) (fun _ h => by cases h) lexerSpaced_row_tie rfl ⟨rfl, rfl⟩ (by kernel_rfl) rfl
    (fun f fn hf hfn => by
      obtain rfl : f = 4 := Option.some.inj ((show Tryz.prog.funcNamed "ratchet/ratchetlaw05.LexerSpaced" = some 4 by kernel_rfl).symm.trans hf) |>.symm
      obtain rfl : fn = Tryz.f4 := (Option.some.inj (Tryz.func4.symm.trans hfn)).symm
      exact ⟨by kernel_rfl, noStandIn (by kernel_rfl)⟩)
    (by kernel_rfl)
#print axioms lexerSpaced_holds
end Go.Proofs.YtfmkleeneddijaaGreatDoor
