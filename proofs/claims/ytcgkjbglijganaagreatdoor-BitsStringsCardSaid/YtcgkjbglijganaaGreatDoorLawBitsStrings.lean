/- BitsStrings: for every input the law returns true, and each argument reads afterwards as it read before. Conditions: the listed package-level variables start as the program lays them (the card ties them to its text). -/
import Derived.Test.YtcgkjbglijganaaGreatDoorLawC
import Derived.Test.YtcgkjbglijganaaGreatDoorPStr7
set_option linter.unusedVariables false
namespace Go.Proofs.YtcgkjbglijganaaGreatDoor
open Go.Proofs.YtcgkjbglijganaaGreatDoor.Ev Go.Proofs.YtcgkjbglijganaaGreatDoor.Ev.F Go.RowKit

set_option maxRecDepth 100000 in
theorem bitsStrings_args : ArgsR E [23, 3, 9] con_ratchetlaw01_BitsStrings.rl (fun a => (((Lit.int .i64 ((⟨a.1.1, a.1.2.1⟩ : api_Bits).Width)).wf = true) ∧ ((Lit.int .i64 ((⟨a.1.1, a.1.2.1⟩ : api_Bits).Value)).wf = true) ∧ True) ∧ ((Lit.int .i64 a.2.1).wf = true) ∧ (a.2.2.1.size ≤ maxLen) ∧ True) := (ArgsR.cons (ArgR.agg Tryz.underlying23 rfl (fun x => (x.Width, x.Value, ())) (fun a => (⟨a.1, a.2.1⟩ : api_Bits)) (Reads.iso (f := fun a => (⟨a.1, a.2.1⟩ : api_Bits)) (g := fun x => (x.Width, x.Value, ())) (hfg := fun _ => rfl) (Reads.struct Tryz.underlying23 (by kernel_rfl) (ReadsF.cons rfl (by kernel_rfl) (Reads.int Tryz.underlying3) (ReadsF.cons rfl (by kernel_rfl) (Reads.int Tryz.underlying3) ReadsF.nil)))) (fun _ => rfl) (fun _ => rfl)) (ArgsR.cons (ArgR.cell Tryz.underlying3 rfl (Reads.int Tryz.underlying3) (fun _ => rfl)) (ArgsR.cons (ArgR.cell Tryz.underlying9 rfl (Reads.str Tryz.underlying9) (fun _ => rfl)) ArgsR.nil)))
set_option maxRecDepth 100000 in
theorem bitsStrings_lifted (os : Os) (started : os.Started) (H : Type) (enc : TypeId × Value → H) :
    ReturnsInHanded {} Tryz.checked os 3 .any (fun w args => (Rows.bitsStringsSpec.pre enc Tryz.prog Tryz.f3 [] false w args ∧ laidMet Tryz.prog laid w) ∧ sizedMet enc Tryz.prog Tryz.f3 (OpenSpec.ofChange Rows.bitsStringsSpec) false w args)
      (Rows.bitsStringsSpec.post enc Tryz.prog Tryz.f3 false true false false) := by
  refine returnsInHanded_of_change_and (C := Tryz.checked) (X := fun w _ => laidMet Tryz.prog laid w) (fun _ _ _ hh h => h.of_heap hh) own started (by kernel_rfl) Tryz.func3
    (ChangeSpec.witness_at (enc := enc) (C := Tryz.checked) (os := os) (X := fun w _ => laidMet Tryz.prog laid w) false (laidWorld os) #[.agg #[.int .i64 0, .int .i64 0], .int .i64 0, .string ⟨#[]⟩] 8 rfl (by kernel_rfl) (by kernel_rfl) (by kernel_rfl) (by kernel_rfl) (by kernel_rfl) (laidWorld_met os _)) ?_
  intro W base args ds gs before hval hW _ _ hL _
  exact law_calls (E := E) (s := Rows.bitsStringsSpec) (fn := Tryz.f3) (by kernel_rfl) (parsOk (by kernel_rfl)) (tb := 4) rfl Tryz.underlying4 rfl
    (fun ds h => by match ds, h with | [d0, d1, d2], _ => rfl) con_ratchetlaw01_BitsStrings con_ratchetlaw01_BitsStrings_ok (fn0 := Tryz.f3) (fun fn' h => by obtain rfl := Option.some.inj (Tryz.func3.symm.trans h); exact ⟨by kernel_rfl, by kernel_rfl⟩) Tryz.func3
    bitsStrings_args (fun W h => glob_rep h) (fun W h => held_ok h) () rfl (fun a h => ⟨_, (fun a0 a1 a2 _ _ _ => strings_true _ _ _ _) (⟨a.1.1, a.1.2.1⟩ : api_Bits) (a.2.1) (a.2.2.1) h.1 h.2.1 h.2.2.1, rfl⟩) W base args ds gs before hval hW hL
theorem bitsStrings_row : Rows.BitsStringsSaid :=
  OpenClaim.holds_of_wide 3 Tryz.f3 rfl rfl rfl rfl rfl rfl rfl ⟨rfl, rfl, rfl, rfl, rfl⟩ rfl rfl rfl rfl rfl (by kernel_rfl) Tryz.func3 (by kernel_rfl)
    (of_decide_eq_true (by kernel_rfl)) (by unfold Func.isWrapper; rw [if_neg (of_decide_eq_false (by kernel_rfl))]; exact ⟨rfl, rfl⟩)
    (fun os started H enc _ => bitsStrings_lifted os started H enc)
/-- BitsStrings: for every input the law returns true, and its arguments read as they did. -/
theorem bitsStrings_holds : Rows.BitsStringsCardSaid :=
  Claim7.holds_tied_plain_at .later [] [.data, .data, .data, .sentinel, .sentinel, .widerDeep] true (true, "4afeb824491579c7edf7f1a6262beb8026b8eb2f0eb0f3d138426115b880b1d8") true
    bitsStrings_row (fun _ h => by cases h) (by kernel_rfl) (fun _ h => by cases h) bitsStrings_row_tie rfl ⟨rfl, rfl⟩ (by kernel_rfl) rfl
    (fun f fn hf hfn => by
      obtain rfl : f = 3 := Option.some.inj ((show Tryz.prog.funcNamed "ratchet/ratchetlaw01.BitsStrings" = some 3 by kernel_rfl).symm.trans hf) |>.symm
      obtain rfl : fn = Tryz.f3 := (Option.some.inj (Tryz.func3.symm.trans hfn)).symm
      exact ⟨by kernel_rfl, noStandIn (by kernel_rfl)⟩)
    (by kernel_rfl)
#print axioms bitsStrings_holds
end Go.Proofs.YtcgkjbglijganaaGreatDoor
