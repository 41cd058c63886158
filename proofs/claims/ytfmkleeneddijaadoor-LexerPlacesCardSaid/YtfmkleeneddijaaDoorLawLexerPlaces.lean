/- LexerPlaces: for every input the law returns true, and each argument reads afterwards as it read before. Conditions: the listed package-level variables start as the program lays them (the card ties them to its text). -/
import Derived.Test.YtfmkleeneddijaaDoorLawC
import Derived.Test.YtfmkleeneddijaaDoorPPlace
set_option linter.unusedVariables false
namespace Go.Proofs.YtfmkleeneddijaaDoor
open Go.Proofs.YtfmkleeneddijaaDoor.Ev Go.Proofs.YtfmkleeneddijaaDoor.Ev.F Go.RowKit

set_option maxRecDepth 100000 in
theorem lexerPlaces_args : ArgsR E [9, 3, 47] con_ratchetlaw05_LexerPlaces.rl (fun a => (a.1.size ≤ maxLen) ∧ ((Lit.int .i64 a.2.1).wf = true) ∧ (((Lit.int .i64 ((⟨a.2.2.1.1, a.2.2.1.2.1⟩ : arr2_int).a0)).wf = true) ∧ ((Lit.int .i64 ((⟨a.2.2.1.1, a.2.2.1.2.1⟩ : arr2_int).a1)).wf = true) ∧ True) ∧ True) := (ArgsR.cons (ArgR.cell Tryd.underlying9 rfl (Reads.str Tryd.underlying9) (fun _ => rfl)) (ArgsR.cons (ArgR.cell Tryd.underlying3 rfl (Reads.int Tryd.underlying3) (fun _ => rfl)) (ArgsR.cons (ArgR.agg Tryd.underlying47 rfl (fun x => (x.a0, x.a1, ())) (fun a => (⟨a.1, a.2.1⟩ : arr2_int)) (Reads.iso (f := fun a => (⟨a.1, a.2.1⟩ : arr2_int)) (g := fun x => (x.a0, x.a1, ())) (hfg := fun _ => rfl) (Reads.array Tryd.underlying47 (by kernel_rfl) (ReadsA.cons (by kernel_rfl) (Reads.int Tryd.underlying3) (ReadsA.cons (by kernel_rfl) (Reads.int Tryd.underlying3) ReadsA.nil)))) (fun _ => rfl) (fun _ => rfl)) ArgsR.nil)))
set_option maxRecDepth 100000 in
theorem lexerPlaces_lifted (os : Os) (started : os.Started) (H : Type) (enc : TypeId × Value → H) :
    ReturnsInHanded {} Tryd.checked os 6 .any (fun w args => (Rows.lexerPlacesSpec.pre enc Tryd.prog Tryd.f6 [] false w args ∧ laidMet Tryd.prog laid w) ∧ sizedMet enc Tryd.prog Tryd.f6 (OpenSpec.ofChange Rows.lexerPlacesSpec) false w args)
      (Rows.lexerPlacesSpec.post enc Tryd.prog Tryd.f6 false true false false) := by
  refine returnsInHanded_of_change_and (C := Tryd.checked) (X := fun w _ => laidMet Tryd.prog laid w) (fun _ _ _ hh h => h.of_heap hh) own started (by kernel_rfl) Tryd.func6
    (ChangeSpec.witness_at (enc := enc) (C := Tryd.checked) (os := os) (X := fun w _ => laidMet Tryd.prog laid w) false (laidWorld os) #[.string ⟨#[]⟩, .int .i64 0, .agg #[.int .i64 0, .int .i64 0]] 8 rfl (by kernel_rfl) (by kernel_rfl) (by kernel_rfl) (by kernel_rfl) (by kernel_rfl) (laidWorld_met os _)) ?_
  intro W base args ds gs before hval hW _ _ hL _
  exact law_calls (E := E) (s := Rows.lexerPlacesSpec) (fn := Tryd.f6) (by kernel_rfl) (parsOk (by kernel_rfl)) (tb := 4) rfl Tryd.underlying4 rfl
    (fun ds h => by match ds, h with | [d0, d1, d2], _ => rfl) con_ratchetlaw05_LexerPlaces con_ratchetlaw05_LexerPlaces_ok (fn0 := Tryd.f6) (fun fn' h => by obtain rfl := Option.some.inj (Tryd.func6.symm.trans h); exact ⟨by kernel_rfl, by kernel_rfl⟩) Tryd.func6
    lexerPlaces_args (fun W h => glob_rep h) (fun W h => held_ok h) () rfl (fun a h => ⟨_, (fun a0 a1 a2 _ _ _ => places_true _ _ _ _) (a.1) (a.2.1) (⟨a.2.2.1.1, a.2.2.1.2.1⟩ : arr2_int) h.1 h.2.1 h.2.2.1, rfl⟩) W base args ds gs before hval hW hL
theorem lexerPlaces_row : Rows.LexerPlacesSaid :=
  OpenClaim.holds_of_wide 6 Tryd.f6 rfl rfl rfl rfl rfl rfl rfl ⟨rfl, rfl, rfl, rfl, rfl⟩ rfl rfl rfl rfl rfl (by kernel_rfl) Tryd.func6 (by kernel_rfl)
    (of_decide_eq_true (by kernel_rfl)) (by unfold Func.isWrapper; rw [if_neg (of_decide_eq_false (by kernel_rfl))]; exact ⟨rfl, rfl⟩)
    (fun os started H enc _ => lexerPlaces_lifted os started H enc)
/-- LexerPlaces: for every input the law returns true, and its arguments read as they did. -/
theorem lexerPlaces_holds : Rows.LexerPlacesCardSaid :=
  Claim7.holds_tied_plain_at .later [] [.data, .data, .data, .data, .sentinel, .sentinel, .pinned] true (true, "b6daf86655df53586f9181a07a70728133bfe47d63b0d2c97f6a24c387031ee3") true
    lexerPlaces_row (fun _ h => by cases h) (by kernel_rfl) (fun _ h => by cases h) lexerPlaces_row_tie rfl ⟨rfl, rfl⟩ (by kernel_rfl) rfl
    (fun f fn hf hfn => by
      obtain rfl : f = 6 := Option.some.inj ((show Tryd.prog.funcNamed "ratchet/ratchetlaw05.LexerPlaces" = some 6 by kernel_rfl).symm.trans hf) |>.symm
      obtain rfl : fn = Tryd.f6 := (Option.some.inj (Tryd.func6.symm.trans hfn)).symm
      exact ⟨by kernel_rfl, noStandIn (by kernel_rfl)⟩)
    (by kernel_rfl)
#print axioms lexerPlaces_holds
end Go.Proofs.YtfmkleeneddijaaDoor
