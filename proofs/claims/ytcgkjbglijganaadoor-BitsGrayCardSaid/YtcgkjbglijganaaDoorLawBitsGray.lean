/- BitsGray: for every input the law returns true, and each argument reads afterwards as it read before. Conditions: the listed package-level variables start as the program lays them (the card ties them to its text). -/
import Derived.Test.YtcgkjbglijganaaDoorLawC
import Derived.Test.YtcgkjbglijganaaDoorPGray
set_option linter.unusedVariables false
namespace Go.Proofs.YtcgkjbglijganaaDoor
open Go.Proofs.YtcgkjbglijganaaDoor.Ev Go.Proofs.YtcgkjbglijganaaDoor.Ev.F Go.RowKit

set_option maxRecDepth 100000 in
theorem bitsGray_args : ArgsR E [23] con_ratchetlaw01_BitsGray.rl (fun a => (((Lit.int .i64 ((⟨a.1.1, a.1.2.1⟩ : api_Bits).Width)).wf = true) ∧ ((Lit.int .i64 ((⟨a.1.1, a.1.2.1⟩ : api_Bits).Value)).wf = true) ∧ True) ∧ True) := (ArgsR.cons (ArgR.agg Tryd.underlying23 rfl (fun x => (x.Width, x.Value, ())) (fun a => (⟨a.1, a.2.1⟩ : api_Bits)) (Reads.iso (f := fun a => (⟨a.1, a.2.1⟩ : api_Bits)) (g := fun x => (x.Width, x.Value, ())) (hfg := fun _ => rfl) (Reads.struct Tryd.underlying23 (by kernel_rfl) (ReadsF.cons rfl (by kernel_rfl) (Reads.int Tryd.underlying3) (ReadsF.cons rfl (by kernel_rfl) (Reads.int Tryd.underlying3) ReadsF.nil)))) (fun _ => rfl) (fun _ => rfl)) ArgsR.nil)
set_option maxRecDepth 100000 in
theorem bitsGray_lifted (os : Os) (started : os.Started) (H : Type) (enc : TypeId × Value → H) :
    ReturnsInHanded {} Tryd.checked os 8 .any (fun w args => (Rows.bitsGraySpec.pre enc Tryd.prog Tryd.f8 [] false w args ∧ laidMet Tryd.prog laid w) ∧ sizedMet enc Tryd.prog Tryd.f8 (OpenSpec.ofChange Rows.bitsGraySpec) false w args)
      (Rows.bitsGraySpec.post enc Tryd.prog Tryd.f8 false true false false) := by
  refine returnsInHanded_of_change_and (C := Tryd.checked) (X := fun w _ => laidMet Tryd.prog laid w) (fun _ _ _ hh h => h.of_heap hh) own started (by kernel_rfl) Tryd.func8
    (ChangeSpec.witness_at (enc := enc) (C := Tryd.checked) (os := os) (X := fun w _ => laidMet Tryd.prog laid w) false (laidWorld os) #[.agg #[.int .i64 0, .int .i64 0]] 8 rfl (by kernel_rfl) (by kernel_rfl) (by kernel_rfl) (by kernel_rfl) (by kernel_rfl) (laidWorld_met os _)) ?_
  intro W base args ds gs before hval hW _ _ hL _
  exact law_calls (E := E) (s := Rows.bitsGraySpec) (fn := Tryd.f8) (by kernel_rfl) (parsOk (by kernel_rfl)) (tb := 4) rfl Tryd.underlying4 rfl
    (fun ds h => by match ds, h with | [d0], _ => rfl) con_ratchetlaw01_BitsGray con_ratchetlaw01_BitsGray_ok (fn0 := Tryd.f8) (fun fn' h => by obtain rfl := Option.some.inj (Tryd.func8.symm.trans h); exact ⟨by kernel_rfl, by kernel_rfl⟩) Tryd.func8
    bitsGray_args (fun W h => glob_rep h) () rfl (fun a h => ⟨_, (fun a0 _ => gray_true _ _) (⟨a.1.1, a.1.2.1⟩ : api_Bits) h.1, rfl⟩) W base args ds gs before hval hW hL
theorem bitsGray_row : Rows.BitsGraySaid :=
  OpenClaim.holds_of_wide 8 Tryd.f8 rfl rfl rfl rfl rfl rfl rfl ⟨rfl, rfl, rfl, rfl, rfl⟩ rfl rfl rfl rfl rfl (by kernel_rfl) Tryd.func8 (by kernel_rfl)
    (of_decide_eq_true (by kernel_rfl)) (by unfold Func.isWrapper; rw [if_neg (of_decide_eq_false (by kernel_rfl))]; exact ⟨rfl, rfl⟩)
    (fun os started H enc _ => bitsGray_lifted os started H enc)
/-- BitsGray: for every input the law returns true, and its arguments read as they did. -/
theorem bitsGray_holds : Rows.BitsGrayCardSaid :=
  Claim7.holds_tied_plain_at .later [] [.data, .data, .data, .sentinel, .sentinel, .widerDeep] true (true, "657fe34ec5c3f09b27d863e611e48b18dd304c8822417fa5b7188314f2416671") true
    bitsGray_row (fun _ h => by cases h) (by kernel_rfl) (fun _ h => by cases h) bitsGray_row_tie rfl ⟨rfl, rfl⟩ (by kernel_rfl) rfl
    (fun f fn hf hfn => by
      obtain rfl : f = 8 := Option.some.inj ((show Tryd.prog.funcNamed "ratchet/ratchetlaw01.BitsGray" = some 8 by kernel_rfl).symm.trans hf) |>.symm
      obtain rfl : fn = Tryd.f8 := (Option.some.inj (Tryd.func8.symm.trans hfn)).symm
      exact ⟨by kernel_rfl, noStandIn (by kernel_rfl)⟩)
    (by kernel_rfl)
#print axioms bitsGray_holds
end Go.Proofs.YtcgkjbglijganaaDoor
