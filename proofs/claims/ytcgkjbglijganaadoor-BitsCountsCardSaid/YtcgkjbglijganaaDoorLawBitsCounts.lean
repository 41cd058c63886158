/- BitsCounts: for every input the law returns true, and each argument reads afterwards as it read before. Conditions: the listed package-level variables start as the program lays them (the card ties them to its text). -/
import Derived.Test.YtcgkjbglijganaaDoorLawC
import Derived.Test.YtcgkjbglijganaaDoorPCnt3
set_option linter.unusedVariables false
namespace Go.Proofs.YtcgkjbglijganaaDoor
open Go.Proofs.YtcgkjbglijganaaDoor.Ev Go.Proofs.YtcgkjbglijganaaDoor.Ev.F Go.RowKit

set_option maxRecDepth 100000 in
theorem bitsCounts_args : ArgsR E [23, 57, 53] con_ratchetlaw01_BitsCounts.rl (fun a => (((Lit.int .i64 ((⟨a.1.1, a.1.2.1⟩ : api_Bits).Width)).wf = true) ∧ ((Lit.int .i64 ((⟨a.1.1, a.1.2.1⟩ : api_Bits).Value)).wf = true) ∧ True) ∧ (((Lit.int .i64 ((⟨a.2.1.1, a.2.1.2.1⟩ : arr2_int).a0)).wf = true) ∧ ((Lit.int .i64 ((⟨a.2.1.1, a.2.1.2.1⟩ : arr2_int).a1)).wf = true) ∧ True) ∧ (a.2.2.1.length ≤ maxLen ∧ ∀ x ∈ a.2.2.1, (Lit.int .i64 x).wf = true) ∧ True) := (ArgsR.cons (ArgR.agg Tryd.underlying23 rfl (fun x => (x.Width, x.Value, ())) (fun a => (⟨a.1, a.2.1⟩ : api_Bits)) (Reads.iso (f := fun a => (⟨a.1, a.2.1⟩ : api_Bits)) (g := fun x => (x.Width, x.Value, ())) (hfg := fun _ => rfl) (Reads.struct Tryd.underlying23 (by kernel_rfl) (ReadsF.cons rfl (by kernel_rfl) (Reads.int Tryd.underlying3) (ReadsF.cons rfl (by kernel_rfl) (Reads.int Tryd.underlying3) ReadsF.nil)))) (fun _ => rfl) (fun _ => rfl)) (ArgsR.cons (ArgR.agg Tryd.underlying57 rfl (fun x => (x.a0, x.a1, ())) (fun a => (⟨a.1, a.2.1⟩ : arr2_int)) (Reads.iso (f := fun a => (⟨a.1, a.2.1⟩ : arr2_int)) (g := fun x => (x.a0, x.a1, ())) (hfg := fun _ => rfl) (Reads.array Tryd.underlying57 (by kernel_rfl) (ReadsA.cons (by kernel_rfl) (Reads.int Tryd.underlying3) (ReadsA.cons (by kernel_rfl) (Reads.int Tryd.underlying3) ReadsA.nil)))) (fun _ => rfl) (fun _ => rfl)) (ArgsR.cons (ArgR.cell Tryd.underlying53 rfl (Reads.sl (E := E) (e := 3) Tryd.underlying53 (Nat.le_of_ble_eq_true (by kernel_rfl)) (p := ((Pk.int .i64) : Pk S Int)) (fun _ => by kernel_rfl) (Reads.int Tryd.underlying3)) (fun _ => rfl)) ArgsR.nil)))
set_option maxRecDepth 100000 in
theorem bitsCounts_lifted (os : Os) (started : os.Started) (H : Type) (enc : TypeId × Value → H) :
    ReturnsInHanded {} Tryd.checked os 10 .any (fun w args => (Rows.bitsCountsSpec.pre enc Tryd.prog Tryd.f10 [] false w args ∧ laidMet Tryd.prog laid w) ∧ sizedMet enc Tryd.prog Tryd.f10 (OpenSpec.ofChange Rows.bitsCountsSpec) false w args)
      (Rows.bitsCountsSpec.post enc Tryd.prog Tryd.f10 false true false false) := by
  refine returnsInHanded_of_change_and (C := Tryd.checked) (X := fun w _ => laidMet Tryd.prog laid w) (fun _ _ _ hh h => h.of_heap hh) own started (by kernel_rfl) Tryd.func10
    (ChangeSpec.witness_at (enc := enc) (C := Tryd.checked) (os := os) (X := fun w _ => laidMet Tryd.prog laid w) false (laidWorld os) #[.agg #[.int .i64 0, .int .i64 0], .agg #[.int .i64 0, .int .i64 0], .slice none 0 0] 8 rfl (by kernel_rfl) (by kernel_rfl) (by kernel_rfl) (by kernel_rfl) (by kernel_rfl) (laidWorld_met os _)) ?_
  intro W base args ds gs before hval hW _ _ hL _
  exact law_calls (E := E) (s := Rows.bitsCountsSpec) (fn := Tryd.f10) (by kernel_rfl) (parsOk (by kernel_rfl)) (tb := 4) rfl Tryd.underlying4 rfl
    (fun ds h => by match ds, h with | [d0, d1, d2], _ => rfl) con_ratchetlaw01_BitsCounts con_ratchetlaw01_BitsCounts_ok (fn0 := Tryd.f10) (fun fn' h => by obtain rfl := Option.some.inj (Tryd.func10.symm.trans h); exact ⟨by kernel_rfl, by kernel_rfl⟩) Tryd.func10
    bitsCounts_args (fun W h => glob_rep h) () rfl (fun a h => ⟨_, (fun a0 a1 a2 _ _ _ => counts_true _ _ _ _ _) (⟨a.1.1, a.1.2.1⟩ : api_Bits) (⟨a.2.1.1, a.2.1.2.1⟩ : arr2_int) (a.2.2.1) h.1 h.2.1 h.2.2.1, rfl⟩) W base args ds gs before hval hW hL
theorem bitsCounts_row : Rows.BitsCountsSaid :=
  OpenClaim.holds_of_wide 10 Tryd.f10 rfl rfl rfl rfl rfl rfl rfl ⟨rfl, rfl, rfl, rfl, rfl⟩ rfl rfl rfl rfl rfl (by kernel_rfl) Tryd.func10 (by kernel_rfl)
    (of_decide_eq_true (by kernel_rfl)) (by unfold Func.isWrapper; rw [if_neg (of_decide_eq_false (by kernel_rfl))]; exact ⟨rfl, rfl⟩)
    (fun os started H enc _ => bitsCounts_lifted os started H enc)
/-- BitsCounts: for every input the law returns true, and its arguments read as they did. -/
theorem bitsCounts_holds : Rows.BitsCountsCardSaid :=
  Claim7.holds_tied_plain_at .later [] [.data, .data, .data, .sentinel, .sentinel, .widerDeep] true (true, "657fe34ec5c3f09b27d863e611e48b18dd304c8822417fa5b7188314f2416671") true
    bitsCounts_row (fun _ h => by cases h) (by kernel_rfl) (fun _ h => by cases h) bitsCounts_row_tie rfl ⟨rfl, rfl⟩ (by kernel_rfl) rfl
    (fun f fn hf hfn => by
      obtain rfl : f = 10 := Option.some.inj ((show Tryd.prog.funcNamed "ratchet/ratchetlaw01.BitsCounts" = some 10 by kernel_rfl).symm.trans hf) |>.symm
      obtain rfl : fn = Tryd.f10 := (Option.some.inj (Tryd.func10.symm.trans hfn)).symm
      exact ⟨by kernel_rfl, noStandIn (by kernel_rfl)⟩)
    (by kernel_rfl)
#print axioms bitsCounts_holds
end Go.Proofs.YtcgkjbglijganaaDoor
