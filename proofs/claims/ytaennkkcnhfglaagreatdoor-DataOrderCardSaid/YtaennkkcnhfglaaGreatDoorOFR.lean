/- A part of the proof. -/
import Derived.Test.YtaennkkcnhfglaaGreatDoorOF2
import Derived.Test.YtaennkkcnhfglaaGreatDoorOEvLaid
set_option linter.unusedVariables false
set_option maxRecDepth 100000
namespace Go.Proofs.YtaennkkcnhfglaaGreatDoor.Ev.F
open Go.Proofs Go.Proofs.YtaennkkcnhfglaaGreatDoor.Ev
inductive ue3 : ua1 → Prop
 | mk (x : ua1) (h0 : (Lit.int .i64 x.Kind).wf = true) (h1 : (Lit.int .i64 x.Value).wf = true) (h2 : x.Name.size ≤ maxLen) (h3 : x.Parts.length ≤ maxLen) (h4 : ∀ y ∈ x.Parts, ue3 y) : ue3 x
theorem uF1 : ∀ N, uc6 E N 25 ((Pk.iso (Pk.cons (Pk.int .i64) (Pk.cons (Pk.int .i64) (Pk.cons Pk.str (Pk.cons (Pk.sl 25) Pk.unit)))) (fun a => (⟨a.1, a.2.1, a.2.2.1, a.2.2.2.1⟩ : ua1)) (fun x => (x.Kind, x.Value, x.Name, x.Parts, ())) (fun x => by cases x; rfl))) ue3 := by
  intro N
  induction N using Nat.strongRecOn with
  | ind N ih => exact uc6.mono (uc6.iso (f := fun a => (⟨a.1, a.2.1, a.2.2.1, a.2.2.2.1⟩ : ua1)) (g := fun x => (x.Kind, x.Value, x.Name, x.Parts, ())) (hfg := fun x => by cases x; rfl) (uc6.struct Tryz.underlying25 (by kernel_rfl) (uk2.cons rfl (by kernel_rfl) (uc6.int Tryz.underlying3) (uk2.cons rfl (by kernel_rfl) (uc6.int Tryz.underlying3) (uk2.cons rfl (by kernel_rfl) (uc6.str Tryz.underlying9) (uk2.cons rfl (by kernel_rfl) (uc6.slI (E := E) (e := 25) Tryz.underlying23 (Nat.le_of_ble_eq_true (by kernel_rfl)) (p := ((Pk.iso (Pk.cons (Pk.int .i64) (Pk.cons (Pk.int .i64) (Pk.cons Pk.str (Pk.cons (Pk.sl 25) Pk.unit)))) (fun a => (⟨a.1, a.2.1, a.2.2.1, a.2.2.2.1⟩ : ua1)) (fun x => (x.Kind, x.Value, x.Name, x.Parts, ())) (fun x => by cases x; rfl)) : Pk S ua1)) (fun _ => by kernel_rfl) ih) uk2.nil)))))) fun x h => .mk x h.1 h.2.1 h.2.2.1 h.2.2.2.1.1 h.2.2.2.1.2
end Go.Proofs.YtaennkkcnhfglaaGreatDoor.Ev.F
