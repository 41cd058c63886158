/- A part of the proof. -/
import Derived.Test.YtaennkkcnhfglaaGreatDoorNF3
import Derived.Test.YtaennkkcnhfglaaGreatDoorNEvLaid
set_option linter.unusedVariables false
set_option maxRecDepth 100000
namespace Go.Proofs.YtaennkkcnhfglaaGreatDoor.Ev.F
open Go.Proofs Go.Proofs.YtaennkkcnhfglaaGreatDoor.Ev
inductive ue5 : ua0 → Prop
 | mk (x : ua0) (h0 : (Lit.int .i64 x.Kind).wf = true) (h1 : (Lit.int .i64 x.Value).wf = true) (h2 : x.Name.size ≤ maxLen) (h3 : x.Parts.length ≤ maxLen) (h4 : ∀ y ∈ x.Parts, ue5 y) : ue5 x
theorem uM8 : ∀ N, ud4 E N 25 ((Pk.iso (Pk.cons (Pk.int .i64) (Pk.cons (Pk.int .i64) (Pk.cons Pk.str (Pk.cons (Pk.sl 25) Pk.unit)))) (fun a => (⟨a.1, a.2.1, a.2.2.1, a.2.2.2.1⟩ : ua0)) (fun x => (x.Kind, x.Value, x.Name, x.Parts, ())) (fun x => by cases x; rfl))) ue5 := by
  intro N
  induction N using Nat.strongRecOn with
  | ind N ih => exact ud4.mono (ud4.iso (f := fun a => (⟨a.1, a.2.1, a.2.2.1, a.2.2.2.1⟩ : ua0)) (g := fun x => (x.Kind, x.Value, x.Name, x.Parts, ())) (hfg := fun x => by cases x; rfl) (ud4.struct Tryz.underlying25 (by kernel_rfl) (uk4.cons rfl (by kernel_rfl) (ud4.int Tryz.underlying3) (uk4.cons rfl (by kernel_rfl) (ud4.int Tryz.underlying3) (uk4.cons rfl (by kernel_rfl) (ud4.str Tryz.underlying9) (uk4.cons rfl (by kernel_rfl) (ud4.slI (E := E) (e := 25) Tryz.underlying23 (Nat.le_of_ble_eq_true (by kernel_rfl)) (p := ((Pk.iso (Pk.cons (Pk.int .i64) (Pk.cons (Pk.int .i64) (Pk.cons Pk.str (Pk.cons (Pk.sl 25) Pk.unit)))) (fun a => (⟨a.1, a.2.1, a.2.2.1, a.2.2.2.1⟩ : ua0)) (fun x => (x.Kind, x.Value, x.Name, x.Parts, ())) (fun x => by cases x; rfl)) : Pk S ua0)) (fun _ => by kernel_rfl) ih) uk4.nil)))))) fun x h => .mk x h.1 h.2.1 h.2.2.1 h.2.2.2.1.1 h.2.2.2.1.2
end Go.Proofs.YtaennkkcnhfglaaGreatDoor.Ev.F
