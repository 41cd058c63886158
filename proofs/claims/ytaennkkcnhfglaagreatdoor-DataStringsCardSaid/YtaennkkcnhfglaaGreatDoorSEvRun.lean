/- A part of the proof. -/
import Derived.Test.YtaennkkcnhfglaaGreatDoorSEvTab
set_option linter.unusedVariables false
set_option linter.unusedSimpArgs false
namespace Go.Proofs.YtaennkkcnhfglaaGreatDoor.Ev
noncomputable section
variable {E : Env}
theorem uS7 {α : Type} : ∀ {x : List (Option α)} {a : List α}, us6 x = some a → x = a.map some
 | [], a, h => by obtain rfl := Option.some.inj h; rfl
 | some y :: l, a, h => by
   unfold us6 at h
   split at h
   · rename_i r hr
     obtain rfl := Option.some.inj h
     rw [uS7 hr]; rfl
   · cases h
 | none :: l, a, h => by cases h
def RdL.all : RdL E (List (AV E.S)) := ⟨some, id, fun x a h => Option.some.inj h⟩
def RdBL.all : RdBL E (List (Box E.S)) := ⟨us6, id, fun x a h => uS7 h⟩
def dec : Nat → Nat → List Bool
 | 0, _ => []
 | n + 1, q => bif Nat.ble q 1 then [] else (Nat.beq (q % 2) 1) :: dec n (q / 2)
end
end Go.Proofs.YtaennkkcnhfglaaGreatDoor.Ev
