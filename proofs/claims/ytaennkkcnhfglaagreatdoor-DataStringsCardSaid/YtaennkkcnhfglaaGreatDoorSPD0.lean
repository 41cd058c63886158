/- A part of the proof. -/
import Derived.Test.YtaennkkcnhfglaaGreatDoorSFF
namespace Go.Proofs.YtaennkkcnhfglaaGreatDoor.Ev.F
open Go.Proofs.YtaennkkcnhfglaaGreatDoor.Ev Go.Proofs
theorem vo4 : uN6 .start = some ((true, ()), ()) :=
  vc4 200 .start _ (by kernel_rfl)
end Go.Proofs.YtaennkkcnhfglaaGreatDoor.Ev.F
