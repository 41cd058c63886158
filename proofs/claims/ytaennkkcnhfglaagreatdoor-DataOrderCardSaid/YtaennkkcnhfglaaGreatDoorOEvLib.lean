/- A part of the proof. -/
import Derived.Test.YtaennkkcnhfglaaGreatDoorOEvTab
import Derived.Laws.Externs
import Derived.Laws.StandIn
set_option linter.unusedVariables false
namespace Go.Proofs.YtaennkkcnhfglaaGreatDoor.Ev
noncomputable section
variable {E : Env}
theorem uF3.two {w : World} {G : Gh} {L : Nat → Value} {n : Nat} {x y : AV E.S} {vs : List Value} (h : uF3 E w G L n [x, y] vs) : ∃ u v, vs = [u, v] ∧ Rep E w G L n x u ∧ Rep E w G L n y v := by
  match vs, h.len with
  | [u, v], _ => exact ⟨u, v, rfl, h.rep 0 x u rfl rfl, h.rep 1 y v rfl rfl⟩
def wi6 (p : ByteArray × Int × Unit) (_ : Unit) : Option ((Int × Unit) × Unit) := some ((firstIdx p.1 p.2.1.toNat.toUInt8, ()), ())
def uI8 (E : Env) (f : Nat) : Con E := ⟨f, ByteArray × Int × Unit, Unit, .cons Rd.str.w (.cons (Rd.int .u8).w .nil), .nil, 0, (Int × Unit) × Unit, wi6, fun r => .v (.int .i64 r.1.1), fun _ => []⟩
end
end Go.Proofs.YtaennkkcnhfglaaGreatDoor.Ev
