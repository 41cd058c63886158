/- Chapter 31: the design of two caches: each rule, in any state. -/
import Derived.Test.YtjededkgblbamaaGreatDoorCPC0
set_option linter.unusedVariables false
set_option maxRecDepth 100000
namespace Go.Proofs.YtjededkgblbamaaGreatDoor.Ev.F
open Go.Proofs.YtjededkgblbamaaGreatDoor.Ev
noncomputable section
/-- is a rule enabled -/
def cEn (k0 k1 r : Int) : Bool :=
  if r = 0 then k0 == 0 && k1 != 2 else
  if r = 1 then k0 != 2 && k1 == 0 else
  if r = 2 then k0 == 2 else
  if r = 3 then k0 == 1 else
  if r = 4 then k0 == 2 else
  if r = 5 then k0 == 1 && k1 == 1 else
  if r = 6 then k1 == 0 && k0 != 2 else
  if r = 7 then k1 != 2 && k0 == 0 else
  if r = 8 then k1 == 2 else
  if r = 9 then k1 == 1 else
  if r = 10 then k1 == 2 else k1 == 1 && k0 == 1
/-- what a rule does -/
def cNx (p m k0 l0 k1 l1 r : Int) : List Int :=
  if r = 0 then [m, 1, m, k1, l1] else
  if r = 1 then [m, 2, if k0 = 0 then m else l0, k1, l1] else
  if r = 2 then [m, k0, Int.tmod (IntKind.wrap .i64 (l0 + 1)) p, k1, l1] else
  if r = 3 then [m, 0, l0, k1, l1] else
  if r = 4 then [l0, 1, l0, k1, l1] else
  if r = 5 then [m, 0, l0, 2, l1] else
  if r = 6 then [m, k0, l0, 1, m] else
  if r = 7 then [m, k0, l0, 2, if k1 = 0 then m else l1] else
  if r = 8 then [m, k0, l0, k1, Int.tmod (IntKind.wrap .i64 (l1 + 1)) p] else
  if r = 9 then [m, k0, l0, 0, l1] else
  if r = 10 then [l1, k0, l0, 1, l1] else [m, 2, l0, 0, l1]
def cSt (w p k0 k1 r m l0 l1 : Int) : Prop :=
  runF_ratchetbase_Enabled 300 (.start cName [] (cEls w) (cNodes w) cRules [] [] r [] [m, k0, l0, k1, l1]) = some ((cEn k0 k1 r, ()), ()) ∧
  runF_ratchetref31_CacheRule 300 (.start w [m, k0, l0, k1, l1] r) = some ((cEn k0 k1 r, ((), ())), (cNx p m k0 l0 k1 l1 r, ())) ∧
  (cEn k0 k1 r = true → runF_ratchetbase_Happened 300 (.start cName [] (cEls w) (cNodes w) cRules [] [] r [] [m, k0, l0, k1, l1]) = some (((), ()), (cNx p m k0 l0 k1 l1 r, ())))
theorem cSt_of {w p k0 k1 r m l0 l1 : Int} (h1 : runF_ratchetbase_Enabled 300 (.start cName [] (cEls w) (cNodes w) cRules [] [] r [] [m, k0, l0, k1, l1]) = some ((cEn k0 k1 r, ()), ()))
    (h2 : runF_ratchetref31_CacheRule 300 (.start w [m, k0, l0, k1, l1] r) = some ((cEn k0 k1 r, ((), ())), (cNx p m k0 l0 k1 l1 r, ())))
    (h3 : runF_ratchetbase_Happened 300 (.start cName [] (cEls w) (cNodes w) cRules [] [] r [] [m, k0, l0, k1, l1]) = some (((), ()), (cNx p m k0 l0 k1 l1 r, ()))) : cSt w p k0 k1 r m l0 l1 := ⟨h1, h2, fun _ => h3⟩
theorem cSt_no {w p k0 k1 r m l0 l1 : Int} (h1 : runF_ratchetbase_Enabled 300 (.start cName [] (cEls w) (cNodes w) cRules [] [] r [] [m, k0, l0, k1, l1]) = some ((cEn k0 k1 r, ()), ()))
    (h2 : runF_ratchetref31_CacheRule 300 (.start w [m, k0, l0, k1, l1] r) = some ((cEn k0 k1 r, ((), ())), (cNx p m k0 l0 k1 l1 r, ())))
    (h3 : cEn k0 k1 r = false) : cSt w p k0 k1 r m l0 l1 := ⟨h1, h2, fun h => by rw [h3] at h; cases h⟩
end
end Go.Proofs.YtjededkgblbamaaGreatDoor.Ev.F
