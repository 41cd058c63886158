/- A part of the proof. -/
import Derived.Test.YtaennkkcnhfglaaGreatDoorAEvTab
set_option linter.unusedVariables false
set_option linter.unusedSimpArgs false
namespace Go.Proofs.YtaennkkcnhfglaaGreatDoor.Ev
noncomputable section
variable {E : Env}
theorem vs2 {α : Type} : ∀ {x : List (Option α)} {a : List α}, uE0 x = some a → x = a.map some
 | [], a, h => by obtain rfl := Option.some.inj h; rfl
 | some y :: l, a, h => by
   unfold uE0 at h
   split at h
   · rename_i r hr
     obtain rfl := Option.some.inj h
     rw [vs2 hr]; rfl
   · cases h
 | none :: l, a, h => by cases h
def RdL.all : RdL E (List (AV E.S)) := ⟨some, id, fun x a h => Option.some.inj h⟩
def RdBL.all : RdBL E (List (Box E.S)) := ⟨uE0, id, fun x a h => vs2 h⟩
def resA (k : Nat) (p : List (Nat × Nat)) : Res E (List (AV E.S)) (List (Box E.S)) := { keep := k, done := p.map (·.1), ptrs := p, rl := RdL.all, rb := RdBL.all }
def dec : Nat → Nat → List Bool
 | 0, _ => []
 | n + 1, q => bif Nat.ble q 1 then [] else (Nat.beq (q % 2) 1) :: dec n (q / 2)
def x75 : Code → List Bool → Option Code
 | c, [] => some c
 | c, d :: rs =>
   match x75 c rs, d with
   | some (.seq a _), false => some a
   | some (.seq _ b), true => some b
   | some (.cond _ x _), false => some x
   | some (.cond _ _ y), true => some y
   | some (.block _ b), false => some b
   | some (.loop b), false => some b
   | _, _ => none
def x36 (c : Code) : List Bool → Bool
 | false :: rs => match x75 c rs with | some (.loop _) => true | _ => false
 | _ => false
abbrev RA (E : Env) := List (AV E.S) × List (Box E.S)
def tbA (spec : Spec E.S) (wr : Wr) (code : Code) (z k : Nat) (κ0 : Ex → St E.S → Option (RA E)) : Nat → Tb E (RA E)
 | 0 => fun _ => none
 | m + 1 => fun q => bif x36 code (dec 200 q) then some ⟨{ slots := upTo 0 z, keep := k, close := wr.c q, done := (wr.p q).map (·.1), ptrs := wr.p q }, fun st => bif Nat.beq (enc (dec 200 q)) q then vN5 spec wr (tbA spec wr code z k κ0 m) code κ0 (dec 200 q) st else none⟩ else none
def xW8 (spec : Spec E.S) (wr : Wr) (m : Nat) (fn : Func) (code : Code) (xs : List (AV E.S)) (bs : List (Box E.S)) (k : Nat) : Option (RA E) :=
  vN5 spec wr (tbA spec wr code fn.ntmps k ((resA k (wr.p 0)).fin fn.results) m) code ((resA k (wr.p 0)).fin fn.results) [] (st0 fn.ntmps xs bs)
def vt0 (bs : List (Box E.S)) : Nat := (bs.filter fun b => vx9 (some b)).length
def xF2 (base s : Spec E.S) : Spec E.S := fun g ys cs => match base g ys cs with | some sp => some sp | none => s g ys cs
theorem xF3 {base s : Spec E.S} (h : ua9 E base) (k : ua9 E s) : ua9 E (xF2 base s) := by
  intro g ys cs sp hs
  unfold xF2 at hs
  split at hs
  · rename_i sp' he
    obtain rfl := Option.some.inj hs
    exact h g ys cs _ he
  · exact k g ys cs sp hs
def runA (E : Env) (base : Spec E.S) (wrs : Nat → Wr) (m : Nat) : Nat → Nat → List (AV E.S) → List (Box E.S) → Option (RA E)
 | 0, _, _, _ => none
 | n + 1, f, xs, bs =>
   match E.P.funcs[f]? with
   | some fn =>
     match fn.body with
     | some code => bif (fn.name == "runtime.NumGoroutine") || !Nat.ble (vt0 bs) bs.length then none else
       xW8 (xF2 base fun g ys cs => some ⟨RA E, vt0 cs, runA E base wrs m n g ys cs, fun r => one r.1, fun r => r.2⟩) (wrs f) m fn code xs bs (vt0 bs)
     | none => none
   | none => none
theorem xM9 (hE : E.Ok) {spec : Spec E.S} (hS : ua9 E spec) {wr : Wr} {code : Code} {z k : Nat} {fn : Func} {w0 : World} {G0 : Org} (hk : k = G0.k) {r : RA E} : ∀ m, TbOk E w0 G0 r (tbA spec wr code z k ((resA k (wr.p 0)).fin fn.results) m) code (Post E fn w0 G0 ((resA k (wr.p 0)).av r) ((resA k (wr.p 0)).bx r))
 | 0 => by intro rs c h; cases h
 | m + 1 => by
   intro rs c h
   unfold tbA at h
   rw [Bool.cond_eq_ite] at h
   split at h
   · obtain rfl := Option.some.inj h
     refine ⟨hk, fun st hj a w hI c' Q' hs => ?_⟩
     simp only at hj
     rw [Bool.cond_eq_ite] at hj
     split at hj
     · rename_i he
       have e : dec 200 (enc rs) = rs := vx4 (Nat.eq_of_beq_eq_true he)
       rw [e] at hj
       exact vf9 hE hS (xM9 hE hS hk m) (w46 hE (resA k (wr.p 0)) hk fn r) hs hj hI
     · cases hj
   · cases h
theorem xa1 (hE : E.Ok) {base : Spec E.S} (hbase : ua9 E base) (wrs : Nat → Wr) (m : Nat) : ∀ (n : Nat) {f : Nat} {xs : List (AV E.S)} {bs : List (Box E.S)} {r : RA E}, runA E base wrs m n f xs bs = some r → FnOk E f xs bs (vt0 bs) (one r.1) r.2
 | 0, f, xs, bs, r, h => by cases h
 | n + 1, f, xs, bs, r, h => by
   unfold runA at h
   split at h
   · rename_i fn hf
     split at h
     · rename_i code hb
       rw [Bool.cond_eq_ite] at h
       split at h
       · cases h
       · rename_i hc
         simp only [Bool.or_eq_true, not_or, Bool.not_eq_true, Bool.not_eq_false'] at hc
         have hS : ua9 E (xF2 base fun g ys cs => some ⟨RA E, vt0 cs, runA E base wrs m n g ys cs, fun r => one r.1, fun r => r.2⟩) := by
           refine xF3 hbase ?_
           intro g ys cs sp hs r' hr'
           obtain rfl := Option.some.inj hs
           exact xa1 hE hbase wrs m n hr'
         refine ub3 hE hf hb hc.1 (Nat.le_of_ble_eq_true hc.2) ?_
         intro w0 G0 hG0 c' Q' hs a w hI
         exact vf9 hE hS (xM9 hE hS hG0.symm m) (w46 hE (resA (vt0 bs) ((wrs f).p 0)) hG0.symm fn r) hs h hI
     · cases h
   · cases h
def xs5 (E : Env) (f : Nat) (y : AV E.S) : Con E := ⟨f, Unit, Unit, RwL.nil, RdBL.nil, 0, Unit, fun _ _ => some (), fun _ => y, fun _ => []⟩
theorem xR4 (hE : E.Ok) {base : Spec E.S} (hbase : ua9 E base) {f : Nat} {y : AV E.S} (wrs : Nat → Wr) (m n : Nat) {ys : List (AV E.S)} (hy : one ys = y) (h : runA E base wrs m n f [] [] = some (ys, [])) : (xs5 E f y).Ok := by
  intro a b r _
  have := xa1 hE hbase wrs m n h
  rw [← hy]
  exact this
end
end Go.Proofs.YtaennkkcnhfglaaGreatDoor.Ev
