/- A part of the proof. -/
import Derived.Test.YtaennkkcnhfglaaGreatDoorSEvFn
set_option linter.unusedVariables false
set_option linter.unusedSimpArgs false
namespace Go.Proofs.YtaennkkcnhfglaaGreatDoor.Ev
variable {E : Env} {R : Type}
inductive Wk {S : Nat → Type} : AV S → AV S → Prop
 | refl (x : AV S) : Wk x x
 | full (e : Nat) (l : List (S e)) (f : Bool) : Wk (.sl e l f) (.sl e l false)
 | nil (e : Nat) : Wk .nl (.sl e [] false)
 | op0 (e : Nat) : Wk (.v (.pointer none)) (.op e none)
 | op1 (e : Nat) (x : S e) : Wk (.el e x 0) (.op e (some x))
 | so0 (e : Nat) : Wk .nl (.so e none)
 | so1 (e : Nat) (l : List (S e)) (f : Bool) : Wk (.sl e l f) (.so e (some l))
 | so2 (e : Nat) (o : Option (List (S e))) : Wk (.so e o) (.sl e (o.getD []) false)
 | agg (xs ys : List (AV S)) (hl : xs.length = ys.length) (h : ∀ (i : Nat) x y, xs[i]? = some x → ys[i]? = some y → Wk x y) : Wk (.agg xs) (.agg ys)
theorem Rep.wk {w : World} {G : Gh} {L : Nat → Value} {n : Nat} {x y : AV E.S} (hxy : Wk x y) : ∀ {v : Value}, Rep E w G L n x v → Rep E w G L n y v := by
  induction hxy with
  | refl => exact fun h => h
  | full e l f => exact fun h => h.weak (.full e l f)
  | nil e => exact fun h => h.weak (.nil e)
  | op0 e => exact fun h => h.weak (.op0 e)
  | op1 e x => exact fun h => h.weak (.op1 e x)
  | so0 e => exact fun h => h.weak (.so0 e)
  | so1 e l f => exact fun h => h.weak (.so1 e l f)
  | so2 e o => exact fun h => h.weak (.so2 e o)
  | agg xs ys hl h ih =>
    intro v hv
    cases hv with
    | agg _ vs hl2 h2 h1 =>
      refine .agg ys vs (hl ▸ hl2) (fun i y u hy hu => ?_) h1
      have hi : i < xs.length := by rw [hl]; exact (List.getElem?_eq_some_iff.1 hy).1
      exact ih i _ y (List.getElem?_eq_getElem hi) hy (h2 i _ u (List.getElem?_eq_getElem hi) hu)
def WkL {S : Nat → Type} (xs ys : List (AV S)) : Prop := xs.length = ys.length ∧ ∀ (i : Nat) x y, xs[i]? = some x → ys[i]? = some y → Wk x y
theorem WkL.nil {S : Nat → Type} : WkL ([] : List (AV S)) [] := ⟨rfl, fun i x y h => by simp at h⟩
theorem WkL.cons {S : Nat → Type} {x y : AV S} {xs ys : List (AV S)} (h : Wk x y) (k : WkL xs ys) : WkL (x :: xs) (y :: ys) := by
  refine ⟨by simp [k.1], fun i a b ha hb => ?_⟩
  cases i with
  | zero => simp at ha hb; subst ha hb; exact h
  | succ i => exact k.2 i a b (by simpa using ha) (by simpa using hb)
structure Rw (E : Env) (α : Type) where
  rd : AV E.S → Option α
  wt : α → AV E.S
  ok : ∀ x a, rd x = some a → Wk x (wt a)
structure RwL (E : Env) (α : Type) where
  rd : List (AV E.S) → Option α
  wt : α → List (AV E.S)
  ok : ∀ x a, rd x = some a → WkL x (wt a)
def Rd.w {α : Type} (r : Rd E α) : Rw E α := ⟨r.rd, r.wt, fun x a h => by rw [r.ok x a h]; exact .refl _⟩
def Rw.sl (e : Nat) : Rw E (List (E.S e)) := ⟨fun x => match x with | .nl => some [] | .sl e' l f' => (if h : e' = e then some (h ▸ l) else none) | .so e' o => (if h : e' = e then some (h ▸ (o.getD [])) else none) | _ => none, fun l => .sl e l false, fun x a h => by
  split at h
  · rw [← Option.some.inj h]; exact .nil e
  · split at h
    · rename_i he
      subst he
      rw [← Option.some.inj h]
      exact .full _ _ _
    · cases h
  · split at h
    · rename_i he
      subst he
      rw [← Option.some.inj h]
      exact .so2 _ _
    · cases h
  · cases h⟩
def Rw.so (e : Nat) : Rw E (Option (List (E.S e))) := ⟨fun x => match x with | .nl => some none | .sl e' l f' => (if h : e' = e then some (some (h ▸ l)) else none) | .so e' o => (if h : e' = e then some (h ▸ o) else none) | _ => none, fun o => .so e o, fun x a h => by
  split at h
  · rw [← Option.some.inj h]; exact .so0 e
  · split at h
    · rename_i he
      subst he
      rw [← Option.some.inj h]
      exact .so1 _ _ _
    · cases h
  · split at h
    · rename_i he
      subst he
      rw [← Option.some.inj h]
      exact .refl _
    · cases h
  · cases h⟩
def Rw.op (e : Nat) : Rw E (Option (E.S e)) := ⟨fun x => match x with | .op e' o => if h : e' = e then some (h ▸ o) else none | .el e' y 0 => if h : e' = e then some (some (h ▸ y)) else none | .v (.pointer none) => some none | _ => none, fun o => .op e o, fun x a h => by
  split at h
  · split at h
    · rename_i he
      subst he
      rw [← Option.some.inj h]
      exact .refl _
    · cases h
  · split at h
    · rename_i he
      subst he
      rw [← Option.some.inj h]
      exact .op1 _ _
    · cases h
  · rw [← Option.some.inj h]; exact .op0 e
  · cases h⟩
def Rw.agg {α : Type} (r : RwL E α) : Rw E α := ⟨fun x => match x with | .agg cs => r.rd cs | _ => none, fun a => .agg (r.wt a), fun x a h => by
  split at h
  · obtain ⟨h1, h2⟩ := r.ok _ _ h
    exact .agg _ _ h1 h2
  · cases h⟩
def RwL.nil : RwL E Unit := ⟨fun l => match l with | [] => some () | _ => none, fun _ => [], fun x a h => by
  split at h
  · exact .nil
  · cases h⟩
def RwL.cons {α β : Type} (r : Rw E α) (l : RwL E β) : RwL E (α × β) := ⟨fun x => match x with | y :: ys => (match r.rd y, l.rd ys with | some a, some b => some (a, b) | _, _ => none) | _ => none, fun p => r.wt p.1 :: l.wt p.2, fun x a h => by
  split at h
  · split at h
    · rename_i h1 h2
      rw [← Option.some.inj h]
      exact .cons (r.ok _ _ h1) (l.ok _ _ h2)
    · cases h
  · cases h⟩
theorem FnOk.weak {f k : Nat} {xs ys : List (AV E.S)} {bs : List (Box E.S)} {y : AV E.S} {bx : List (Box E.S)} (hw : WkL xs ys) (h : FnOk E f ys bs k y bx) : FnOk E f xs bs k y bx := by
  intro w G L0 vs hg
  refine h w G L0 vs ⟨hg.own, hg.glob, ⟨hw.1 ▸ hg.args.len, fun i y v hy hv => ?_⟩, hg.box, hg.one, hg.held⟩
  have hi : i < xs.length := by rw [hw.1]; exact (List.getElem?_eq_some_iff.1 hy).1
  exact (hg.args.rep i _ v (List.getElem?_eq_getElem hi) hv).wk (hw.2 i _ y (List.getElem?_eq_getElem hi) hy)
structure Con (E : Env) where
  f : Nat
  α : Type
  β : Type
  rl : RwL E α
  rb : RdBL E β
  k : Nat
  R : Type
  run : α → β → Option R
  av : R → AV E.S
  bx : R → List (Box E.S)
def Con.app (c : Con E) (xs : List (AV E.S)) (bs : List (Box E.S)) : Option (Sp E.S) :=
  match c.rl.rd xs, c.rb.rd (bs.map some) with
  | some a, some b => some ⟨c.R, c.k, c.run a b, c.av, c.bx⟩
  | _, _ => none
def Con.Ok (c : Con E) : Prop := ∀ a b r, c.run a b = some r → FnOk E c.f (c.rl.wt a) (c.rb.wt b) c.k (c.av r) (c.bx r)
def vs1 : Spec E.S := fun _ _ _ => none
theorem vs2 : ul9 E (vs1 (E := E)) := fun f xs bs sp h => by cases h
def Con.add (c : Con E) (spec : Spec E.S) : Spec E.S := fun g xs bs =>
  bif Nat.beq g c.f then (match c.app xs bs with | some sp => some sp | none => spec g xs bs) else spec g xs bs
theorem Con.add_ok {c : Con E} {spec : Spec E.S} (hc : c.Ok) (h : ul9 E spec) : ul9 E (c.add spec) := by
  intro g xs bs sp hs
  unfold Con.add at hs
  rw [Bool.cond_eq_ite] at hs
  split at hs
  · rename_i hg
    split at hs
    · rename_i sp' ha
      obtain rfl := Option.some.inj hs
      intro r hr
      unfold Con.app at ha
      split at ha
      · rename_i a b h1 h2
        obtain rfl := Option.some.inj ha
        rw [Nat.eq_of_beq_eq_true hg]
        have hb : c.rb.wt b = bs := by
          have := c.rb.ok _ _ h2
          have h3 : List.map some bs = List.map some (c.rb.wt b) := this
          exact (List.map_inj_right (fun _ _ h => Option.some.inj h)).1 h3.symm
        rw [← hb]
        exact (hc a b r hr).weak (c.rl.ok _ _ h1)
      · cases ha
    · exact h g xs bs sp hs
  · exact h g xs bs sp hs
def All {α : Type 1} (Q : α → Prop) : List α → Prop
 | [] => True
 | x :: l => Q x ∧ All Q l
theorem All.mem {α : Type 1} {Q : α → Prop} : ∀ {l : List α}, All Q l → ∀ x ∈ l, Q x
 | [], _, x, hx => by cases hx
 | y :: l, h, x, hx => by
   rcases List.mem_cons.1 hx with rfl | hx
   · exact h.1
   · exact h.2.mem x hx
structure ua8 (E : Env) where
  c : Con E
  ok : c.Ok
def vS1 : List (ua8 E) → Spec E.S
 | [] => vs1
 | o :: l => o.c.add (vS1 l)
theorem vg8 : ∀ l : List (ua8 E), ul9 E (vS1 l)
 | [] => vs2
 | o :: l => Con.add_ok o.ok (vg8 l)
end Go.Proofs.YtaennkkcnhfglaaGreatDoor.Ev
