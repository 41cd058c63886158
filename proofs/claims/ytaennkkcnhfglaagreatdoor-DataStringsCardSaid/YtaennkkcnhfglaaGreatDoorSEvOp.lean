/- A part of the proof. -/
import Derived.Test.YtaennkkcnhfglaaGreatDoorSEvSt
import Derived.Laws.StructEq
set_option linter.unusedVariables false
namespace Go.Proofs.YtaennkkcnhfglaaGreatDoor.Ev
open Go.RowKit
variable {E : Env}
def ue2 : Out E.S → AV E.S → Prop
 | .val x, y => y = x
 | .chk ok x, y => ok = true ∧ y = x
 | .run _ r f, y => ∃ z, r = some z ∧ f z = some y
 | .bad, _ => False
theorem vr5 (op : BinOp) (t : Nat) (k k' : IntKind) (a b : Int) (w : World) (hk : op = .shl ∨ op = .shr ∨ k = k') (y : AV E.S) (hy : ue2 (u18 (E := E) op k a b) y) :
    ∃ v, (binOp op t (.int k a) (.int k' b)).run E.P w = .ok v w ∧ y = .v v ∧ v.oneCell' = true := by
  cases op <;> simp only [u18, ue2] at hy
  case quo =>
    obtain ⟨h1, rfl⟩ := hy
    obtain rfl : k = k' := by simpa using hk
    have hb : ¬ b = 0 := by simpa using h1
    exact ⟨_, by simp [binOp, Op.intDiv, hb], rfl, rfl⟩
  case rem =>
    obtain ⟨h1, rfl⟩ := hy
    obtain rfl : k = k' := by simpa using hk
    have hb : ¬ b = 0 := by simpa using h1
    exact ⟨_, by simp [binOp, Op.intDiv, hb], rfl, rfl⟩
  case shl =>
    obtain ⟨h1, rfl⟩ := hy
    have hb : ¬ b < 0 := by simpa using h1
    exact ⟨_, by simp [binOp, Op.shift, hb]; rfl, rfl, rfl⟩
  case shr =>
    obtain ⟨h1, rfl⟩ := hy
    have hb : ¬ b < 0 := by simpa using h1
    exact ⟨_, by simp [binOp, Op.shift, hb]; rfl, rfl, rfl⟩
  all_goals
    subst hy
    obtain rfl : k = k' := by simpa using hk
    exact ⟨_, by simp [binOp, Op.intArith, Op.intBits, Op.intCmp, vp1, u57], rfl, rfl⟩
theorem vu3 (op : BinOp) (t : Nat) (a b : ByteArray) (w : World) (y : AV E.S) (hy : ue2 (vu2 (E := E) op a b) y) :
    ∃ v, (binOp op t (.string a) (.string b)).run E.P w = .ok v w ∧ y = .v v ∧ v.oneCell' = true := by
  cases op <;> simp only [vu2, ue2] at hy
  case add =>
    obtain ⟨h1, rfl⟩ := hy
    have hb : ¬ ((a.size + b.size : Nat) : Int) > IntKind.i64.max := by
      have : ((a.size + b.size : Nat) : Int) ≤ 9223372036854775807 := by have := Nat.le_of_ble_eq_true h1; omega
      have e : IntKind.i64.max = 9223372036854775807 := by decide
      rw [e]; omega
    exact ⟨.string (a ++ b), by simp only [binOp, Op.stringOp]; rw [if_neg hb]; rfl, rfl, rfl⟩
  all_goals
    subst hy
    exact ⟨_, by simp [binOp, Op.stringOp, vI1, v01], rfl, rfl⟩
def aggD : TypeDesc → Bool
 | .struct _ | .array _ _ => true
 | _ => false
theorem uL0 {t : Nat} {d : TypeDesc} (h : E.P.underlying t = some d) (w : World) : (isAgg t).run E.P w = .ok (aggD d) w := by
  unfold isAgg
  rw [Sem.run_bind, run_underlying h w]
  cases d <;> simp [aggD]
theorem vm1 {t : Nat} {d : TypeDesc} (h : E.P.underlying t = some d) (w : World) : (sizeOf t).run E.P w = .ok (E.P.cellsOf t) w := by
  have : ∃ i, E.P.info? t = some i := by
    unfold Program.underlying at h
    cases hi : E.P.info? t with
    | none => simp [hi] at h
    | some i => exact ⟨i, rfl⟩
  obtain ⟨i, hi⟩ := this
  simp [sizeOf, typeInfo, hi, Program.cellsOf]
theorem uH6 {α : Type} {m n : Nat} {x y : α} (h : (bif Nat.beq m n then some x else none) = some y) : m = n ∧ y = x := by
  cases hb : Nat.beq m n with
  | false => simp [hb] at h
  | true => simp [hb] at h; exact ⟨Nat.eq_of_beq_eq_true hb, h.symm⟩
theorem ul8 {w : World} {G : Gh} {L : Nat → Value} {n : Nat} {cs : List (AV E.S)} {vs : List Value} (h : Rep E w G L n (.agg cs) (.agg vs.toArray)) {t off : Nat} {y : AV E.S} (hy : ue8 E t cs off = some y) (w' : World) :
    ∃ v, (part t vs.toArray off).run E.P w' = .ok v w' ∧ Rep E w G L n y v := by
  have hv : ∀ vs' : List Value, vs'.toArray = vs.toArray → vs' = vs := fun vs' h => by simpa using congrArg Array.toList h
  generalize hq : Value.agg vs.toArray = q at h
  cases h with
  | agg cs vs' hl h h1 =>
    obtain rfl : vs = vs' := by simpa using hq
    clear hq hv
    have row : ∀ d, E.P.underlying t = some d → aggD d = true → y = .agg ((cs.drop off).take (E.P.cellsOf t)) →
        ∃ v, (part t vs.toArray off).run E.P w' = .ok v w' ∧ Rep E w G L n y v := by
      intro d hd hr hy
      subst hy
      refine ⟨.agg ((vs.drop off).take (E.P.cellsOf t)).toArray, ?_, .agg _ _ (by simp [hl]) (fun i x z hx hz => ?_) (fun z hz => h1 z (List.mem_of_mem_drop (List.mem_of_mem_take hz)))⟩
      · simp only [part, Sem.run_bind, uL0 hd, hr, Result.andThen_ok, if_true, vm1 hd]
        simp
      · rw [List.getElem?_take] at hx hz
        split at hx
        · rename_i hi
          rw [if_pos hi] at hz
          rw [List.getElem?_drop] at hx hz
          exact h _ _ _ hx hz
        · cases hx
    unfold ue8 at hy
    split at hy
    · rename_i fs hu
      obtain ⟨_, hy⟩ := uH6 hy
      exact row _ hu rfl hy
    · rename_i k e hu
      obtain ⟨_, hy⟩ := uH6 hy
      exact row _ hu rfl hy
    · rename_i d h2 h3 hu
      have hi : off < vs.length := by rw [← hl]; exact (List.getElem?_eq_some_iff.1 hy).1
      refine ⟨vs[off], ?_, h off y vs[off] hy (List.getElem?_eq_getElem hi)⟩
      have : aggD d = false := by
        cases d <;> first | rfl | exact absurd rfl (h2 _) | exact absurd rfl (h3 _ _)
      simp only [part, Sem.run_bind, uL0 hu, this, Result.andThen_ok]
      simp [hi]
    · cases hy
theorem Rep.agg_inv {w : World} {G : Gh} {L : Nat → Value} {n : Nat} {cs : List (AV E.S)} {v : Value} (h : Rep E w G L n (.agg cs) v) : ∃ vs : List Value, v = .agg vs.toArray ∧ cs.length = vs.length ∧ (∀ (i : Nat) (x : AV E.S) (y : Value), cs[i]? = some x → vs[i]? = some y → Rep E w G L n x y) ∧ ∀ y ∈ vs, y.oneCell' = true := by
  cases h with
  | agg cs vs hl h h1 => exact ⟨vs, rfl, hl, h, h1⟩
theorem Rep.v_inv {w : World} {G : Gh} {L : Nat → Value} {n : Nat} {x v : Value} (h : Rep E w G L n (.v x) v) : v = x := by cases h; rfl
theorem uQ6 {w : World} {G : Gh} {L : Nat → Value} {n : Nat} (w' : World) (d : Nat) (eq : Nat → AV E.S → AV E.S → Option Bool)
    (heq : ∀ t x y r vx vy, eq t x y = some r → Rep E w G L n x vx → Rep E w G L n y vy → (Op.equalIn d t vx vy).run E.P w' = .ok r w') (xs ys : List (AV E.S)) (vx vy : List Value)
    (hx : Rep E w G L n (.agg xs) (.agg vx.toArray)) (hy : Rep E w G L n (.agg ys) (.agg vy.toArray)) :
    ∀ (fs : List Field) (r : Bool), eqFs E eq xs ys fs = some r → (Op.eqFields d vx.toArray vy.toArray fs).run E.P w' = .ok r w'
 | [], r, h => by
   obtain rfl := Option.some.inj h
   simp [Op.eqFields]
 | f :: fs, r, h => by
   unfold eqFs at h
   cases hn : (f.name == "_") with
   | true => simp [hn] at h
   | false =>
     simp only [hn, cond_false] at h
     have hne : f.name ≠ "_" := by simpa using hn
     split at h
     · rename_i p q hp hq
       split at h
       · rename_i u r' hu hr'
         obtain rfl := Option.some.inj h
         obtain ⟨a, ha1, ha2⟩ := ul8 hx hp w'
         obtain ⟨b, hb1, hb2⟩ := ul8 hy hq w'
         have ih := uQ6 w' d eq heq xs ys vx vy hx hy fs r' hr'
         have he := heq _ _ _ _ _ _ hu ha2 hb2
         simp only [Op.eqFields, hne, ne_eq, not_false_eq_true, if_true, Sem.run_bind, ha1, hb1, he, Result.andThen_ok]
         cases u <;> simp [ih]
       · cases h
     · cases h
theorem uK0 {w : World} {G : Gh} {L : Nat → Value} {n : Nat} (w' : World) (d : Nat) (eq : Nat → AV E.S → AV E.S → Option Bool)
    (heq : ∀ t x y r vx vy, eq t x y = some r → Rep E w G L n x vx → Rep E w G L n y vy → (Op.equalIn d t vx vy).run E.P w' = .ok r w') (xs ys : List (AV E.S)) (vx vy : List Value)
    (hx : Rep E w G L n (.agg xs) (.agg vx.toArray)) (hy : Rep E w G L n (.agg ys) (.agg vy.toArray)) (e : Nat) :
    ∀ (is : List Nat) (r : Bool), vC6 E eq xs ys e is = some r → (Op.eqItems d e (E.P.cellsOf e) vx.toArray vy.toArray is).run E.P w' = .ok r w'
 | [], r, h => by
   obtain rfl := Option.some.inj h
   simp [Op.eqItems]
 | i :: is, r, h => by
   unfold vC6 at h
   split at h
   · rename_i p q hp hq
     split at h
     · rename_i u r' hu hr'
       obtain rfl := Option.some.inj h
       obtain ⟨a, ha1, ha2⟩ := ul8 hx hp w'
       obtain ⟨b, hb1, hb2⟩ := ul8 hy hq w'
       have ih := uK0 w' d eq heq xs ys vx vy hx hy e is r' hr'
       have he := heq _ _ _ _ _ _ hu ha2 hb2
       simp only [Op.eqItems, Sem.run_bind, ha1, hb1, he, Result.andThen_ok]
       cases u <;> simp [ih]
     · cases h
   · cases h
theorem uH8 (hE : E.Ok) {w : World} {G : Gh} {L : Nat → Value} {n : Nat} (w' : World) : ∀ (d D t : Nat) (x y : AV E.S) (r : Bool) (vx vy : Value), d ≤ D → eqAV E d t x y = some r → Rep E w G L n x vx → Rep E w G L n y vy →
    (Op.equalIn D t vx vy).run E.P w' = .ok r w'
 | 0, _, _, _, _, _, _, _, _, h, _, _ => by cases h
 | d + 1, 0, _, _, _, _, _, _, hd, _, _, _ => by omega
 | d + 1, D + 1, t, x, y, r, vx, vy, hd, h, hx, hy => by
   unfold eqAV at h
   split at h
   · rename_i a b hu
     obtain rfl := Option.some.inj h
     obtain rfl := hx.v_inv
     obtain rfl := hy.v_inv
     exact run_equalIn_bool' w' D t a b hu
   · rename_i k0 k a k' b hu
     cases hk : decide (k = k') with
     | false => simp [hk] at h
     | true =>
       simp only [hk, cond_true] at h
       obtain rfl := Option.some.inj h
       obtain rfl : k = k' := of_decide_eq_true hk
       obtain rfl := hx.v_inv
       obtain rfl := hy.v_inv
       exact run_equalIn_int w' D t k k0 a b hu
   · rename_i a b hu
     obtain rfl := Option.some.inj h
     obtain rfl := hx.v_inv
     obtain rfl := hy.v_inv
     rw [vI1]
     exact run_equalIn_string w' D t a b hu
   · rename_i fs xs ys hu
     cases hp : E.plain t with
     | false => simp [hp] at h
     | true =>
       simp only [hp, cond_true] at h
       obtain ⟨vx, rfl, _, _, _⟩ := hx.agg_inv
       obtain ⟨vy, rfl, _, _, _⟩ := hy.agg_inv
       have hf : E.P.fieldsOf t = fs := by simp [Program.fieldsOf, hu]
       rw [run_equalIn_struct w' D t vx.toArray vy.toArray (by rw [hf]; exact hu) (hE.plain t hp).1, hf]
       exact uQ6 w' D (eqAV E d) (fun t x y r vx vy he h1 h2 => uH8 hE w' d D t x y r vx vy (by omega) he h1 h2) xs ys vx vy hx hy _ _ h
   · rename_i ln e xs ys hu
     rw [Bool.cond_eq_ite] at h
     split at h
     · rename_i hc
       rw [Bool.and_eq_true] at hc
       obtain ⟨vx, rfl, _, _, _⟩ := hx.agg_inv
       obtain ⟨vy, rfl, _, _, _⟩ := hy.agg_inv
       obtain ⟨i, hi⟩ := Option.isSome_iff_exists.1 hc.2
       rw [run_equalIn_array w' D vx.toArray vy.toArray hu hi]
       exact uK0 w' D (eqAV E d) (fun t x y r vx vy he h1 h2 => uH8 hE w' d D t x y r vx vy (by omega) he h1 h2) xs ys vx vy hx hy e _ _ h
     · cases h
   · cases h
def uc5 (E : Env) (w : World) (G : Gh) (L : Nat → Value) (n : Nat) (y : AV E.S) (m : Sem Value) : Prop :=
  ∃ v w', m.run E.P w = .ok v w' ∧ Below w.heap.size w w' ∧ Rep E w' G L n y v
theorem uc5.here {w : World} {G : Gh} {L : Nat → Value} {n : Nat} {y : AV E.S} {m : Sem Value} {v : Value} (h : m.run E.P w = .ok v w) (hy : Rep E w G L n y v) : uc5 E w G L n y m := ⟨v, w, h, Below.refl _ _, hy⟩
theorem uJ4 (hE : E.Ok) {w : World} {G : Gh} {L : Nat → Value} {n : Nat} (op : BinOp) (t : Nat) (ox oy : Operand) (x y r : AV E.S) (vx vy : Value) (hx : Rep E w G L n x vx) (hy : Rep E w G L n y vy) (h : ue2 (u04 E op t x y) r) :
    uc5 E w G L n r (do eqGuard op t ox oy vx vy; binOp op t vx vy) := by
  unfold u04 at h
  split at h
  · rename_i k a k' b
    obtain rfl := hx.v_inv
    obtain rfl := hy.v_inv
    have hg : (eqGuard op t ox oy (.int k a) (.int k' b)).run E.P w = .ok () w := by cases op <;> simp [eqGuard]
    have key : (op = .shl ∨ op = .shr ∨ k = k') → ue2 (u18 (E := E) op k a b) r → uc5 E w G L n r (do eqGuard op t ox oy (.int k a) (.int k' b); binOp op t (.int k a) (.int k' b)) := by
      intro h1 h2
      obtain ⟨v, h3, rfl, h4⟩ := vr5 op t k k' a b w h1 r h2
      exact .here (by simp only [Sem.run_bind, hg, Result.andThen_ok, h3]) (.v v h4)
    cases op
    case shl => exact key (.inl rfl) h
    case shr => exact key (.inr (.inl rfl)) h
    all_goals
      cases hk : decide (k = k') with
      | false => simp [hk, ue2] at h
      | true =>
        simp only [hk, cond_true] at h
        exact key (.inr (.inr (of_decide_eq_true hk))) h
  · rename_i a b
    obtain rfl := hx.v_inv
    obtain rfl := hy.v_inv
    have hg : (eqGuard op t ox oy (.string a) (.string b)).run E.P w = .ok () w := by cases op <;> simp [eqGuard]
    obtain ⟨v, h3, rfl, h4⟩ := vu3 op t a b w r h
    exact .here (by simp only [Sem.run_bind, hg, Result.andThen_ok, h3]) (.v v h4)
  · rename_i a b
    obtain rfl := hx.v_inv
    obtain rfl := hy.v_inv
    have hg : (eqGuard op t ox oy (.bool a) (.bool b)).run E.P w = .ok () w := by cases op <;> simp [eqGuard]
    cases op <;> try (simp [ue2] at h; done)
    all_goals
      dsimp only at h
      split at h
      · rename_i u hu
        subst h
        have := uH8 hE w 20 Op.maxDepth t _ _ _ _ _ (by decide) hu hx hy
        refine .here (v := _) (by simp only [Sem.run_bind, hg, Result.andThen_ok, binOp, Op.equal, this]; rfl) (.v _ rfl)
      · exact h.elim
  · rename_i xs ys
    cases hp : E.plain t with
    | false => simp [hp, ue2] at h
    | true =>
      simp only [hp, Bool.not_true, cond_false] at h
      obtain ⟨vx, rfl, _, _, _⟩ := hx.agg_inv
      obtain ⟨vy, rfl, _, _, _⟩ := hy.agg_inv
      have hg : (eqGuard op t ox oy (.agg vx.toArray) (.agg vy.toArray)).run E.P w = .ok () w := run_eqGuard_agg w op t ox oy _ _ (hE.plain t hp).2
      cases op <;> try (simp [ue2] at h; done)
      all_goals
        dsimp only at h
        split at h
        · rename_i u hu
          subst h
          have := uH8 hE w 20 Op.maxDepth t _ _ _ _ _ (by decide) hu hx hy
          refine .here (v := _) (by simp only [Sem.run_bind, hg, Result.andThen_ok, binOp, Op.equal, this]; rfl) (.v _ rfl)
        · exact h.elim
  · exact h.elim
theorem vG4 {w : World} {G : Gh} {L : Nat → Value} {n : Nat} (op : UnOp) (x r : AV E.S) (vx : Value) (hx : Rep E w G L n x vx) (h : ue2 (vS2 (E := E) op x) r) : uc5 E w G L n r (Op.unary op vx) := by
  unfold vS2 at h
  split at h
  · obtain rfl := hx.v_inv
    cases op <;> simp only [ue2] at h <;> try exact h.elim
    all_goals
      subst h
      exact .here (v := _) (by simp [Op.unary, Op.intArith, Op.intBits, vp1, u57]) (.v _ rfl)
  · obtain rfl := hx.v_inv
    cases op <;> simp only [ue2] at h <;> try exact h.elim
    subst h
    exact .here (v := _) (by simp [Op.unary]) (.v _ rfl)
  · exact h.elim
def uD6 (E : Env) (w : World) (G : Gh) (L : Nat → Value) (n b off : Nat) (cs : List (AV E.S)) : Prop :=
  ∀ (j : Nat) c, cs[j]? = some c → ∃ v, w.cell? ⟨b, off + j, none⟩ = some v ∧ v.oneCell' = true ∧ Rep E w G L n c v
theorem u08 {t : Nat} {d : TypeDesc} (h : E.P.underlying t = some d) : ∃ i, E.P.info? t = some i ∧ i.size = E.P.cellsOf t := by
  have : ∃ i, E.P.info? t = some i := by
    unfold Program.underlying at h
    cases hi : E.P.info? t with
    | none => simp [hi] at h
    | some i => exact ⟨i, rfl⟩
  obtain ⟨i, hi⟩ := this
  exact ⟨i, hi, by simp [Program.cellsOf, hi]⟩
theorem u67 {α β : Type} {cs : List α} {R : Nat → α → β → Prop} (h : ∀ (j : Nat) c, cs[j]? = some c → ∃ v, R j c v) : ∃ vs : List β, vs.length = cs.length ∧ ∀ (j : Nat) c v, cs[j]? = some c → vs[j]? = some v → R j c v := by
  induction cs generalizing R with
  | nil => exact ⟨[], rfl, fun j c v h => by simp at h⟩
  | cons a cs ih =>
    obtain ⟨v, hv⟩ := h 0 a rfl
    obtain ⟨vs, h1, h2⟩ := ih (R := fun j => R (j + 1)) (fun j c hc => h (j + 1) c (by simpa using hc))
    refine ⟨v :: vs, by simp [h1], fun j c u hc hu => ?_⟩
    cases j with
    | zero => obtain rfl := Option.some.inj hc; obtain rfl := Option.some.inj hu; exact hv
    | succ j => exact h2 j c u (by simpa using hc) (by simpa using hu)
def vd7 (E : Env) (w : World) (G : Gh) (L : Nat → Value) (n : Nat) (y : AV E.S) (m : Sem Value) : Prop := ∃ v, m.run E.P w = .ok v w ∧ Rep E w G L n y v
theorem u23 {w : World} {G : Gh} {L : Nat → Value} {n : Nat} {b base off t : Nat} {cs : List (AV E.S)} (h : uD6 E w G L n b base cs) {y : AV E.S} (hy : ue8 E t cs off = some y) :
    vd7 E w G L n y (Instr.loadAt t (.pointer (some ⟨b, base + off, none⟩))) := by
  have row : ∀ d, E.P.underlying t = some d → aggD d = true → y = .agg ((cs.drop off).take (E.P.cellsOf t)) → E.P.cellsOf t ≤ ((cs.drop off).take (E.P.cellsOf t)).length → vd7 E w G L n y (Instr.loadAt t (.pointer (some ⟨b, base + off, none⟩))) := by
    intro d hd hr hy hlen
    subst hy
    obtain ⟨i, hi, hsz⟩ := u08 hd
    obtain ⟨vs, hvl, hvs⟩ := u67 (cs := (cs.drop off).take (E.P.cellsOf t)) (R := fun j c v => w.cell? ⟨b, base + off + j, none⟩ = some v ∧ v.oneCell' = true ∧ Rep E w G L n c v) (fun j c hc => by
      rw [List.getElem?_take] at hc
      split at hc
      · rw [List.getElem?_drop] at hc
        obtain ⟨v, h1⟩ := h _ _ hc
        exact ⟨v, by rw [Nat.add_assoc]; exact h1⟩
      · cases hc)
    have hl2 : vs.length = E.P.cellsOf t := by
      rw [hvl]
      have := List.length_take_le (E.P.cellsOf t) (cs.drop off)
      omega
    have hget : ∀ (j : Nat) v, vs[j]? = some v → ∃ c, ((cs.drop off).take (E.P.cellsOf t))[j]? = some c := by
      intro j v hv
      have : j < vs.length := (List.getElem?_eq_some_iff.1 hv).1
      exact ⟨_, List.getElem?_eq_getElem (by omega)⟩
    refine ⟨_, run_loadAt_mid w b (base + off) t vs d (fun j v hv => ?_) hd ?_ (by simp [hi, hsz, hl2]), (.agg _ _ (by omega) (fun j c v hc hv => (hvs j c v hc hv).2.2) fun v hv => ?_)⟩
    · obtain ⟨c, hc⟩ := hget j v hv
      exact (hvs j c v hc hv).1
    · cases d <;> first | rfl | (simp [aggD] at hr)
    · obtain ⟨j, hj⟩ := List.getElem?_of_mem hv
      obtain ⟨c, hc⟩ := hget j v hj
      exact (hvs j c v hc hj).2.1
  unfold ue8 at hy
  split at hy
  · rename_i fs hu
    obtain ⟨hq, hy⟩ := uH6 hy
    exact row _ hu rfl hy (by rw [hq]; exact Nat.le_refl _)
  · rename_i k e hu
    obtain ⟨hq, hy⟩ := uH6 hy
    exact row _ hu rfl hy (by rw [hq]; exact Nat.le_refl _)
  · rename_i d h2 h3 hu
    obtain ⟨v, h4, _, h5⟩ := h _ _ hy
    have : aggD d = false := by
      cases d <;> first | rfl | exact absurd rfl (h2 _) | exact absurd rfl (h3 _ _)
    refine ⟨v, ?_, h5⟩
    simp only [Instr.loadAt, Instr.sureAddr, loadVar, Sem.run_bind, Sem.run_pure, Result.andThen_ok, uL0 hu, this]
    simp [h4]
  · cases hy
theorem uv5 {w : World} {G : Gh} {L : Nat → Value} {n : Nat} {b base off t : Nat} {cs : List (AV E.S)} (h : uD6 E w G L n b base cs) {y : AV E.S} (hy : ue8 E t cs off = some y) :
    uc5 E w G L n y (Instr.loadAt t (.pointer (some ⟨b, base + off, none⟩))) := by
  obtain ⟨v, h1, h2⟩ := u23 h hy
  exact .here h1 h2
theorem u25 {w : World} {G : Gh} {L : Nat → Value} {n : Nat} {t : Nat} {y : Operand} {x : AV E.S} {v : Value} (hx : Rep E w G L n x v) {b : Bool} (h : vQ3 E t y x = some b) : ∃ c, y = .const c ∧ (∀ d, (Op.equalIn (d + 1) t v c).run E.P w = .ok b w) ∧ (∀ (op : BinOp) ox, (eqGuard op t ox y v c).run E.P w = .ok () w) ∧ ((binOp .eql t v c) = (do pure (.bool (← Op.equal t v c)))) ∧ ((binOp .neq t v c) = (do pure (.bool (!(← Op.equal t v c))))) := by
  unfold vQ3 at h
  split at h
  · rename_i hu
    obtain rfl := Option.some.inj h
    obtain rfl := hx.v_inv
    exact ⟨_, rfl, fun d => by unfold Op.equalIn; simp [run_underlying hu], fun op ox => by cases op <;> simp [eqGuard], rfl, rfl⟩
  · rename_i hu
    obtain rfl := Option.some.inj h
    obtain rfl := hx.v_inv
    exact ⟨_, rfl, fun d => by unfold Op.equalIn; simp [run_underlying hu], fun op ox => by cases op <;> simp [eqGuard], rfl, rfl⟩
  · rename_i hu
    obtain rfl := Option.some.inj h
    cases hx
    exact ⟨_, rfl, fun d => by unfold Op.equalIn; simp [run_underlying hu], fun op ox => by cases op <;> simp [eqGuard], rfl, rfl⟩
  · rename_i hu
    obtain rfl := Option.some.inj h
    cases hx
    exact ⟨_, rfl, fun d => by unfold Op.equalIn; simp [run_underlying hu], fun op ox => by cases op <;> simp [eqGuard], rfl, rfl⟩
  · rename_i hu
    obtain rfl := Option.some.inj h
    obtain rfl := hx.v_inv
    exact ⟨_, rfl, fun d => by unfold Op.equalIn; simp [run_underlying hu], fun op ox => by cases op <;> simp [eqGuard], rfl, rfl⟩
  · rename_i hu
    obtain rfl := Option.some.inj h
    cases hx
    exact ⟨_, rfl, fun d => by unfold Op.equalIn; simp [run_underlying hu], fun op ox => by cases op <;> simp [eqGuard], rfl, rfl⟩
  · rename_i hu
    obtain rfl := Option.some.inj h
    cases hx
    exact ⟨_, rfl, fun d => by unfold Op.equalIn; simp [run_underlying hu], fun op ox => by cases op <;> simp [eqGuard], rfl, rfl⟩
  · rename_i hu
    obtain rfl := Option.some.inj h
    cases hx <;> exact ⟨_, rfl, fun d => by unfold Op.equalIn; simp [run_underlying hu], fun op ox => by cases op <;> simp [eqGuard], rfl, rfl⟩
  · rename_i hu
    obtain rfl := Option.some.inj h
    cases hx with
    | op0 => exact ⟨_, rfl, fun d => by unfold Op.equalIn; simp [run_underlying hu], fun op ox => by cases op <;> simp [eqGuard], rfl, rfl⟩
    | op1 _ x _ h =>
      cases h
      exact ⟨_, rfl, fun d => by unfold Op.equalIn; simp [run_underlying hu], fun op ox => by cases op <;> simp [eqGuard], rfl, rfl⟩
  · cases h
theorem uO0 {w : World} {G : Gh} {L : Nat → Value} {n : Nat} {t : Nat} {y : Operand} {x : AV E.S} {v : Value} (hx : Rep E w G L n x v) (h : vF9 E t y x = some true) : ∃ c, y = .const c ∧ (∀ d, (Op.equalIn (d + 1) t v c).run E.P w = .ok false w) ∧ (∀ (op : BinOp) ox, (eqGuard op t ox y v c).run E.P w = .ok () w) ∧ ((binOp .eql t v c) = (do pure (.bool (← Op.equal t v c)))) ∧ ((binOp .neq t v c) = (do pure (.bool (!(← Op.equal t v c))))) := by
  unfold vF9 at h
  split at h
  · rename_i e l f
    split at h
    · rename_i hu
      have hl : l ≠ [] := by
        rintro rfl
        simp at h
      generalize hq : AV.sl e l f = q at hx
      cases hx <;> first | (cases hq; done) | skip
      · cases hq; exact absurd rfl hl
      · cases hq; exact absurd rfl hl
      · cases hq
        exact ⟨_, rfl, fun d => by unfold Op.equalIn; simp [run_underlying hu], fun op ox => by cases op <;> simp [eqGuard], rfl, rfl⟩
    · cases h
  · cases h
theorem uO4 {w : World} {G : Gh} {L : Nat → Value} {n : Nat} {t : Nat} {y : Operand} {x : AV E.S} {v : Value} {r : Option Bool} {b : Bool} (hx : Rep E w G L n x v) (h : vG1 E t y x = some r) (hr : r = some b) : ∃ c, y = .const c ∧ (∀ d, (Op.equalIn (d + 1) t v c).run E.P w = .ok b w) ∧ (∀ (op : BinOp) ox, (eqGuard op t ox y v c).run E.P w = .ok () w) ∧ ((binOp .eql t v c) = (do pure (.bool (← Op.equal t v c)))) ∧ ((binOp .neq t v c) = (do pure (.bool (!(← Op.equal t v c))))) := by
  unfold vG1 at h
  split at h
  · rename_i e o
    split at h
    · rename_i hu
      have h := Option.some.inj h
      rw [← h] at hr
      cases o with
      | none =>
        obtain rfl := Option.some.inj hr
        cases hx
        exact ⟨_, rfl, fun d => by unfold Op.equalIn; simp [run_underlying hu], fun op ox => by cases op <;> simp [eqGuard], rfl, rfl⟩
      | some l =>
        cases l with
        | nil => cases hr
        | cons z l =>
          obtain rfl := Option.some.inj hr
          cases hx with
          | so1 _ _ _ hx =>
            cases hx
            exact ⟨_, rfl, fun d => by unfold Op.equalIn; simp [run_underlying hu], fun op ox => by cases op <;> simp [eqGuard], rfl, rfl⟩
    · cases h
  · cases h
theorem vj1 (hE : E.Ok) {w : World} {G : Gh} {L : Nat → Value} {n : Nat} (op : BinOp) (t : Nat) (ox oy : Operand) (x y r : AV E.S) (vx vy : Value) (hx : Rep E w G L n x vx) (hy : Rep E w G L n y vy) (hc : ∀ c, oy = .const c → vy = c) (h : ue2 (u56 E op t oy x y) r) :
    uc5 E w G L n r (do eqGuard op t ox oy vx vy; binOp op t vx vy) := by
  have eqr : ∀ {c : Value} {b : Bool}, (∀ d, (Op.equalIn (d + 1) t vx c).run E.P w = .ok b w) → (Op.equal t vx c).run E.P w = .ok b w := fun h => h 9999
  unfold u56 at h
  split at h
  · rename_i b hn
    obtain ⟨c, rfl, h1, h2, h3, _⟩ := u25 hx hn
    obtain rfl := hc c rfl
    have hr : r = (AV.v (.bool b)) := h
    subst hr
    refine .here (v := .bool b) ?_ (.v _ rfl)
    rw [h3]
    simp only [Sem.run_bind, h2, Result.andThen_ok, eqr h1, Sem.run_pure]
  · rename_i b hn
    obtain ⟨c, rfl, h1, h2, _, h3⟩ := u25 hx hn
    obtain rfl := hc c rfl
    have hr : r = (AV.v (.bool (!b))) := h
    subst hr
    refine .here (v := .bool (!b)) ?_ (.v _ rfl)
    rw [h3]
    simp only [Sem.run_bind, h2, Result.andThen_ok, eqr h1, Sem.run_pure]
  · split at h
    · rename_i r0 hn
      obtain ⟨b, hb, hr⟩ := h
      obtain ⟨c, rfl, h1, h2, h3, _⟩ := uO4 hx hn hb
      obtain rfl := hc c rfl
      have hr : r = (AV.v (.bool b)) := (Option.some.inj hr).symm
      subst hr
      refine .here (v := .bool b) ?_ (.v _ rfl)
      rw [h3]
      simp only [Sem.run_bind, h2, Result.andThen_ok, eqr h1, Sem.run_pure]
    split at h
    · rename_i b hn
      obtain ⟨hb, hr⟩ := h
      subst hb
      obtain ⟨c, rfl, h1, h2, h3, _⟩ := uO0 hx hn
      obtain rfl := hc c rfl
      subst hr
      refine .here (v := .bool false) ?_ (.v _ rfl)
      rw [h3]
      simp only [Sem.run_bind, h2, Result.andThen_ok, eqr h1, Sem.run_pure]
    · exact uJ4 hE _ t ox oy x y r vx vy hx hy h
  · split at h
    · rename_i r0 hn
      obtain ⟨b, hb, hr⟩ := h
      obtain ⟨c, rfl, h1, h2, _, h3⟩ := uO4 hx hn hb
      obtain rfl := hc c rfl
      have hr : r = (AV.v (.bool (!b))) := (Option.some.inj hr).symm
      subst hr
      refine .here (v := .bool (!b)) ?_ (.v _ rfl)
      rw [h3]
      simp only [Sem.run_bind, h2, Result.andThen_ok, eqr h1, Sem.run_pure]
    split at h
    · rename_i b hn
      obtain ⟨hb, hr⟩ := h
      subst hb
      obtain ⟨c, rfl, h1, h2, _, h3⟩ := uO0 hx hn
      obtain rfl := hc c rfl
      subst hr
      refine .here (v := .bool true) ?_ (.v _ rfl)
      rw [h3]
      simp only [Sem.run_bind, h2, Result.andThen_ok, eqr h1, Sem.run_pure]
      rfl
    · exact uJ4 hE _ t ox oy x y r vx vy hx hy h
  · exact uJ4 hE _ t ox oy x y r vx vy hx hy h
structure RL (E : Env) (w : World) (G : Gh) (L : Nat → Value) (n : Nat) (cs : List (AV E.S)) (vs : List Value) : Prop where
  len : cs.length = vs.length
  rep : ∀ (i : Nat) (x : AV E.S) (y : Value), cs[i]? = some x → vs[i]? = some y → Rep E w G L n x y
  one : ∀ y ∈ vs, y.oneCell' = true
theorem Rep.cells {w : World} {G : Gh} {L : Nat → Value} {n : Nat} (hL : ∀ c, c < n → (L c).oneCell' = true) {x : AV E.S} {v : Value} (h : Rep E w G L n x v) (hx : x.isCell = true ∨ ∃ cs, x = .agg cs) : RL E w G L n (cellsOf x) v.cells.toList := by
  rcases hx with hx | ⟨cs, rfl⟩
  · have h1 := h.oneCell hL hx
    have e1 : cellsOf x = [x] := by cases x <;> first | rfl | (simp [AV.isCell] at hx)
    have e2 : v.cells.toList = [v] := by cases v <;> first | rfl | (simp [Value.oneCell'] at h1)
    rw [e1, e2]
    refine ⟨rfl, fun i x' y h2 h3 => ?_, fun y hy => ?_⟩
    · cases i with
      | zero => obtain rfl := Option.some.inj h2; obtain rfl := Option.some.inj h3; exact h
      | succ i => simp at h2
    · rw [List.mem_singleton.1 hy]; exact h1
  · obtain ⟨vs, rfl, hl, h2, h3⟩ := h.agg_inv
    exact ⟨by simpa [cellsOf, Value.cells] using hl, by simpa [cellsOf, Value.cells] using h2, by simpa [Value.cells] using h3⟩
theorem uu3 {S : Nat → Type} {x : AV S} (h : okC x = true) : x.isCell = true ∨ ∃ cs, x = .agg cs := by
  cases x <;> first | exact .inl rfl | exact .inr ⟨_, rfl⟩ | (simp [okC] at h)
theorem ue1 {α : Type} (cs : List α) (off : Nat) (new : List α) (h : off + new.length ≤ cs.length) : (setCells cs off new).length = cs.length := by
  simp [setCells]; omega
theorem uc7 {α : Type} (cs : List α) (off : Nat) (new : List α) (h : off + new.length ≤ cs.length) (i : Nat) : (setCells cs off new)[i]? = if i < off then cs[i]? else if i < off + new.length then new[i - off]? else cs[i]? := by
  unfold setCells
  rw [List.append_assoc, List.getElem?_append, List.length_take]
  have e : min off cs.length = off := by omega
  rw [e]
  split
  · rw [List.getElem?_take]; simp [*]
  · rw [List.getElem?_append]
    by_cases h2 : i < off + new.length
    · rw [if_pos (by omega), if_pos h2]
    · rw [if_neg (by omega), if_neg h2, List.getElem?_drop]
      congr 1
      omega
theorem RL.set {w : World} {G : Gh} {L : Nat → Value} {n : Nat} {cs : List (AV E.S)} {vs : List Value} (h : RL E w G L n cs vs) {off : Nat} {new : List (AV E.S)} {nv : List Value} (hn : RL E w G L n new nv) (hle : off + new.length ≤ cs.length) :
    RL E w G L n (setCells cs off new) (setCells vs off nv) := by
  have h1 := h.len
  have h2 := hn.len
  refine ⟨by rw [ue1 _ _ _ hle, ue1 _ _ _ (by omega)]; exact h1, fun i x y hx hy => ?_, fun y hy => ?_⟩
  · rw [uc7 _ _ _ hle] at hx
    rw [uc7 _ _ _ (by omega)] at hy
    rw [← h2] at hy
    split at hx
    · rename_i hi; rw [if_pos hi] at hy; exact h.rep _ _ _ hx hy
    · rename_i hi
      rw [if_neg hi] at hy
      split at hx
      · rename_i hi; rw [if_pos hi] at hy; exact hn.rep _ _ _ hx hy
      · rename_i hi; rw [if_neg hi] at hy; exact h.rep _ _ _ hx hy
  · unfold setCells at hy
    rcases List.mem_append.1 hy with hy | hy
    · rcases List.mem_append.1 hy with hy | hy
      · exact h.one _ (List.mem_of_mem_take hy)
      · exact hn.one _ hy
    · exact h.one _ (List.mem_of_mem_drop hy)
theorem uK3 (off : Nat) : ∀ (new : List Value) (k : Nat) (cs : Array Value), off + k + new.length ≤ cs.size →
    ((new.zipIdx k).foldl (fun cs (x : Value × Nat) => cs.setIfInBounds (off + x.2) x.1) cs).toList = setCells cs.toList (off + k) new
 | [], k, cs, _ => by simp [setCells]
 | v :: new, k, cs, h => by
   simp only [List.zipIdx_cons, List.foldl_cons]
   simp only [List.length_cons] at h
   rw [uK3 off new (k + 1) _ (by simp; omega)]
   apply List.ext_getElem?
   intro i
   rw [uc7 _ _ _ (by simp; omega), uc7 _ _ _ (by simp; omega)]
   simp only [Array.toList_setIfInBounds, List.length_cons, List.getElem?_set]
   have hsz : off + k < cs.toList.length := by simp; omega
   by_cases h1 : i < off + k
   · rw [if_pos (by omega), if_neg (by omega), if_pos h1]
   · by_cases h2 : i = off + k
     · subst h2
       rw [if_pos (by omega), if_pos rfl, if_pos hsz, if_neg (by omega), if_pos (by omega)]
       simp
     · rw [if_neg (by omega)]
       by_cases h3 : i < off + (k + 1) + new.length
       · rw [if_pos h3, if_neg h1, if_pos (by omega)]
         have : i - (off + k) = (i - (off + (k + 1))) + 1 := by omega
         rw [this]; simp
       · rw [if_neg h3, if_neg (by omega), if_neg h1, if_neg (by omega)]
theorem uQ9 {w : World} {G : Gh} {L : Nat → Value} {n : Nat} (hL : ∀ c, c < n → (L c).oneCell' = true) (place : Nat → Option (Nat × Nat)) :
    ∀ (ps : List (Nat × AV E.S)) (pv : List (Nat × Value)) (cs : List (AV E.S)) (va : Array Value) (cs' : List (AV E.S)),
      ps.length = pv.length → (∀ (i : Nat) (p : Nat × AV E.S) (q : Nat × Value), ps[i]? = some p → pv[i]? = some q → p.1 = q.1 ∧ Rep E w G L n p.2 q.2) → RL E w G L n cs va.toList →
      uo6 cs (ps.map fun p => (place p.1, p.2)) = some cs' → ∃ va', Instr.fill place va pv = some va' ∧ RL E w G L n cs' va'.toList
 | [], [], cs, va, cs', _, _, h, hf => by
   obtain rfl := Option.some.inj hf
   exact ⟨va, rfl, h⟩
 | p :: ps, q :: pv, cs, va, cs', hl, hp, h, hf => by
   obtain ⟨h1, h2⟩ := hp 0 p q rfl rfl
   obtain ⟨i, x⟩ := p
   obtain ⟨j, v⟩ := q
   simp only at h1 h2
   subst h1
   simp only [List.map_cons] at hf
   unfold uo6 at hf
   cases hpl : place i with
   | none => simp only [hpl] at hf; cases hf
   | some os =>
     obtain ⟨off, size⟩ := os
     simp only [hpl] at hf
     cases hb1 : okC x && Nat.beq (cellsOf x).length size with
     | false => simp [hb1] at hf
     | true =>
       have hok : okC x = true := (Bool.and_eq_true _ _ ▸ hb1).1
       cases hb2 : Nat.ble (off + size) cs.length with
       | false => simp [hb1, hb2] at hf
       | true =>
         simp only [hb1, hb2, cond_true] at hf
         have e1 : (cellsOf x).length = size := Nat.eq_of_beq_eq_true ((Bool.and_eq_true _ _ ▸ hb1).2)
         have e2 : off + size ≤ cs.length := Nat.le_of_ble_eq_true hb2
         have hx := uu3 hok
         have hc := h2.cells hL hx
         have hlen := hc.len
         have hvl := h.len
         have hset := h.set hc (off := off) (by omega)
         have hfold := uK3 off v.cells.toList 0 va (by simp at hlen hvl ⊢; omega)
         have hs1 : v.cells.size = size := by simpa using hlen.symm.trans e1
         have hs2 : ¬ (off + v.cells.size > va.size) := by simp at hvl; omega
         obtain ⟨va', h3, h4⟩ := uQ9 hL place ps pv (setCells cs off (cellsOf x)) (v.cells.zipIdx.foldl (fun cs (x : Value × Nat) => cs.setIfInBounds (off + x.2) x.1) va) cs' (by simpa using hl)
           (fun k p q hk hq => hp (k + 1) p q (by simpa using hk) (by simpa using hq)) (by
             have : (v.cells.zipIdx.foldl (fun cs (x : Value × Nat) => cs.setIfInBounds (off + x.2) x.1) va).toList = setCells va.toList off v.cells.toList := by
               rw [← Array.foldl_toList]
               simpa using hfold
             rw [this]; exact hset) hf
         refine ⟨va', ?_, h4⟩
         unfold Instr.fill
         simp only [hpl]
         rw [if_neg (by simp [hs1]; omega)]
         exact h3
 | [], _ :: _, _, _, _, hl, _, _, _ => by simp at hl
 | _ :: _, [], _, _, _, hl, _, _, _ => by simp at hl
end Go.Proofs.YtaennkkcnhfglaaGreatDoor.Ev
