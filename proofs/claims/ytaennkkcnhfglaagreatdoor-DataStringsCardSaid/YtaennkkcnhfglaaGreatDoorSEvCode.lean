/- A part of the proof. -/
import Derived.Test.YtaennkkcnhfglaaGreatDoorSEvCanon
import Derived.Scope
import Derived.Control
set_option linter.unusedVariables false
set_option linter.unusedSimpArgs false
namespace Go.Proofs.YtaennkkcnhfglaaGreatDoor.Ev
open Go.RowKit
variable {E : Env} {R : Type}
def enc : List Bool → Nat
 | [] => 1
 | false :: rs => 2 * enc rs
 | true :: rs => 2 * enc rs + 1
theorem uE0 : ∀ rs, 1 ≤ enc rs
 | [] => Nat.le_refl _
 | false :: rs => by have := uE0 rs; unfold enc; omega
 | true :: rs => by have := uE0 rs; unfold enc; omega
theorem u62 : ∀ {rs rs' : List Bool}, enc rs = enc rs' → rs = rs'
 | [], [], _ => rfl
 | [], false :: rs, h => by have := uE0 rs; unfold enc at h; omega
 | [], true :: rs, h => by have := uE0 rs; unfold enc at h; omega
 | false :: rs, [], h => by have := uE0 rs; unfold enc at h; omega
 | true :: rs, [], h => by have := uE0 rs; unfold enc at h; omega
 | false :: rs, true :: rs', h => by unfold enc at h; omega
 | true :: rs, false :: rs', h => by unfold enc at h; omega
 | false :: rs, false :: rs', h => by rw [u62 (rs := rs) (rs' := rs') (by unfold enc at h; omega)]
 | true :: rs, true :: rs', h => by rw [u62 (rs := rs) (rs' := rs') (by unfold enc at h; omega)]
def vA0 (P : Program) (c : Code) (Q : Exit → Act → World → Prop) (a : Act) (w : World) : Prop :=
  ∀ (b : Frame) (k : List Item) (cs : List Frame), ∃ e a' w', Q e a' w' ∧ Arrives P (lone (b.at a (.code c :: .inLoop c :: k)) cs w) b k cs e a' w'
theorem vg4 {P : Program} {c : Code} {Q : Exit → Act → World → Prop} {a : Act} {w : World} (h : c.wp P (Exit.then (vA0 P c Q) Q) a w) : vA0 P c Q a w := by
  intro b k cs
  obtain ⟨e, a₁, w₁, hq, harr⟩ := h b (.inLoop c :: k) cs
  cases e with
  | normal =>
    obtain ⟨e₂, a₂, w₂, hq₂, harr₂⟩ := hq b k cs
    exact ⟨e₂, a₂, w₂, hq₂, .of_steps (Steps.trans harr (.one step_inLoop)) harr₂⟩
  | exit id => exact ⟨_, a₁, w₁, hq, .pass (x := .inLoop c) rfl (fun _ _ => .inl (by simp)) harr⟩
  | goto l => exact ⟨_, a₁, w₁, hq, .pass (x := .inLoop c) rfl (fun _ _ => .inl (by simp)) harr⟩
  | ret => exact ⟨_, a₁, w₁, hq, .pass (x := .inLoop c) rfl (fun _ _ => .inl (by simp)) harr⟩
  | panic ch => exact ⟨_, a₁, w₁, hq, .pass (x := .inLoop c) rfl (fun _ _ => .inl (by simp)) harr⟩
  | outgrown => exact ⟨_, a₁, w₁, hq, .pass (x := .inLoop c) rfl (fun _ _ => .inl (by simp)) harr⟩
theorem vP9 {P : Program} {c : Code} {Q : Exit → Act → World → Prop} {a : Act} {w : World} (h : vA0 P c Q a w) : (Code.loop c).wp P Q a w := by
  intro b k cs
  obtain ⟨e, a', w', hq, harr⟩ := h b k cs
  exact ⟨e, a', w', hq, .of_steps (.one step_loop) harr⟩
def Ex.toExit : Ex → Exit
 | .norm => .normal
 | .ret => .ret
 | .exit id => .exit id
inductive Sub (P : Program) (root : Code) (Q0 : Exit → Act → World → Prop) : List Bool → Code → (Exit → Act → World → Prop) → Prop
 | root : Sub P root Q0 [] root Q0
 | seqL {rs a b Q} (h : Sub P root Q0 rs (.seq a b) Q) : Sub P root Q0 (false :: rs) a (Exit.then (b.wp P Q) Q)
 | seqR {rs a b Q} (h : Sub P root Q0 rs (.seq a b) Q) : Sub P root Q0 (true :: rs) b Q
 | condT {rs c x y Q} (h : Sub P root Q0 rs (.cond c x y) Q) : Sub P root Q0 (false :: rs) x Q
 | condF {rs c x y Q} (h : Sub P root Q0 rs (.cond c x y) Q) : Sub P root Q0 (true :: rs) y Q
 | block {rs id body Q} (h : Sub P root Q0 rs (.block id body) Q) : Sub P root Q0 (false :: rs) body (Exit.inBlock id Q)
 | loop {rs body Q} (h : Sub P root Q0 rs (.loop body) Q) : Sub P root Q0 (false :: rs) body (Exit.then (vA0 P body Q) Q)
 | scope {rs body Q} (h : Sub P root Q0 rs (.scope body) Q) : Sub P root Q0 (false :: rs) body (Exit.noGoto Q)
def uT0 (E : Env) (w0 : World) (G0 : Org) (st : St E.S) (a : Act) (w : World) : Prop := ∃ G L, Inv E w0 G0 st a w G L
def KOk (E : Env) (w0 : World) (G0 : Org) (r : R) (κ : Ex → St E.S → Option R) (Q : Exit → Act → World → Prop) : Prop :=
  ∀ ex st a w, κ ex st = some r → uT0 E w0 G0 st a w → Q ex.toExit a w
def TbOk (E : Env) (w0 : World) (G0 : Org) (r : R) (tb : Tb E R) (root : Code) (Q0 : Exit → Act → World → Prop) : Prop :=
  ∀ rs c, tb (enc rs) = some c → c.live.keep = G0.k ∧ ∀ st, c.J st = some r → ∀ a w, uT0 E w0 G0 st a w → ∀ c' Q', Sub E.P root Q0 rs c' Q' → c'.wp E.P Q' a w
def seqK (spec : Spec E.S) (wr : Wr) (tb : Tb E R) (p : Nat) (b : Code) (κ : Ex → St E.S → Option R) : Ex → St E.S → Option R := fun ex st' =>
    match ex with
    | .norm => match tb (2 * p + 1) with | some c => c.J (canon c.live st') | none => ev spec wr tb (2 * p + 1) b st' κ
    | ex => κ ex st'
def ve5 (id : Nat) (κ : Ex → St E.S → Option R) : Ex → St E.S → Option R := fun ex st' =>
    match ex with
    | .exit i => bif Nat.beq i id then κ .norm st' else κ ex st'
    | ex => κ ex st'
theorem uT0.canon (hE : E.Ok) {w0 w : World} {G0 : Org} {st : St E.S} {a : Act} (h : uT0 E w0 G0 st a w) (lv : Live) (hk : lv.keep = G0.k) : uT0 E w0 G0 (canon lv st) a w := by
  obtain ⟨G, L, hI⟩ := h
  exact uJ7 hE hI lv hk
theorem jump (hE : E.Ok) {w0 : World} {G0 : Org} {r : R} {tb : Tb E R} {root : Code} {Q0 : Exit → Act → World → Prop} (hT : TbOk E w0 G0 r tb root Q0) {rs : List Bool} {c : Cut E R} (hc : tb (enc rs) = some c) {st : St E.S} (hj : c.J (canon c.live st) = some r) {a : Act} {w : World} (h : uT0 E w0 G0 st a w) {c' : Code} {Q' : Exit → Act → World → Prop} (hs : Sub E.P root Q0 rs c' Q') : c'.wp E.P Q' a w :=
  (hT rs c hc).2 _ hj a w (h.canon hE c.live (hT rs c hc).1) c' Q' hs
theorem vX3 (hE : E.Ok) {spec : Spec E.S} (hS : ul9 E spec) {wr : Wr} {w0 : World} {G0 : Org} {r : R} {tb : Tb E R} {root : Code} {Q0 : Exit → Act → World → Prop} (hT : TbOk E w0 G0 r tb root Q0) :
    ∀ (code : Code) (rs : List Bool) (Q : Exit → Act → World → Prop) (κ : Ex → St E.S → Option R) (st : St E.S) (a : Act) (w : World), Sub E.P root Q0 rs code Q → KOk E w0 G0 r κ Q → ev spec wr tb (enc rs) code st κ = some r → uT0 E w0 G0 st a w → code.wp E.P Q a w := by
  intro code
  induction code with
  | skip => exact fun rs Q κ st a w hs hκ h hI => wp_skip (hκ .norm st a w h hI)
  | exit id => exact fun rs Q κ st a w hs hκ h hI => wp_exit (hκ (.exit id) st a w h hI)
  | ret => exact fun rs Q κ st a w hs hκ h hI => wp_ret (hκ .ret st a w h hI)
  | region id ops draw =>
    intro rs Q κ st a w hs hκ h ⟨G0, L, hI0⟩
    obtain ⟨G, hI⟩ := uN9 hE (vs := []) hI0 (wr.s (enc rs))
    exact vt2 hE hS hI (κ := κ .norm) (r := r) (fun a w ⟨st, G, L, h1, h2⟩ => hκ .norm st a w h1 ⟨G, L, h2⟩) h
  | seq x y ihx ihy =>
    intro rs Q κ st a w hs hκ h hI
    refine wp_seq (ihx (false :: rs) _ (seqK spec wr tb (enc rs) y κ) st a w (.seqL hs) ?_ h hI)
    intro ex st' a' w' hk hI'
    cases ex with
    | norm =>
      simp only [seqK] at hk
      show y.wp E.P Q a' w'
      split at hk
      · rename_i c hc
        exact jump hE hT (rs := true :: rs) hc hk hI' (.seqR hs)
      · exact ihy (true :: rs) Q κ st' a' w' (.seqR hs) hκ hk hI'
    | ret => exact hκ .ret st' a' w' hk hI'
    | exit id => exact hκ (.exit id) st' a' w' hk hI'
  | cond c x y ihx ihy =>
    intro rs Q κ st a w hs hκ h hI
    obtain ⟨G, L, hI'⟩ := hI
    have hc := hI'.st.opv c
    unfold ev at h
    split at h
    · rename_i b hb
      rw [hb] at hc
      have hv : a.eval c = .bool b := hc.v_inv
      cases b with
      | true => exact wp_cond_true hv (ihx (false :: rs) Q κ st a w (.condT hs) hκ (by rw [if_pos rfl] at h; exact h) ⟨G, L, hI'⟩)
      | false => exact wp_cond_false hv (ihy (true :: rs) Q κ st a w (.condF hs) hκ (by rw [if_neg (by simp)] at h; exact h) ⟨G, L, hI'⟩)
    · cases h
  | block id body ih =>
    intro rs Q κ st a w hs hκ h hI
    refine wp_block (ih (false :: rs) _ (ve5 id κ) st a w (.block hs) ?_ h hI)
    intro ex st' a' w' hk hI'
    cases ex with
    | norm => exact hκ .norm st' a' w' hk hI'
    | ret => exact hκ .ret st' a' w' hk hI'
    | exit i =>
      simp only [ve5] at hk
      rw [Bool.cond_eq_ite] at hk
      show (if i = id then Q .normal a' w' else Q (.exit i) a' w')
      split at hk
      · rename_i hb
        rw [if_pos (Nat.eq_of_beq_eq_true hb)]
        exact hκ .norm st' a' w' hk hI'
      · rename_i hb
        rw [if_neg (fun e => hb (by rw [e, Nat.beq_refl]))]
        exact hκ (.exit i) st' a' w' hk hI'
  | loop body ih =>
    intro rs Q κ st a w hs hκ h hI
    unfold ev at h
    split at h
    · rename_i c hc
      exact vP9 (vg4 (jump hE hT (rs := false :: rs) hc h hI (.loop hs)))
    · cases h
  | label l => exact fun rs Q κ st a w hs hκ h hI => wp_label (hκ .norm st a w h hI)
  | scope body ih =>
    intro rs Q κ st a w hs hκ h hI
    refine wp_scope_straight (ih (false :: rs) _ κ st a w (.scope hs) (fun ex st' a' w' hk hI' => ?_) h hI)
    cases ex <;> exact hκ _ st' a' w' hk hI'
  | _ => intro rs Q κ st a w hs hκ h hI; unfold ev at h; cases h
def At (spec : Spec E.S) (wr : Wr) (tb : Tb E R) (root : Code) (κ0 : Ex → St E.S → Option R) : List Bool → Option (Code × (Ex → St E.S → Option R))
 | [] => some (root, κ0)
 | d :: rs =>
   match At spec wr tb root κ0 rs with
   | none => none
   | some (code, κ) =>
     match code, d with
     | .seq a b, false => some (a, seqK spec wr tb (enc rs) b κ)
     | .seq a b, true => some (b, κ)
     | .cond _ x _, false => some (x, κ)
     | .cond _ _ y, true => some (y, κ)
     | .block id body, false => some (body, ve5 id κ)
     | .scope body, false => some (body, κ)
     | .loop body, false => match tb (2 * enc rs) with | some c => some (body, v04 c κ) | none => none
     | _, _ => none
def vg3 (spec : Spec E.S) (wr : Wr) (tb : Tb E R) (root : Code) (κ0 : Ex → St E.S → Option R) (rs : List Bool) (st : St E.S) : Option R :=
  match At spec wr tb root κ0 rs with
  | some (code, κ) => ev spec wr tb (enc rs) code st κ
  | none => none
theorem v02 (hE : E.Ok) {spec : Spec E.S} (hS : ul9 E spec) {wr : Wr} {w0 : World} {G0 : Org} {r : R} {tb : Tb E R} {root : Code} {Q0 : Exit → Act → World → Prop} (hT : TbOk E w0 G0 r tb root Q0) {κ0 : Ex → St E.S → Option R} (h0 : KOk E w0 G0 r κ0 Q0)
    {rs : List Bool} {code : Code} {Q : Exit → Act → World → Prop} (h : Sub E.P root Q0 rs code Q) : ∀ {code' : Code} {κ : Ex → St E.S → Option R}, At spec wr tb root κ0 rs = some (code', κ) → code' = code ∧ KOk E w0 G0 r κ Q := by
  induction h with
  | root =>
    intro code' κ ha
    obtain ⟨rfl, rfl⟩ := Prod.mk.inj (Option.some.inj ha)
    exact ⟨rfl, h0⟩
  | @seqL rs x y Q hs ih =>
    intro code' κ ha
    unfold At at ha
    split at ha
    · cases ha
    · rename_i c1 κ1 h1
      obtain ⟨rfl, hk⟩ := ih h1
      obtain ⟨rfl, rfl⟩ := Prod.mk.inj (Option.some.inj ha)
      refine ⟨rfl, fun ex st' a' w' hk' hI' => ?_⟩
      cases ex with
      | norm =>
        simp only [seqK] at hk'
        show y.wp E.P Q a' w'
        split at hk'
        · rename_i c hc
          exact jump hE hT (rs := true :: rs) hc hk' hI' (.seqR hs)
        · exact vX3 hE hS hT y (true :: rs) Q κ1 st' a' w' (.seqR hs) hk hk' hI'
      | ret => exact hk .ret st' a' w' hk' hI'
      | exit id => exact hk (.exit id) st' a' w' hk' hI'
  | @seqR rs x y Q hs ih =>
    intro code' κ ha
    unfold At at ha
    split at ha
    · cases ha
    · rename_i c1 κ1 h1
      obtain ⟨rfl, hk⟩ := ih h1
      obtain ⟨rfl, rfl⟩ := Prod.mk.inj (Option.some.inj ha)
      exact ⟨rfl, hk⟩
  | @condT rs c x y Q hs ih =>
    intro code' κ ha
    unfold At at ha
    split at ha
    · cases ha
    · rename_i c1 κ1 h1
      obtain ⟨rfl, hk⟩ := ih h1
      obtain ⟨rfl, rfl⟩ := Prod.mk.inj (Option.some.inj ha)
      exact ⟨rfl, hk⟩
  | @condF rs c x y Q hs ih =>
    intro code' κ ha
    unfold At at ha
    split at ha
    · cases ha
    · rename_i c1 κ1 h1
      obtain ⟨rfl, hk⟩ := ih h1
      obtain ⟨rfl, rfl⟩ := Prod.mk.inj (Option.some.inj ha)
      exact ⟨rfl, hk⟩
  | @block rs id body Q hs ih =>
    intro code' κ ha
    unfold At at ha
    split at ha
    · cases ha
    · rename_i c1 κ1 h1
      obtain ⟨rfl, hk⟩ := ih h1
      obtain ⟨rfl, rfl⟩ := Prod.mk.inj (Option.some.inj ha)
      refine ⟨rfl, fun ex st' a' w' hk' hI' => ?_⟩
      cases ex with
      | norm => exact hk .norm st' a' w' hk' hI'
      | ret => exact hk .ret st' a' w' hk' hI'
      | exit i =>
        simp only [ve5] at hk'
        rw [Bool.cond_eq_ite] at hk'
        show (if i = id then Q .normal a' w' else Q (.exit i) a' w')
        split at hk'
        · rename_i hb
          rw [if_pos (Nat.eq_of_beq_eq_true hb)]
          exact hk .norm st' a' w' hk' hI'
        · rename_i hb
          rw [if_neg (fun e => hb (by rw [e, Nat.beq_refl]))]
          exact hk (.exit i) st' a' w' hk' hI'
  | @scope rs body Q hs ih =>
    intro code' κ ha
    unfold At at ha
    split at ha
    · cases ha
    · rename_i c1 κ1 h1
      obtain ⟨rfl, hk⟩ := ih h1
      obtain ⟨rfl, rfl⟩ := Prod.mk.inj (Option.some.inj ha)
      refine ⟨rfl, fun ex st' a' w' hk' hI' => ?_⟩
      cases ex <;> exact hk _ st' a' w' hk' hI'
  | @loop rs body Q hs ih =>
    intro code' κ ha
    unfold At at ha
    split at ha
    · cases ha
    · rename_i c1 κ1 h1
      obtain ⟨rfl, hk⟩ := ih h1
      dsimp only at ha
      split at ha
      · rename_i c hc
        obtain ⟨rfl, rfl⟩ := Prod.mk.inj (Option.some.inj ha)
        refine ⟨rfl, fun ex st' a' w' hk' hI' => ?_⟩
        cases ex with
        | norm => exact vg4 (jump hE hT (rs := false :: rs) hc hk' hI' (.loop hs))
        | ret => exact hk .ret st' a' w' hk' hI'
        | exit id => exact hk (.exit id) st' a' w' hk' hI'
      · cases ha
theorem vt3 (hE : E.Ok) {spec : Spec E.S} (hS : ul9 E spec) {wr : Wr} {w0 w : World} {G0 : Org} {r : R} {tb : Tb E R} {root : Code} {Q0 : Exit → Act → World → Prop} (hT : TbOk E w0 G0 r tb root Q0) {κ0 : Ex → St E.S → Option R} (h0 : KOk E w0 G0 r κ0 Q0)
    {rs : List Bool} {code : Code} {Q : Exit → Act → World → Prop} (h : Sub E.P root Q0 rs code Q) {st : St E.S} (hr : vg3 spec wr tb root κ0 rs st = some r) {a : Act} (hI : uT0 E w0 G0 st a w) : code.wp E.P Q a w := by
  unfold vg3 at hr
  split at hr
  · rename_i code' κ ha
    obtain ⟨rfl, hk⟩ := v02 hE hS hT h0 h ha
    exact vX3 hE hS hT _ rs Q κ st a w h hk hr hI
  · cases hr
end Go.Proofs.YtaennkkcnhfglaaGreatDoor.Ev
