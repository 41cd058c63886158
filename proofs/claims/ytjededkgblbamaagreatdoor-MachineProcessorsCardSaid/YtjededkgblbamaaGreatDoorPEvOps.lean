/- Regions: the operations in the text's order. -/
import Derived.Test.YtjededkgblbamaaGreatDoorPEvStep
import Derived.Still
set_option linter.unusedVariables false
set_option linter.unusedSimpArgs false
namespace Go.Proofs.YtjededkgblbamaaGreatDoor.Ev
open Go.RowKit
variable {E : Env} {R : Type}

theorem evRead_bind (st : St E.S) (d : Option Nat) (x : Out E.S) (κ : St E.S → Option R) : evRead st d x κ = (evRead st d x some) >>= κ := by
  cases x with
  | val x => rfl
  | chk ok x => cases ok <;> rfl
  | run ρ r f =>
    simp only [evRead]
    cases r with
    | none => rfl
    | some y =>
      simp only [bind, Option.bind_some]
      split <;> rfl
  | bad => rfl

theorem pickIx_bind {R' : Type} (f : Nat → Option R') (κ : R' → Option R) (n : Int) : ∀ (k j : Nat), pickIx k j n (fun i => f i >>= κ) = pickIx k j n f >>= κ
 | 0, _ => rfl
 | k + 1, j => by
   unfold pickIx
   split
   · rfl
   · exact pickIx_bind f κ n k (j + 1)

theorem evIdx_bind (spec : Spec E.S) (st : St E.S) (o : Oper) (κ : St E.S → Option R) : evIdx spec st o κ = (evIdx spec st o some) >>= κ := by
  unfold evIdx
  split
  · split
    · exact pickIx_bind (fun j => some (put st o.dst _)) κ _ _ _
    · exact pickIx_bind (fun j => some (put st o.dst _)) κ _ _ _
    · exact evRead_bind st _ _ κ
  · split
    · rw [← pickIx_bind]
      congr 1
      funext j
      split <;> rfl
    · exact evRead_bind st _ _ κ
  · exact evRead_bind st _ _ κ

theorem evPut_bind (st : St E.S) (t : Nat) (m x y : Operand) (κ : St E.S → Option R) : evPut E st t m x y κ = (evPut E st t m x y some) >>= κ := by
  unfold evPut
  split
  · split
    · split
      · rw [Bool.cond_eq_ite, Bool.cond_eq_ite]
        split
        · split <;> rfl
        · rfl
      · rfl
    · split
      · rw [Bool.cond_eq_ite, Bool.cond_eq_ite]
        split
        · split <;> rfl
        · rfl
      · rfl
    · rfl
  · rfl
theorem evCopy_bind (st : St E.S) (d : Option Nat) (t : Nat) (x y : AV E.S) (κ : St E.S → Option R) : evCopy E st d t x y κ = (evCopy E st d t x y some) >>= κ := by
  unfold evCopy
  split
  · split
    · split
      · rw [Bool.cond_eq_ite, Bool.cond_eq_ite]
        split <;> rfl
      · rfl
    · rfl
  · rfl
theorem evGet_bind (st : St E.S) (d : Option Nat) (t : Nat) (m x : Operand) (ok : Bool) (κ : St E.S → Option R) : evGet E st d t m x ok κ = (evGet E st d t m x ok some) >>= κ := by
  unfold evGet
  split
  · split
    · split
      · rw [Bool.cond_eq_ite, Bool.cond_eq_ite]
        split
        · split
          · split
            · cases ok <;> rfl
            · rfl
          · rfl
        · rfl
      · rfl
    · rfl
  · rfl
/-- What follows is the last thing that is done. -/
theorem evOp_bind (spec : Spec E.S) (wr : Wr) (st : St E.S) (o : Oper) (κ : St E.S → Option R) : evOp spec wr st o κ = (evOp spec wr st o some) >>= κ := by
  unfold evOp
  split
  · split <;> rfl
  · split
    · split
      · split <;> rfl
      · rfl
    · rfl
  · split
    · cases wr.f _ with
      | false => rfl
      | true => simp only [cond_true]; split <;> rfl
    · rfl
  · exact evPut_bind st _ _ _ _ κ
  · exact evPut_bind st _ _ _ _ κ
  · exact evGet_bind st _ _ _ _ _ κ
  · split
    · split
      · split <;> rfl
      · rfl
    · split <;> rfl
  · cases okC (opv st _) <;> rfl
  · split
    · split
      · rw [Bool.cond_eq_ite, Bool.cond_eq_ite]; split <;> rfl
      · rfl
    · split
      · rw [Bool.cond_eq_ite, Bool.cond_eq_ite]
        split
        · simp only [bind, Option.bind_assoc, Option.bind_some]
        · rfl
      · split
        · rw [Bool.cond_eq_ite, Bool.cond_eq_ite]
          split
          · split <;> rfl
          · rfl
        · rfl
      · rfl
    · rfl
  · rw [Bool.cond_eq_ite, Bool.cond_eq_ite]
    split
    · split
      · split <;> rfl
      · exact evIdx_bind spec st o κ
    · exact evIdx_bind spec st o κ
  · split
    · split
      · split
        · rw [Bool.cond_eq_ite, Bool.cond_eq_ite]
          split
          · rfl
          · split <;> rfl
        · rfl
      · rfl
    · rfl
  · split
    · exact evCopy_bind st _ _ _ _ κ
    · split
      · rw [Bool.cond_eq_ite, Bool.cond_eq_ite]
        split
        · rfl
        · split
          · split <;> rfl
          · rfl
      · rfl
    · split
      · dsimp only
        rw [Bool.cond_eq_ite, Bool.cond_eq_ite]
        split
        · split
          · simp only [bind, Option.bind_assoc]
            congr 1
            funext x
            rw [Bool.cond_eq_ite, Bool.cond_eq_ite]
            split <;> rfl
          · rfl
        · split
          · rfl
          · rw [Bool.cond_eq_ite, Bool.cond_eq_ite]
            split
            · rfl
            · split
              · rw [Bool.cond_eq_ite, Bool.cond_eq_ite]
                split
                · rfl
                · simp only [bind, Option.bind_assoc, Option.bind_some]
              · rfl
      · rfl
    · exact evRead_bind st _ _ κ
  · exact evIdx_bind spec st o κ

theorem evOp_some {spec : Spec E.S} {wr : Wr} {st : St E.S} {o : Oper} {κ : St E.S → Option R} {r : R} (h : evOp spec wr st o κ = some r) : ∃ st', evOp spec wr st o some = some st' ∧ κ st' = some r := by
  rw [evOp_bind] at h
  exact Option.bind_eq_some_iff.1 h

/-- One operation of a region, its guard looked at. -/
def StepG (spec : Spec E.S) (wr : Wr) (ops : Array Oper) (o : Oper) (st st' : St E.S) : Prop :=
  match o.guard with
  | none => evOp spec wr st o some = some st'
  | some (i, b) => ∃ k, guardSlot ops i = some k ∧ ((∃ g, st.s k = .v (.bool g) ∧ (if g = b then evOp spec wr st o some = some st' else st' = put st o.dst (.tup []))) ∨ (st.s k = .tup [] ∧ st' = put st o.dst (.tup [])))

theorem upd_self {α : Type} (f : Nat → α) (i : Nat) (x : α) (h : f i = x) : upd f i x = f := by
  funext j
  unfold upd
  cases hb : Nat.beq j i with
  | true => rw [Nat.eq_of_beq_eq_true hb]; exact h.symm
  | false => rfl

theorem st_self (st : St E.S) (k : Nat) (x : AV E.S) (h : st.s k = x) : { st with s := upd st.s k x } = st := by rw [upd_self _ _ _ h]

theorem evOps_step {spec : Spec E.S} {wr : Wr} {ops : Array Oper} {κ : St E.S → Option R} {o : Oper} {l : List Oper} {st : St E.S} {r : R} (h : evOps spec wr ops κ (o :: l) st = some r) : ∃ st', StepG spec wr ops o st st' ∧ evOps spec wr ops κ l st' = some r := by
  unfold evOps at h
  unfold StepG
  split at h
  · rename_i hg
    rw [hg]
    exact evOp_some h
  · rename_i i b hg
    rw [hg]
    split at h
    · cases h
    · rename_i k hk
      split at h
      · rename_i g hs
        split at h
        · rename_i hgt
          subst hgt
          rw [st_self st k _ hs] at h
          split at h
          · obtain ⟨st', h1, h2⟩ := evOp_some h
            exact ⟨st', ⟨k, hk, .inl ⟨true, hs, by simpa using h1⟩⟩, h2⟩
          · exact ⟨_, ⟨k, hk, .inl ⟨true, hs, by simp⟩⟩, h⟩
        · rename_i hgt
          obtain rfl : g = false := by simpa using hgt
          rw [st_self st k _ hs] at h
          split at h
          · obtain ⟨st', h1, h2⟩ := evOp_some h
            exact ⟨st', ⟨k, hk, .inl ⟨false, hs, by simpa using h1⟩⟩, h2⟩
          · exact ⟨_, ⟨k, hk, .inl ⟨false, hs, by simp⟩⟩, h⟩
      · rename_i hs
        exact ⟨_, ⟨k, hk, .inr ⟨hs, rfl⟩⟩, h⟩
      · cases h

theorem yielded_of {w : World} {G : Gh} {L : Nat → Value} {st : St E.S} {ts : Array Value} (h : StRep E w G L st ts) {ops : Array Oper} {i k : Nat} {g : Bool} (hk : guardSlot ops i = some k) (hs : st.s k = .v (.bool g)) : yielded ops ts i = some g := by
  have hd : (ops[i]?).bind (·.dst) = some k := by
    unfold guardSlot at hk
    cases ho : ops[i]? with
    | none => rw [ho] at hk; cases hk
    | some o => rw [ho] at hk; exact hk
  have := h.slots k
  rw [hs] at this
  have hv := this.v_inv
  unfold yielded
  rw [hd]
  simp only [Option.bind_some]
  cases ht : ts[k]? with
  | none =>
    rw [Array.getD_eq_getD_getElem?, ht] at hv
    cases hv
  | some v =>
    rw [Array.getD_eq_getD_getElem?, ht] at hv
    simp only [Option.getD_some] at hv
    rw [hv]

theorem yielded_none {w : World} {G : Gh} {L : Nat → Value} {st : St E.S} {ts : Array Value} (h : StRep E w G L st ts) {ops : Array Oper} {i k : Nat} (hk : guardSlot ops i = some k) (hs : st.s k = .tup []) : yielded ops ts i = none := by
  have hd : (ops[i]?).bind (·.dst) = some k := by
    unfold guardSlot at hk
    cases ho : ops[i]? with
    | none => rw [ho] at hk; cases hk
    | some o => rw [ho] at hk; exact hk
  have := h.slots k
  rw [hs] at this
  obtain ⟨vs, hv, hl, _⟩ := this.tup_inv
  have hvs : vs = [] := List.length_eq_zero_iff.1 hl.symm
  subst hvs
  unfold yielded
  rw [hd]
  simp only [Option.bind_some]
  cases ht : ts[k]? with
  | none => rfl
  | some v =>
    rw [Array.getD_eq_getD_getElem?, ht] at hv
    simp only [Option.getD_some] at hv
    rw [hv]

theorem Rep.undef {w : World} {G : Gh} {L : Nat → Value} {n : Nat} : Rep E w G L n (.tup []) undef := .tup [] [] rfl (fun i x y h => by simp at h)

theorem step_wpOp (hE : E.Ok) {spec : Spec E.S} (hS : SpecOk E spec) {wr : Wr} {w0 w : World} {G0 : Org} {G : Gh} {L : Nat → Value} {st st' : St E.S} {a : Act} (h : Inv E w0 G0 st a w G L) {ops : Array Oper} {i : Nat} {o : Oper} (hi : ops[i]? = some o) (hs : StepG spec wr ops o st st') {Q : Exit → Act → World → Prop} {K : Act → World → Prop}
    (hK : ∀ a w, (∃ G L, Inv E w0 G0 st' a w G L) → K a w) : wpOp E.P ops Q i K a w := by
  unfold wpOp
  simp only [hi]
  have act : evOp spec wr st o some = some st' → o.wp E.P a w K Q := fun h1 => Oper.wp_mono (fun a w ⟨st1, G1, L1, e, hI⟩ => hK a w (by obtain rfl := Option.some.inj e; exact ⟨G1, L1, hI⟩)) (evOp_wp hE hS h o h1 Q)
  unfold StepG at hs
  split at hs
  · rename_i hg
    have : Region.wanted o (yielded ops a.tmps) = true := by unfold Region.wanted; rw [hg]
    rw [if_pos this]
    exact .inl (act hs)
  · rename_i j b hg
    obtain ⟨k, h1, ⟨g, h2, h3⟩ | ⟨h2, h3⟩⟩ := hs
    case inr =>
      have hy := yielded_none h.st h1 h2
      have : ¬ Region.wanted o (yielded ops a.tmps) = true := by unfold Region.wanted; rw [hg]; simp [hy]
      rw [if_neg this]
      subst h3
      exact hK _ _ ⟨G, L, h.put (Below.refl _ _) .undef⟩
    have hy := yielded_of h.st h1 h2
    by_cases hgb : g = b
    · rw [if_pos hgb] at h3
      have : Region.wanted o (yielded ops a.tmps) = true := by unfold Region.wanted; rw [hg]; simp [hy, hgb]
      rw [if_pos this]
      exact .inl (act h3)
    · rw [if_neg hgb] at h3
      have : ¬ Region.wanted o (yielded ops a.tmps) = true := by unfold Region.wanted; rw [hg]; simp [hy, hgb]
      rw [if_neg this]
      subst h3
      exact hK _ _ ⟨G, L, h.put (Below.refl _ _) .undef⟩

theorem evOps_wp (hE : E.Ok) {spec : Spec E.S} (hS : SpecOk E spec) {wr : Wr} {w0 : World} {G0 : Org} {ops : Array Oper} {κ : St E.S → Option R} {r : R} {Q : Exit → Act → World → Prop} (hQ : ∀ a w, Nxt E w0 G0 κ r a w → Q .normal a w) :
    ∀ (l : List Oper) (k : Nat) {w : World} {G : Gh} {L : Nat → Value} {st : St E.S} {a : Act}, Inv E w0 G0 st a w G L → (∀ j, l[j]? = ops[k + j]?) → evOps spec wr ops κ l st = some r → wpOps E.P ops Q (List.range' k l.length) a w
 | [], k, w, G, L, st, a, h, _, hr => hQ a w ⟨st, G, L, hr, h⟩
 | o :: l, k, w, G, L, st, a, h, hl, hr => by
   obtain ⟨st', h1, h2⟩ := evOps_step hr
   rw [List.length_cons, List.range'_succ, wpOps_cons]
   refine step_wpOp hE hS h (i := k) (by simpa using (hl 0).symm) h1 fun a' w' ⟨G', L', hI⟩ => ?_
   exact evOps_wp hE hS hQ l (k + 1) hI (fun j => by have := hl (j + 1); simpa [Nat.add_assoc, Nat.add_comm 1 j] using this) h2
end Go.Proofs.YtjededkgblbamaaGreatDoor.Ev
