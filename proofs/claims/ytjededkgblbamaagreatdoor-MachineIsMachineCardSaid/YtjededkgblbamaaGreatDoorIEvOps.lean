/- A part of the proof. -/
import Derived.Test.YtjededkgblbamaaGreatDoorIEvStep
import Derived.Still
set_option linter.unusedVariables false
set_option linter.unusedSimpArgs false
namespace Go.Proofs.YtjededkgblbamaaGreatDoor.Ev
open Go.RowKit
variable {E : Env} {R : Type}
theorem uw7 (st : St E.S) (d : Option Nat) (x : Out E.S) (κ : St E.S → Option R) : uk5 st d x κ = (uk5 st d x some) >>= κ := by
  cases x with
  | val x => rfl
  | chk ok x => cases ok <;> rfl
  | run ρ r f =>
    simp only [uk5]
    cases r with
    | none => rfl
    | some y =>
      simp only [bind, Option.bind_some]
      split <;> rfl
  | bad => rfl
theorem uw3 {R' : Type} (f : Nat → Option R') (κ : R' → Option R) (n : Int) : ∀ (k j : Nat), uB1 k j n (fun i => f i >>= κ) = uB1 k j n f >>= κ
 | 0, _ => rfl
 | k + 1, j => by
   unfold uB1
   split
   · rfl
   · exact uw3 f κ n k (j + 1)
theorem uQ8 (spec : Spec E.S) (st : St E.S) (o : Oper) (κ : St E.S → Option R) : uu7 spec st o κ = (uu7 spec st o some) >>= κ := by
  unfold uu7
  split
  · split
    · exact uw3 (fun j => some (put st o.dst _)) κ _ _ _
    · exact uw3 (fun j => some (put st o.dst _)) κ _ _ _
    · exact uw7 st _ _ κ
  · split
    · rw [← uw3]
      congr 1
      funext j
      split <;> rfl
    · exact uw7 st _ _ κ
  · exact uw7 st _ _ κ
theorem ve0 (st : St E.S) (t : Nat) (m x y : Operand) (κ : St E.S → Option R) : uT1 E st t m x y κ = (uT1 E st t m x y some) >>= κ := by
  unfold uT1
  split
  · split
    · split
      · rw [Bool.cond_eq_ite, Bool.cond_eq_ite]
        split
        · split <;> rfl
        · rfl
      · rfl
    · split
      · rw [Bool.cond_eq_ite, Bool.cond_eq_ite]
        split
        · split <;> rfl
        · rfl
      · rfl
    · rfl
  · rfl
theorem vQ1 (st : St E.S) (d : Option Nat) (t : Nat) (x y : AV E.S) (κ : St E.S → Option R) : uR8 E st d t x y κ = (uR8 E st d t x y some) >>= κ := by
  unfold uR8
  split
  · split
    · split
      · rw [Bool.cond_eq_ite, Bool.cond_eq_ite]
        split <;> rfl
      · rfl
    · rfl
  · rfl
theorem wB6 (st : St E.S) (d : Option Nat) (t : Nat) (m x : Operand) (ok : Bool) (κ : St E.S → Option R) : uZ7 E st d t m x ok κ = (uZ7 E st d t m x ok some) >>= κ := by
  unfold uZ7
  split
  · split
    · split
      · rw [Bool.cond_eq_ite, Bool.cond_eq_ite]
        split
        · split
          · split
            · cases ok <;> rfl
            · rfl
          · rfl
        · rfl
      · rfl
    · rfl
  · rfl
theorem wW7 (spec : Spec E.S) (wr : Wr) (st : St E.S) (o : Oper) (κ : St E.S → Option R) : evOp spec wr st o κ = (evOp spec wr st o some) >>= κ := by
  unfold evOp
  split
  · split <;> rfl
  · split
    · split
      · split <;> rfl
      · rfl
    · rfl
  · split
    · cases wr.f _ with
      | false => rfl
      | true => simp only [cond_true]; split <;> rfl
    · rfl
  · exact ve0 st _ _ _ _ κ
  · exact ve0 st _ _ _ _ κ
  · exact wB6 st _ _ _ _ _ κ
  · split
    · split
      · split <;> rfl
      · rfl
    · split <;> rfl
  · cases okC (opv st _) <;> rfl
  · split
    · split
      · rw [Bool.cond_eq_ite, Bool.cond_eq_ite]; split <;> rfl
      · rfl
    · split
      · rw [Bool.cond_eq_ite, Bool.cond_eq_ite]
        split
        · simp only [bind, Option.bind_assoc, Option.bind_some]
        · rfl
      · split
        · rw [Bool.cond_eq_ite, Bool.cond_eq_ite]
          split
          · split <;> rfl
          · rfl
        · rfl
      · rfl
    · rfl
  · rw [Bool.cond_eq_ite, Bool.cond_eq_ite]
    split
    · split
      · split <;> rfl
      · exact uQ8 spec st o κ
    · exact uQ8 spec st o κ
  · split
    · split
      · split
        · rw [Bool.cond_eq_ite, Bool.cond_eq_ite]
          split
          · rfl
          · split <;> rfl
        · rfl
      · rfl
    · rfl
  · split
    · exact vQ1 st _ _ _ _ κ
    · split
      · rw [Bool.cond_eq_ite, Bool.cond_eq_ite]
        split
        · rfl
        · split
          · split <;> rfl
          · rfl
      · rfl
    · split
      · dsimp only
        rw [Bool.cond_eq_ite, Bool.cond_eq_ite]
        split
        · split
          · simp only [bind, Option.bind_assoc]
            congr 1
            funext x
            rw [Bool.cond_eq_ite, Bool.cond_eq_ite]
            split <;> rfl
          · rfl
        · split
          · rfl
          · rw [Bool.cond_eq_ite, Bool.cond_eq_ite]
            split
            · rfl
            · split
              · rw [Bool.cond_eq_ite, Bool.cond_eq_ite]
                split
                · rfl
                · simp only [bind, Option.bind_assoc, Option.bind_some]
              · rfl
      · rfl
    · exact uw7 st _ _ κ
  · exact uQ8 spec st o κ
theorem uM2 {spec : Spec E.S} {wr : Wr} {st : St E.S} {o : Oper} {κ : St E.S → Option R} {r : R} (h : evOp spec wr st o κ = some r) : ∃ st', evOp spec wr st o some = some st' ∧ κ st' = some r := by
  rw [wW7] at h
  exact Option.bind_eq_some_iff.1 h
def vu5 (spec : Spec E.S) (wr : Wr) (ops : Array Oper) (o : Oper) (st st' : St E.S) : Prop :=
  match o.guard with
  | none => evOp spec wr st o some = some st'
  | some (i, b) => ∃ k, ue7 ops i = some k ∧ ((∃ g, st.s k = .v (.bool g) ∧ (if g = b then evOp spec wr st o some = some st' else st' = put st o.dst (.tup []))) ∨ (st.s k = .tup [] ∧ st' = put st o.dst (.tup [])))
theorem xt0 {α : Type} (f : Nat → α) (i : Nat) (x : α) (h : f i = x) : upd f i x = f := by
  funext j
  unfold upd
  cases hb : Nat.beq j i with
  | true => rw [Nat.eq_of_beq_eq_true hb]; exact h.symm
  | false => rfl
theorem vj3 (st : St E.S) (k : Nat) (x : AV E.S) (h : st.s k = x) : { st with s := upd st.s k x } = st := by rw [xt0 _ _ _ h]
theorem wy6 {spec : Spec E.S} {wr : Wr} {ops : Array Oper} {κ : St E.S → Option R} {o : Oper} {l : List Oper} {st : St E.S} {r : R} (h : uT2 spec wr ops κ (o :: l) st = some r) : ∃ st', vu5 spec wr ops o st st' ∧ uT2 spec wr ops κ l st' = some r := by
  unfold uT2 at h
  unfold vu5
  split at h
  · rename_i hg
    rw [hg]
    exact uM2 h
  · rename_i i b hg
    rw [hg]
    split at h
    · cases h
    · rename_i k hk
      split at h
      · rename_i g hs
        split at h
        · rename_i hgt
          subst hgt
          rw [vj3 st k _ hs] at h
          split at h
          · obtain ⟨st', h1, h2⟩ := uM2 h
            exact ⟨st', ⟨k, hk, .inl ⟨true, hs, by simpa using h1⟩⟩, h2⟩
          · exact ⟨_, ⟨k, hk, .inl ⟨true, hs, by simp⟩⟩, h⟩
        · rename_i hgt
          obtain rfl : g = false := by simpa using hgt
          rw [vj3 st k _ hs] at h
          split at h
          · obtain ⟨st', h1, h2⟩ := uM2 h
            exact ⟨st', ⟨k, hk, .inl ⟨false, hs, by simpa using h1⟩⟩, h2⟩
          · exact ⟨_, ⟨k, hk, .inl ⟨false, hs, by simp⟩⟩, h⟩
      · rename_i hs
        exact ⟨_, ⟨k, hk, .inr ⟨hs, rfl⟩⟩, h⟩
      · cases h
theorem wl5 {w : World} {G : Gh} {L : Nat → Value} {st : St E.S} {ts : Array Value} (h : ug8 E w G L st ts) {ops : Array Oper} {i k : Nat} {g : Bool} (hk : ue7 ops i = some k) (hs : st.s k = .v (.bool g)) : yielded ops ts i = some g := by
  have hd : (ops[i]?).bind (·.dst) = some k := by
    unfold ue7 at hk
    cases ho : ops[i]? with
    | none => rw [ho] at hk; cases hk
    | some o => rw [ho] at hk; exact hk
  have := h.slots k
  rw [hs] at this
  have hv := this.v_inv
  unfold yielded
  rw [hd]
  simp only [Option.bind_some]
  cases ht : ts[k]? with
  | none =>
    rw [Array.getD_eq_getD_getElem?, ht] at hv
    cases hv
  | some v =>
    rw [Array.getD_eq_getD_getElem?, ht] at hv
    simp only [Option.getD_some] at hv
    rw [hv]
theorem vy6 {w : World} {G : Gh} {L : Nat → Value} {st : St E.S} {ts : Array Value} (h : ug8 E w G L st ts) {ops : Array Oper} {i k : Nat} (hk : ue7 ops i = some k) (hs : st.s k = .tup []) : yielded ops ts i = none := by
  have hd : (ops[i]?).bind (·.dst) = some k := by
    unfold ue7 at hk
    cases ho : ops[i]? with
    | none => rw [ho] at hk; cases hk
    | some o => rw [ho] at hk; exact hk
  have := h.slots k
  rw [hs] at this
  obtain ⟨vs, hv, hl, _⟩ := this.tup_inv
  have hvs : vs = [] := List.length_eq_zero_iff.1 hl.symm
  subst hvs
  unfold yielded
  rw [hd]
  simp only [Option.bind_some]
  cases ht : ts[k]? with
  | none => rfl
  | some v =>
    rw [Array.getD_eq_getD_getElem?, ht] at hv
    simp only [Option.getD_some] at hv
    rw [hv]
theorem Rep.undef {w : World} {G : Gh} {L : Nat → Value} {n : Nat} : Rep E w G L n (.tup []) undef := .tup [] [] rfl (fun i x y h => by simp at h)
theorem vB9 (hE : E.Ok) {spec : Spec E.S} (hS : ub0 E spec) {wr : Wr} {w0 w : World} {G0 : Org} {G : Gh} {L : Nat → Value} {st st' : St E.S} {a : Act} (h : Inv E w0 G0 st a w G L) {ops : Array Oper} {i : Nat} {o : Oper} (hi : ops[i]? = some o) (hs : vu5 spec wr ops o st st') {Q : Exit → Act → World → Prop} {K : Act → World → Prop}
    (hK : ∀ a w, (∃ G L, Inv E w0 G0 st' a w G L) → K a w) : wpOp E.P ops Q i K a w := by
  unfold wpOp
  simp only [hi]
  have act : evOp spec wr st o some = some st' → o.wp E.P a w K Q := fun h1 => Oper.wp_mono (fun a w ⟨st1, G1, L1, e, hI⟩ => hK a w (by obtain rfl := Option.some.inj e; exact ⟨G1, L1, hI⟩)) (xG9 hE hS h o h1 Q)
  unfold vu5 at hs
  split at hs
  · rename_i hg
    have : Region.wanted o (yielded ops a.tmps) = true := by unfold Region.wanted; rw [hg]
    rw [if_pos this]
    exact .inl (act hs)
  · rename_i j b hg
    obtain ⟨k, h1, ⟨g, h2, h3⟩ | ⟨h2, h3⟩⟩ := hs
    case inr =>
      have hy := vy6 h.st h1 h2
      have : ¬ Region.wanted o (yielded ops a.tmps) = true := by unfold Region.wanted; rw [hg]; simp [hy]
      rw [if_neg this]
      subst h3
      exact hK _ _ ⟨G, L, h.put (Below.refl _ _) .undef⟩
    have hy := wl5 h.st h1 h2
    by_cases hgb : g = b
    · rw [if_pos hgb] at h3
      have : Region.wanted o (yielded ops a.tmps) = true := by unfold Region.wanted; rw [hg]; simp [hy, hgb]
      rw [if_pos this]
      exact .inl (act h3)
    · rw [if_neg hgb] at h3
      have : ¬ Region.wanted o (yielded ops a.tmps) = true := by unfold Region.wanted; rw [hg]; simp [hy, hgb]
      rw [if_neg this]
      subst h3
      exact hK _ _ ⟨G, L, h.put (Below.refl _ _) .undef⟩
theorem vZ7 (hE : E.Ok) {spec : Spec E.S} (hS : ub0 E spec) {wr : Wr} {w0 : World} {G0 : Org} {ops : Array Oper} {κ : St E.S → Option R} {r : R} {Q : Exit → Act → World → Prop} (hQ : ∀ a w, Nxt E w0 G0 κ r a w → Q .normal a w) :
    ∀ (l : List Oper) (k : Nat) {w : World} {G : Gh} {L : Nat → Value} {st : St E.S} {a : Act}, Inv E w0 G0 st a w G L → (∀ j, l[j]? = ops[k + j]?) → uT2 spec wr ops κ l st = some r → wpOps E.P ops Q (List.range' k l.length) a w
 | [], k, w, G, L, st, a, h, _, hr => hQ a w ⟨st, G, L, hr, h⟩
 | o :: l, k, w, G, L, st, a, h, hl, hr => by
   obtain ⟨st', h1, h2⟩ := wy6 hr
   rw [List.length_cons, List.range'_succ, wpOps_cons]
   refine vB9 hE hS h (i := k) (by simpa using (hl 0).symm) h1 fun a' w' ⟨G', L', hI⟩ => ?_
   exact vZ7 hE hS hQ l (k + 1) hI (fun j => by have := hl (j + 1); simpa [Nat.add_assoc, Nat.add_comm 1 j] using this) h2
end Go.Proofs.YtjededkgblbamaaGreatDoor.Ev
