/- A part of the proof. -/
import Derived.Test.YtaennkkcnhfglaaGreatDoorSEvStep
import Derived.Still
set_option linter.unusedVariables false
set_option linter.unusedSimpArgs false
namespace Go.Proofs.YtaennkkcnhfglaaGreatDoor.Ev
open Go.RowKit
variable {E : Env} {R : Type}
theorem uq1 (st : St E.S) (d : Option Nat) (x : Out E.S) (κ : St E.S → Option R) : ui0 st d x κ = (ui0 st d x some) >>= κ := by
  cases x with
  | val x => rfl
  | chk ok x => cases ok <;> rfl
  | run ρ r f =>
    simp only [ui0]
    cases r with
    | none => rfl
    | some y =>
      simp only [bind, Option.bind_some]
      split <;> rfl
  | bad => rfl
theorem uq6 {R' : Type} (f : Nat → Option R') (κ : R' → Option R) (n : Int) : ∀ (k j : Nat), uu4 k j n (fun i => f i >>= κ) = uu4 k j n f >>= κ
 | 0, _ => rfl
 | k + 1, j => by
   unfold uu4
   split
   · rfl
   · exact uq6 f κ n k (j + 1)
theorem uE1 (spec : Spec E.S) (st : St E.S) (o : Oper) (κ : St E.S → Option R) : up9 spec st o κ = (up9 spec st o some) >>= κ := by
  unfold up9
  split
  · split
    · exact uq6 (fun j => some (put st o.dst _)) κ _ _ _
    · exact uq6 (fun j => some (put st o.dst _)) κ _ _ _
    · exact uq1 st _ _ κ
  · split
    · rw [← uq6]
      congr 1
      funext j
      split <;> rfl
    · exact uq1 st _ _ κ
  · exact uq1 st _ _ κ
theorem uQ7 (st : St E.S) (t : Nat) (m x y : Operand) (κ : St E.S → Option R) : uH5 E st t m x y κ = (uH5 E st t m x y some) >>= κ := by
  unfold uH5
  split
  · split
    · split
      · rw [Bool.cond_eq_ite, Bool.cond_eq_ite]
        split
        · split <;> rfl
        · rfl
      · rfl
    · split
      · rw [Bool.cond_eq_ite, Bool.cond_eq_ite]
        split
        · split <;> rfl
        · rfl
      · rfl
    · rfl
  · rfl
theorem u63 (st : St E.S) (d : Option Nat) (t : Nat) (x y : AV E.S) (κ : St E.S → Option R) : uG0 E st d t x y κ = (uG0 E st d t x y some) >>= κ := by
  unfold uG0
  split
  · split
    · split
      · rw [Bool.cond_eq_ite, Bool.cond_eq_ite]
        split <;> rfl
      · rfl
    · rfl
  · rfl
theorem vk0 (st : St E.S) (d : Option Nat) (t : Nat) (m x : Operand) (ok : Bool) (κ : St E.S → Option R) : uK1 E st d t m x ok κ = (uK1 E st d t m x ok some) >>= κ := by
  unfold uK1
  split
  · split
    · split
      · rw [Bool.cond_eq_ite, Bool.cond_eq_ite]
        split
        · split
          · split
            · cases ok <;> rfl
            · rfl
          · rfl
        · rfl
      · rfl
    · rfl
  · rfl
theorem vq4 (spec : Spec E.S) (wr : Wr) (st : St E.S) (o : Oper) (κ : St E.S → Option R) : evOp spec wr st o κ = (evOp spec wr st o some) >>= κ := by
  unfold evOp
  split
  · split <;> rfl
  · split
    · split
      · split <;> rfl
      · rfl
    · rfl
  · split
    · cases wr.f _ with
      | false => rfl
      | true => simp only [cond_true]; split <;> rfl
    · rfl
  · exact uQ7 st _ _ _ _ κ
  · exact uQ7 st _ _ _ _ κ
  · exact vk0 st _ _ _ _ _ κ
  · split
    · split
      · split <;> rfl
      · rfl
    · split <;> rfl
  · cases okC (opv st _) <;> rfl
  · split
    · split
      · rw [Bool.cond_eq_ite, Bool.cond_eq_ite]; split <;> rfl
      · rfl
    · split
      · rw [Bool.cond_eq_ite, Bool.cond_eq_ite]
        split
        · simp only [bind, Option.bind_assoc, Option.bind_some]
        · rfl
      · split
        · rw [Bool.cond_eq_ite, Bool.cond_eq_ite]
          split
          · split <;> rfl
          · rfl
        · rfl
      · rfl
    · rfl
  · rw [Bool.cond_eq_ite, Bool.cond_eq_ite]
    split
    · split
      · split <;> rfl
      · exact uE1 spec st o κ
    · exact uE1 spec st o κ
  · split
    · split
      · split
        · rw [Bool.cond_eq_ite, Bool.cond_eq_ite]
          split
          · rfl
          · split <;> rfl
        · rfl
      · rfl
    · rfl
  · split
    · exact u63 st _ _ _ _ κ
    · split
      · rw [Bool.cond_eq_ite, Bool.cond_eq_ite]
        split
        · rfl
        · split
          · split <;> rfl
          · rfl
      · rfl
    · split
      · dsimp only
        rw [Bool.cond_eq_ite, Bool.cond_eq_ite]
        split
        · split
          · simp only [bind, Option.bind_assoc]
            congr 1
            funext x
            rw [Bool.cond_eq_ite, Bool.cond_eq_ite]
            split <;> rfl
          · rfl
        · split
          · rfl
          · rw [Bool.cond_eq_ite, Bool.cond_eq_ite]
            split
            · rfl
            · split
              · rw [Bool.cond_eq_ite, Bool.cond_eq_ite]
                split
                · rfl
                · simp only [bind, Option.bind_assoc, Option.bind_some]
              · rfl
      · rfl
    · exact uq1 st _ _ κ
  · exact uE1 spec st o κ
theorem ut8 {spec : Spec E.S} {wr : Wr} {st : St E.S} {o : Oper} {κ : St E.S → Option R} {r : R} (h : evOp spec wr st o κ = some r) : ∃ st', evOp spec wr st o some = some st' ∧ κ st' = some r := by
  rw [vq4] at h
  exact Option.bind_eq_some_iff.1 h
def uZ9 (spec : Spec E.S) (wr : Wr) (ops : Array Oper) (o : Oper) (st st' : St E.S) : Prop :=
  match o.guard with
  | none => evOp spec wr st o some = some st'
  | some (i, b) => ∃ k, ud8 ops i = some k ∧ ((∃ g, st.s k = .v (.bool g) ∧ (if g = b then evOp spec wr st o some = some st' else st' = put st o.dst (.tup []))) ∨ (st.s k = .tup [] ∧ st' = put st o.dst (.tup [])))
theorem vG6 {α : Type} (f : Nat → α) (i : Nat) (x : α) (h : f i = x) : upd f i x = f := by
  funext j
  unfold upd
  cases hb : Nat.beq j i with
  | true => rw [Nat.eq_of_beq_eq_true hb]; exact h.symm
  | false => rfl
theorem uZ3 (st : St E.S) (k : Nat) (x : AV E.S) (h : st.s k = x) : { st with s := upd st.s k x } = st := by rw [vG6 _ _ _ h]
theorem vk2 {spec : Spec E.S} {wr : Wr} {ops : Array Oper} {κ : St E.S → Option R} {o : Oper} {l : List Oper} {st : St E.S} {r : R} (h : uy1 spec wr ops κ (o :: l) st = some r) : (∃ st', uZ9 spec wr ops o st st' ∧ (uy1 spec wr ops κ l st' = some r ∨ uR7 wr o (uy1 spec wr ops κ l) st' = some r)) ∨
    (o.guard = none ∧ ∃ t n parts d e m, o.op = .buildSlice t n parts ∧ o.dst = some d ∧ E.P.underlying t = some (.slice e) ∧ (zeroCells E e).isSome = true ∧ uy3 0 parts.toList = true ∧ parts.toList.length = n ∧ n * E.P.cellsOf e ≤ 16777216 ∧ uL9 E e (parts.toList.map fun p => uh6 st.b (opv st p.2)) = some m ∧ uy1 spec wr ops κ l (up4 st d none e m false) = some r) := by
  unfold uy1 at h
  unfold uZ9
  split at h
  · rename_i hg
    rw [hg]
    unfold vX2 at h
    split at h
    · rename_i t n parts d h1 h2
      rw [Bool.cond_eq_ite] at h
      split at h
      · split at h
        · rename_i e he
          rw [Bool.cond_eq_ite] at h
          split at h
          · rename_i hc
            simp only [Bool.and_eq_true] at hc
            split at h
            · rename_i m hm
              have hu : E.P.underlying t = some (.slice e) := by
                unfold un2 at he
                split at he
                · rename_i h1; rw [h1]; exact congrArg _ (congrArg _ (Option.some.inj he))
                · cases he
              exact .inr ⟨rfl, t, n, parts, d, e, m, h1, h2, hu, hc.1, hc.2.1.1, Nat.eq_of_beq_eq_true hc.2.1.2, Nat.le_of_ble_eq_true hc.2.2, hm, h⟩
            · cases h
          · cases h
        · cases h
      · obtain ⟨st', h1, h2⟩ := ut8 h
        exact .inl ⟨st', h1, .inl h2⟩
    · obtain ⟨st', h1, h2⟩ := ut8 h
      exact .inl ⟨st', h1, .inr h2⟩
  · rename_i i b hg
    rw [hg]
    split at h
    · cases h
    · rename_i k hk
      split at h
      · rename_i g hs
        split at h
        · rename_i hgt
          subst hgt
          rw [uZ3 st k _ hs] at h
          split at h
          · obtain ⟨st', h1, h2⟩ := ut8 h
            exact .inl ⟨st', ⟨k, hk, .inl ⟨true, hs, by simpa using h1⟩⟩, .inl h2⟩
          · exact .inl ⟨_, ⟨k, hk, .inl ⟨true, hs, by simp⟩⟩, .inl h⟩
        · rename_i hgt
          obtain rfl : g = false := by simpa using hgt
          rw [uZ3 st k _ hs] at h
          split at h
          · obtain ⟨st', h1, h2⟩ := ut8 h
            exact .inl ⟨st', ⟨k, hk, .inl ⟨false, hs, by simpa using h1⟩⟩, .inl h2⟩
          · exact .inl ⟨_, ⟨k, hk, .inl ⟨false, hs, by simp⟩⟩, .inl h⟩
      · rename_i hs
        exact .inl ⟨_, ⟨k, hk, .inr ⟨hs, rfl⟩⟩, .inl h⟩
      · cases h
theorem vm8 {w : World} {G : Gh} {L : Nat → Value} {st : St E.S} {ts : Array Value} (h : ue7 E w G L st ts) {ops : Array Oper} {i k : Nat} {g : Bool} (hk : ud8 ops i = some k) (hs : st.s k = .v (.bool g)) : yielded ops ts i = some g := by
  have hd : (ops[i]?).bind (·.dst) = some k := by
    unfold ud8 at hk
    cases ho : ops[i]? with
    | none => rw [ho] at hk; cases hk
    | some o => rw [ho] at hk; exact hk
  have := h.slots k
  rw [hs] at this
  have hv := this.v_inv
  unfold yielded
  rw [hd]
  simp only [Option.bind_some]
  cases ht : ts[k]? with
  | none =>
    rw [Array.getD_eq_getD_getElem?, ht] at hv
    cases hv
  | some v =>
    rw [Array.getD_eq_getD_getElem?, ht] at hv
    simp only [Option.getD_some] at hv
    rw [hv]
theorem u53 {w : World} {G : Gh} {L : Nat → Value} {st : St E.S} {ts : Array Value} (h : ue7 E w G L st ts) {ops : Array Oper} {i k : Nat} (hk : ud8 ops i = some k) (hs : st.s k = .tup []) : yielded ops ts i = none := by
  have hd : (ops[i]?).bind (·.dst) = some k := by
    unfold ud8 at hk
    cases ho : ops[i]? with
    | none => rw [ho] at hk; cases hk
    | some o => rw [ho] at hk; exact hk
  have := h.slots k
  rw [hs] at this
  obtain ⟨vs, hv, hl, _⟩ := this.tup_inv
  have hvs : vs = [] := List.length_eq_zero_iff.1 hl.symm
  subst hvs
  unfold yielded
  rw [hd]
  simp only [Option.bind_some]
  cases ht : ts[k]? with
  | none => rfl
  | some v =>
    rw [Array.getD_eq_getD_getElem?, ht] at hv
    simp only [Option.getD_some] at hv
    rw [hv]
theorem Rep.undef {w : World} {G : Gh} {L : Nat → Value} {n : Nat} : Rep E w G L n (.tup []) undef := .tup [] [] rfl (fun i x y h => by simp at h)
theorem u47 (hE : E.Ok) {spec : Spec E.S} (hS : ul9 E spec) {wr : Wr} {w0 w : World} {G0 : Org} {G : Gh} {L : Nat → Value} {st st' : St E.S} {a : Act} (h : Inv E w0 G0 st a w G L) {ops : Array Oper} {i : Nat} {o : Oper} (hi : ops[i]? = some o) (hs : uZ9 spec wr ops o st st') {Q : Exit → Act → World → Prop} {K : Act → World → Prop}
    (hK : ∀ a w, (∃ G L, Inv E w0 G0 st' a w G L) → K a w) : wpOp E.P ops Q i K a w := by
  unfold wpOp
  simp only [hi]
  have act : evOp spec wr st o some = some st' → o.wp E.P a w K Q := fun h1 => Oper.wp_mono (fun a w ⟨st1, G1, L1, e, hI⟩ => hK a w (by obtain rfl := Option.some.inj e; exact ⟨G1, L1, hI⟩)) (vO9 hE hS h o h1 Q)
  unfold uZ9 at hs
  split at hs
  · rename_i hg
    have : Region.wanted o (yielded ops a.tmps) = true := by unfold Region.wanted; rw [hg]
    rw [if_pos this]
    exact .inl (act hs)
  · rename_i j b hg
    obtain ⟨k, h1, ⟨g, h2, h3⟩ | ⟨h2, h3⟩⟩ := hs
    case inr =>
      have hy := u53 h.st h1 h2
      have : ¬ Region.wanted o (yielded ops a.tmps) = true := by unfold Region.wanted; rw [hg]; simp [hy]
      rw [if_neg this]
      subst h3
      exact hK _ _ ⟨G, L, h.put (Below.refl _ _) .undef⟩
    have hy := vm8 h.st h1 h2
    by_cases hgb : g = b
    · rw [if_pos hgb] at h3
      have : Region.wanted o (yielded ops a.tmps) = true := by unfold Region.wanted; rw [hg]; simp [hy, hgb]
      rw [if_pos this]
      exact .inl (act h3)
    · rw [if_neg hgb] at h3
      have : ¬ Region.wanted o (yielded ops a.tmps) = true := by unfold Region.wanted; rw [hg]; simp [hy, hgb]
      rw [if_neg this]
      subst h3
      exact hK _ _ ⟨G, L, h.put (Below.refl _ _) .undef⟩
theorem uH9 (hE : E.Ok) {spec : Spec E.S} (hS : ul9 E spec) {wr : Wr} {w0 : World} {G0 : Org} {ops : Array Oper} {κ : St E.S → Option R} {r : R} {Q : Exit → Act → World → Prop} (hQ : ∀ a w, Nxt E w0 G0 κ r a w → Q .normal a w) :
    ∀ (l : List Oper) (k : Nat) {w : World} {G : Gh} {L : Nat → Value} {st : St E.S} {a : Act}, Inv E w0 G0 st a w G L → (∀ j, l[j]? = ops[k + j]?) → uy1 spec wr ops κ l st = some r → wpOps E.P ops Q (List.range' k l.length) a w
 | [], k, w, G, L, st, a, h, _, hr => hQ a w ⟨st, G, L, hr, h⟩
 | o :: l, k, w, G, L, st, a, h, hl, hr => by
   have hl1 : ∀ j, l[j]? = ops[k + 1 + j]? := fun j => by have := hl (j + 1); simpa [Nat.add_assoc, Nat.add_comm 1 j] using this
   rw [List.length_cons, List.range'_succ, wpOps_cons]
   rcases vk2 hr with ⟨st', h1, h2⟩ | ⟨hg, t, n, parts, d, e, m, b1, b2, b3, b4, b5, b6, b7, b8, b9⟩
   rotate_left
   · have hi : ops[k]? = some o := by simpa using (hl 0).symm
     unfold wpOp
     simp only [hi]
     have : Region.wanted o (yielded ops a.tmps) = true := by unfold Region.wanted; rw [hg]
     rw [if_pos this]
     refine .inl ?_
     exact Oper.wp_mono (fun a w ⟨st1, G1, L1, e, hI⟩ => uH9 hE hS hQ l (k + 1) hI hl1 e) (vC0 hE h o b1 b2 b3 b4 b5 b6 b7 b8 (κ := uy1 spec wr ops κ l) b9 Q)
   refine u47 hE hS h (i := k) (by simpa using (hl 0).symm) h1 fun a' w' ⟨G', L', hI⟩ => ?_
   have hl' : ∀ j, l[j]? = ops[k + 1 + j]? := fun j => by have := hl (j + 1); simpa [Nat.add_assoc, Nat.add_comm 1 j] using this
   rcases h2 with h2 | h2
   · exact uH9 hE hS hQ l (k + 1) hI hl' h2
   · obtain ⟨st'', L'', hI', h3⟩ := u29 hE hI h2
     exact uH9 hE hS hQ l (k + 1) hI' hl' h3
end Go.Proofs.YtaennkkcnhfglaaGreatDoor.Ev
