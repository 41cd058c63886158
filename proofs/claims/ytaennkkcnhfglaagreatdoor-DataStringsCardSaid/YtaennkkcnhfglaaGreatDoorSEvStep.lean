/- A part of the proof. -/
import Derived.Test.YtaennkkcnhfglaaGreatDoorSEvLink
set_option linter.unusedVariables false
set_option linter.unusedSimpArgs false
namespace Go.Proofs.YtaennkkcnhfglaaGreatDoor.Ev
open Go.RowKit
variable {E : Env} {R : Type}
theorem vO8 (b : Nat → Option (Box E.S)) (c : Option Nat) : drop b c = (match c with | some c => upd b c none | none => b) := by cases c <;> rfl
theorem vo2 (hE : E.Ok) {w0 w : World} {G0 : Org} {G : Gh} {L : Nat → Value} {st : St E.S} {a : Act} (h : Inv E w0 G0 st a w G L) (o : Oper) {c : Call} (ho : o.op = .call c) (hc : c.callee = .builtin .append) {x y : AV E.S} (hxs : c.args.toList.map (opv (E := E) st) = [x, y]) {t t' e e' d : Nat} (ht : c.argTypes.toList = [t, t']) (hd : o.dst = some d) (he : un2 E t = some e) (he' : un2 E t' = some e')
    (hz : (Nat.beq (E.P.bytesOf e) 0 || !uI9 E e) = false) {wr : Bool} {b : Option Nat} {l m : List (E.S e)} {sh : Bool} (hb : uo0 st e wr x = some (b, l, sh)) (hm : up3 st e y = some m) (hlim : ((l.length + m.length : Nat) : Int) * (E.P.bytesOf e : Int) ≤ 140737488355328)
    {κ : St E.S → Option R} {r : R} (hr : κ { s := putS st d (.rw st.n), b := upd (drop st.b b) st.n (some (.row e (l ++ m) sh)), n := st.n + 1, z := st.z } = some r) (Q : Exit → Act → World → Prop) : o.wp E.P a w (Nxt E w0 G0 κ r) Q := by
  obtain ⟨a1, a2, ha⟩ : ∃ a1 a2, c.args = #[a1, a2] := by
    have hlen : c.args.toList.length = 2 := by
      have := congrArg List.length hxs
      simpa using this
    match hq : c.args.toList, hlen with
    | [a1, a2], _ => exact ⟨a1, a2, by rw [← Array.toArray_toList (xs := c.args), hq]⟩
  have hty : c.argTypes = #[t, t'] := by rw [← Array.toArray_toList (xs := c.argTypes), ht]
  rw [ha] at hxs
  simp only [List.map_cons, List.map_nil, List.cons.injEq, and_true] at hxs
  obtain ⟨rfl, rfl⟩ := hxs
  have hu : ∀ {t e}, un2 E t = some e → E.P.underlying t = some (.slice e) := by
    intro t e h
    unfold un2 at h
    split at h
    · rename_i h1; rw [h1]; exact congrArg _ (congrArg _ (Option.some.inj h))
    · cases h
  rw [Bool.or_eq_false_iff] at hz
  obtain ⟨v', w', G', L', hrun, hI⟩ := u02 (ty := o.type) hE h (d := d) (wr := wr) (h.st.opv a1) (h.st.opv a2) (hu he) ⟨e', hu he'⟩ (fun h0 => by have := hz.1; rw [h0] at this; cases this) (by simpa using hz.2) hb hm hlim
  have hex : (execOp a.eval o).run E.P w = .ok (.value v') w' := by
    unfold execOp
    rw [ho]
    simp [resolve, hc, ha, hty, invoke, builtin, hrun]
  unfold Oper.wp
  rw [hex, Oper.upon_value, hd]
  refine ⟨_, G', L', ?_, hI⟩
  have e1 : up4 st d b e (l ++ m) sh = { s := putS st d (.rw st.n), b := upd (drop st.b b) st.n (some (.row e (l ++ m) sh)), n := st.n + 1, z := st.z } := by
    unfold up4; rw [vO8]
  rw [e1]; exact hr
theorem vG2 (hE : E.Ok) {w0 w : World} {G0 : Org} {G : Gh} {L : Nat → Value} {st : St E.S} {a : Act} (h : Inv E w0 G0 st a w G L) (o : Oper) {t : Nat} {p x : Operand} (ho : o.op = .store t p x) (hd : o.dst = none) {c off t' : Nat} {cs : List (AV E.S)} (hp : opv st p = .bp c off) (hb : st.b c = some (.var t' cs))
    (hi : (E.P.info? t).isSome = true) (hok : okC (opv st x) = true) (hsz : (cellsOf (opv st x)).length = E.P.cellsOf t) (hle : off + (cellsOf (opv st x)).length ≤ cs.length)
    {κ : St E.S → Option R} {r : R} (hr : κ { st with b := upd st.b c (some (.var t' (setCells cs off (cellsOf (opv st x))))) } = some r) (Q : Exit → Act → World → Prop) : o.wp E.P a w (Nxt E w0 G0 κ r) Q := by
  have hRL := (h.st.opv x).cells h.st.one (uu3 hok)
  have hpv := h.st.opv p
  rw [hp] at hpv
  obtain ⟨b, hpe, hL⟩ : ∃ b, a.eval p = .pointer (some ⟨b, off, none⟩) ∧ L c = .pointer (some ⟨b, 0, none⟩) := by
    generalize a.eval p = u at hpv
    cases hpv with
    | bp _ _ b hc h => exact ⟨b, rfl, h⟩
  obtain ⟨hth, hI⟩ := h.store hE hb hL hRL hle
  have hlen := hRL.len
  have hrun := uA1 (E := E) (w := w) (t := t) (b := b) (o := off) (v := a.eval x) hi (by omega) hRL.one hth
  have hex : (execOp a.eval o).run E.P w = .ok .skip (w.setCells b off (a.eval x).cells.toList) := by
    unfold execOp
    rw [ho]
    simp [hpe, hrun]
  unfold Oper.wp
  rw [hex, Oper.upon_skip, hd]
  exact ⟨_, G, L, hr, hI⟩
theorem u82 (hE : E.Ok) {w0 w : World} {G0 : Org} {G : Gh} {L : Nat → Value} {st : St E.S} {a : Act} (h : Inv E w0 G0 st a w G L) (o : Oper) {t : Nat} {p x : Operand} (ho : o.op = .store t p x) (hd : o.dst = none) {c off e : Nat} {i : Int} {l : List (E.S e)} (hp : opv st p = .rp c e i off) (hb : st.b c = some (.row e l false))
    (hi : (E.P.info? t).isSome = true) (hok : okC (opv st x) = true) (hsz : (cellsOf (opv st x)).length = E.P.cellsOf t) (hle : off + (cellsOf (opv st x)).length ≤ E.P.cellsOf e) {y y' : E.S e} (hy : idx l i = some y) (hpk : E.pack e (setCells (E.cells e y) off (cellsOf (uh6 st.b (opv st x)))) = some y')
    {κ : St E.S → Option R} {r : R} (hr : κ { st with b := upd st.b c (some (.row e (l.set i.toNat y') false)) } = some r) (Q : Exit → Act → World → Prop) : o.wp E.P a w (Nxt E w0 G0 κ r) Q := by
  have hRL := (um7 hE h.st (h.st.opv x)).cells h.st.one (uu3 (vG0 (b := st.b) hok))
  have hsn := vu1 st.b (opv st x)
  have hpv := h.st.opv p
  rw [hp] at hpv
  obtain ⟨b, o0, m, cap, hpe, hL⟩ : ∃ b o0 m cap, a.eval p = .pointer (some ⟨b, o0 + i.toNat * E.P.cellsOf e + off, none⟩) ∧ L c = .slice (some ⟨b, o0, none⟩) m cap := by
    generalize a.eval p = u at hpv
    cases hpv with
    | rp _ _ _ _ b o0 m cap hc h => exact ⟨b, o0, m, cap, rfl, h⟩
  obtain ⟨hth, hI⟩ := h.rowStore hE hb hL hRL hy hpk (by rw [hsn]; exact hle)
  have hlen := hRL.len
  have hrun := uA1 (E := E) (w := w) (t := t) (b := b) (o := o0 + i.toNat * E.P.cellsOf e + off) (v := a.eval x) hi (by omega) hRL.one hth
  have hex : (execOp a.eval o).run E.P w = .ok .skip (w.setCells b (o0 + i.toNat * E.P.cellsOf e + off) (a.eval x).cells.toList) := by
    unfold execOp
    rw [ho]
    simp [hpe, hrun]
  unfold Oper.wp
  rw [hex, Oper.upon_skip, hd]
  exact ⟨_, G, L, hr, hI⟩
theorem vk5 (hE : E.Ok) {w0 w : World} {G0 : Org} {G : Gh} {L : Nat → Value} {st : St E.S} {a : Act} (h : Inv E w0 G0 st a w G L) (o : Oper) {t : Nat} {p x : Operand} (ho : o.op = .store t p x) (hd : o.dst = none) {c j e i' m : Nat} {i : Int} {l : List (E.S e)} {z : AV E.S} (hp : opv st p = .rp c e i j) (hb : st.b c = some (.lk e l i' j z)) (hx : opv st x = .rw m) (hii : i = (i' : Int))
    (hi : (E.P.info? t).isSome = true) (hsz : E.P.cellsOf t = 1)
    {κ : St E.S → Option R} {r : R} (hr : κ { st with b := upd st.b c (some (.lk e l i' j (.rw m))) } = some r) (Q : Exit → Act → World → Prop) : o.wp E.P a w (Nxt E w0 G0 κ r) Q := by
  have hxv := h.st.opv x
  rw [hx] at hxv
  have hone := hxv.oneCell h.st.one rfl
  have hpv := h.st.opv p
  rw [hp] at hpv
  obtain ⟨b, o0, m2, cap, hpe, hL⟩ : ∃ b o0 m cap, a.eval p = .pointer (some ⟨b, o0 + i.toNat * E.P.cellsOf e + j, none⟩) ∧ L c = .slice (some ⟨b, o0, none⟩) m cap := by
    generalize a.eval p = u at hpv
    cases hpv with
    | rp _ _ _ _ b o0 m cap hc h => exact ⟨b, o0, m, cap, rfl, h⟩
  have hin : i.toNat = i' := by omega
  rw [hin] at hpe
  obtain ⟨hth, hI⟩ := h.storeLk hE hb hL hxv hone
  have hcl : (a.eval x).cells.toList = [a.eval x] := by
    cases hv : a.eval x <;> simp_all [Value.cells, Value.oneCell']
  have hrun := uA1 (E := E) (w := w) (t := t) (b := b) (o := o0 + i' * E.P.cellsOf e + j) (v := a.eval x) hi (by rw [hcl]; simpa using hsz.symm) (by rw [hcl]; simpa using hone) (by
    rw [hcl]
    intro k hk
    have : k = 0 := by simpa using hk
    subst this
    exact hth)
  have hex : (execOp a.eval o).run E.P w = .ok .skip (w.setCells b (o0 + i' * E.P.cellsOf e + j) [a.eval x]) := by
    rw [hcl] at hrun
    unfold execOp
    rw [ho]
    simp [hpe, hrun]
  unfold Oper.wp
  rw [hex, Oper.upon_skip, hd]
  exact ⟨_, G, L, hr, hI⟩
theorem uh4 : ∀ {k j : Nat} {n : Int} {f : Nat → Option R} {r : R}, uu4 k j n f = some r → ∃ i, j ≤ i ∧ i < j + k ∧ n = (i : Int) ∧ f i = some r
 | 0, _, _, _, _, h => by cases h
 | k + 1, j, n, f, r, h => by
   unfold uu4 at h
   split at h
   · rename_i hd
     exact ⟨j, Nat.le_refl _, by omega, of_decide_eq_true hd, h⟩
   · obtain ⟨i, h1, h2, h3, h4⟩ := uh4 h
     exact ⟨i, by omega, by omega, h3, h4⟩
theorem uB8 {R' : Type} : ∀ {k j i : Nat} {f : Nat → Option R'}, j ≤ i → i < j + k → uu4 k j (i : Int) f = f i
 | 0, j, i, f, h1, h2 => by omega
 | k + 1, j, i, f, h1, h2 => by
   unfold uu4
   by_cases hij : i = j
   · subst hij; simp
   · have : ¬ (decide ((i : Int) = (j : Int)) = true) := by simp; omega
     rw [if_neg this]
     exact uB8 (by omega) (by omega)
theorem ux4 {t len e : Nat} (h : ve2 E t = some (len, e)) : E.P.underlying t = some (.array len e) ∧ (E.P.info? e).isSome = true := by
  unfold ve2 at h
  split at h
  · rename_i hu
    rw [Bool.cond_eq_ite] at h
    split at h
    · rename_i hi
      obtain ⟨rfl, rfl⟩ := Prod.mk.inj (Option.some.inj h)
      exact ⟨hu, hi⟩
    · cases h
  · cases h
theorem vp2 {a b : Nat} (h : a < b) : Nat.blt a b = true := by unfold Nat.blt; exact Nat.ble_eq_true_of_le h
theorem ug3 {spec : Spec E.S} {st : St E.S} {o : Oper} {κ : St E.S → Option R} {r : R} (h : up9 spec st o κ = some r) : ui0 st o.dst (ue4 E spec st o) κ = some r := by
  unfold up9 at h
  split at h
  · rename_i t x i ho
    split at h
    · rename_i len e c off k n ha hx hi
      obtain ⟨hu, hinf⟩ := ux4 ha
      obtain ⟨j, _, h2, rfl, h4⟩ := uh4 h
      have : ue4 E spec st o = .val (.bp c (off + j * E.P.cellsOf e)) := by
        unfold ue4
        rw [ho]
        simp only [hu, hx, hi]
        simp only [vp2 (show j < len by omega), hinf, Bool.and_self, cond_true]
      rw [this]; exact h4
    · rename_i len e e' y off k n ha hx hi
      obtain ⟨hu, hinf⟩ := ux4 ha
      obtain ⟨j, _, h2, rfl, h4⟩ := uh4 h
      have : ue4 E spec st o = .val (.el e' y (off + j * E.P.cellsOf e)) := by
        unfold ue4
        rw [ho]
        simp only [hu, hx, hi]
        simp only [vp2 (show j < len by omega), hinf, Bool.and_self, cond_true]
      rw [this]; exact h4
    · exact h
  · rename_i t x i ho
    split at h
    · rename_i len e cs k n ha hx hi
      obtain ⟨hu, hinf⟩ := ux4 ha
      obtain ⟨j, _, h2, rfl, h4⟩ := uh4 h
      split at h4
      · rename_i y hy
        have : ue4 E spec st o = .val y := by
          unfold ue4
          rw [ho]
          simp only [hu, hx, hi]
          simp only [vp2 (show j < len by omega), hinf, Bool.and_self, cond_true, hy]
        rw [this]; exact h4
      · cases h4
    · exact h
  · exact h
theorem vO9 (hE : E.Ok) {spec : Spec E.S} (hS : ul9 E spec) {wr : Wr} {w0 w : World} {G0 : Org} {G : Gh} {L : Nat → Value} {st : St E.S} {a : Act} (h : Inv E w0 G0 st a w G L) (o : Oper) {κ : St E.S → Option R} {r : R} (hr : evOp spec wr st o κ = some r) (Q : Exit → Act → World → Prop) : o.wp E.P a w (Nxt E w0 G0 κ r) Q := by
  unfold evOp at hr
  split at hr
  · rename_i t x d ho hd
    split at hr
    · rename_i s hu hx
      exact vE6 hE h o ho hd hu hx hr Q
    · cases hr
  · rename_i x d ho
    split at hr
    · rename_i c hx
      split at hr
      · rename_i s pos hb
        exact vQ2 hE h o ho hx hb hr Q
      · cases hr
    · cases hr
  · rename_i t d ho hd
    split at hr
    · rename_i k v kt hty
      rw [Bool.cond_eq_ite] at hr
      split at hr
      · split at hr
        · exact u69 hE h o ho hd hr Q
        · cases hr
      · exact vk6 hE h o ho hd hr Q
    · cases hr
  · rename_i t m x y ho hd
    exact ve9 hE h o (.inl ho) hd hr Q
  · rename_i t m x y ho hd
    exact ve9 hE h o (.inr ho) hd hr Q
  · rename_i t m x ok d ho
    exact vC7 hE h o ho hr Q
  · rename_i t d ho hd
    split at hr
    · rename_i len e hbig
      split at hr
      · rename_i cs hz
        split at hr
        · rename_i l hp
          exact u54 hE h o ho hd hbig hz hp hr Q
        · cases hr
      · cases hr
    · split at hr
      · rename_i cs hz
        exact vA1 hE h o ho hd hz hr Q
      · cases hr
  · rename_i t x d ho hd
    cases hok : okC (opv st x) with
    | false => rw [hok] at hr; cases hr
    | true =>
      rw [hok] at hr
      exact vV1 hE h o ho hd hok hr Q
  · rename_i t p x ho hd
    split at hr
    · rename_i c off hp
      split at hr
      · rename_i t' cs hb
        rw [Bool.cond_eq_ite] at hr
        split at hr
        · rename_i hc
          simp only [Bool.and_eq_true] at hc
          exact vG2 hE h o ho hd hp hb hc.1 hc.2.1 (Nat.eq_of_beq_eq_true hc.2.2.1) (Nat.le_of_ble_eq_true hc.2.2.2) hr Q
        · cases hr
      · cases hr
    · rename_i c e' i off hp
      split at hr
      · rename_i e l hb
        rw [Bool.cond_eq_ite] at hr
        split at hr
        · rename_i hc
          simp only [Bool.and_eq_true] at hc
          obtain rfl := Nat.eq_of_beq_eq_true hc.1
          obtain ⟨y, hy, hr⟩ := Option.bind_eq_some_iff.1 hr
          obtain ⟨y', hpk, hr⟩ := Option.bind_eq_some_iff.1 hr
          exact u82 hE h o ho hd hp hb hc.2.1 hc.2.2.1 (Nat.eq_of_beq_eq_true hc.2.2.2.1) (Nat.le_of_ble_eq_true hc.2.2.2.2) hy hpk hr Q
        · cases hr
      · rename_i e l i' j z hb
        split at hr
        · rename_i m hx
          rw [Bool.cond_eq_ite] at hr
          split at hr
          · rename_i hc
            simp only [Bool.and_eq_true] at hc
            obtain rfl := Nat.eq_of_beq_eq_true hc.1
            obtain rfl := Nat.eq_of_beq_eq_true hc.2.1
            split at hr
            · rename_i hii
              exact vk5 hE h o ho hd hp hb hx hii hc.2.2.1 (Nat.eq_of_beq_eq_true hc.2.2.2) hr Q
            · cases hr
          · cases hr
        · cases hr
      · cases hr
    · cases hr
  · rename_i src dst x d ho hd
    rw [Bool.cond_eq_ite] at hr
    split at hr
    · split at hr
      · rename_i u e s hs he hx
        have hu : E.P.underlying dst = some (.slice e) := by
          unfold un2 at he
          split at he
          · rename_i h1; rw [h1]; exact congrArg _ (congrArg _ (Option.some.inj he))
          · cases he
        split at hr
        · rename_i l hl
          exact vO5 hE h o ho hd hs hu hx hl hr Q
        · cases hr
      · exact uV0 hE h o (ug3 hr) Q
    · exact uV0 hE h o (ug3 hr) Q
  · rename_i t len cap d ho hd
    split at hr
    · rename_i e k n k' m he hn hm
      have hu : E.P.underlying t = some (.slice e) := by
        unfold un2 at he
        split at he
        · rename_i h1; rw [h1]; exact congrArg _ (congrArg _ (Option.some.inj he))
        · cases he
      split at hr
      · rename_i zc hz
        split at hr
        · rename_i z hp
          rw [Bool.cond_eq_ite] at hr
          split at hr
          · cases hr
          · rename_i hby
            split at hr
            · rename_i hc
              simp only [vX5, Bool.and_eq_true, decide_eq_true_eq] at hc
              exact vQ0 hE h o ho hd hu hn hm hz hp (fun h0 => hby (by rw [h0]; rfl)) hc.1 hc.2.1 (by
                have h3 := Nat.le_of_ble_eq_true hc.2.2
                have h4 : ((m.toNat * E.P.bytesOf e : Nat) : Int) ≤ 140737488355328 := Int.ofNat_le.2 h3
                rwa [Int.natCast_mul, Int.toNat_of_nonneg (by omega)] at h4) hr Q
            · cases hr
        · cases hr
      · cases hr
    · cases hr
  · rename_i c d ho
    split at hr
    · rename_i x y t t' hc hxs ht
      exact vO6 hE h o ho hc hxs ht hr Q
    · rename_i x y t t' hc hxs ht
      split at hr
      · rename_i e e' d' he he' hd'
        rw [Bool.cond_eq_ite] at hr
        split at hr
        · cases hr
        · rename_i hz
          split at hr
          · rename_i b l sh m hb hm
            split at hr
            · rename_i hlim
              exact vo2 hE h o ho hc hxs ht (by assumption) he he' ((Bool.not_eq_true _).mp hz) hb hm (by have := Nat.le_of_ble_eq_true hlim; rw [← Int.natCast_mul]; exact Int.ofNat_le.2 this) hr Q
            · cases hr
          · cases hr
      · cases hr
    · rename_i f xs _ hc
      split at hr
      · rename_i f' caps hf
        dsimp only at hr
        rw [Bool.cond_eq_ite] at hr
        split at hr
        · rename_i hp
          split at hr
          · rename_i sp hs
            obtain ⟨ρ, hρ, hr⟩ := Option.bind_eq_some_iff.1 hr
            rw [Bool.cond_eq_ite] at hr
            split at hr
            · rename_i hb
              exact vO4 hE hS h o ho hc hf hp hs hρ hb hr Q
            · cases hr
          · cases hr
        · rename_i hp
          split at hr
          · cases hr
          · rename_i bs hbs
            rw [Bool.cond_eq_ite] at hr
            split at hr
            · cases hr
            · rename_i hpo
              split at hr
              · rename_i sp hs
                rw [Bool.cond_eq_ite] at hr
                split at hr
                · cases hr
                · rename_i hk
                  obtain ⟨ρ, hρ, hr⟩ := Option.bind_eq_some_iff.1 hr
                  exact vC3 hE hS h o ho hc hf rfl rfl (by simpa using hpo) hbs hs (Nat.eq_of_beq_eq_true (by simpa using hk)) hρ hr Q
              · cases hr
      · cases hr
    · exact uV0 hE h o hr Q
  · exact uV0 hE h o (ug3 hr) Q
end Go.Proofs.YtaennkkcnhfglaaGreatDoor.Ev
