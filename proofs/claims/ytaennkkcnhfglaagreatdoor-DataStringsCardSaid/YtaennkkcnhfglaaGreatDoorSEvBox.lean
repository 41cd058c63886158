/- A part of the proof. -/
import Derived.Test.YtaennkkcnhfglaaGreatDoorSEvCall
set_option linter.unusedVariables false
set_option linter.unusedSimpArgs false
namespace Go.Proofs.YtaennkkcnhfglaaGreatDoor.Ev
open Go.RowKit
variable {E : Env} {R : Type}
theorem uU8 : ∀ {m : List Nat} {c : Nat}, mem c m = true → m[pos c m]? = some c
 | [], _, h => by cases h
 | x :: l, c, h => by
   unfold mem at h
   unfold pos
   cases hb : Nat.beq x c with
   | true => simp [Nat.eq_of_beq_eq_true hb]
   | false =>
     rw [hb] at h
     simpa using uU8 h
theorem uE6 : ∀ {m : List Nat} {k c : Nat}, m[k]? = some c → mem c m = true
 | [], k, c, h => by simp at h
 | x :: l, k, c, h => by
   unfold mem
   cases hb : Nat.beq x c with
   | true => rfl
   | false =>
     cases k with
     | zero => simp at h; subst h; rw [Nat.beq_refl] at hb; cases hb
     | succ k => exact uE6 (by simpa using h)
theorem vl5 {m : List Nat} {c d : Nat} (h : uj9 m c = some d) : m[d]? = some c := by
  unfold uj9 at h
  cases hc : mem c m with
  | false => rw [hc] at h; cases h
  | true =>
    rw [hc] at h
    obtain rfl := Option.some.inj h
    exact uU8 hc
theorem vl4 {m : List Nat} {c : Nat} (h : mem c m = false) : uj9 m c = none := by unfold uj9; rw [h]; rfl
theorem uL6 : ∀ {l m : List Nat}, u24 l m = true → l = m
 | [], [], _ => rfl
 | [], _ :: _, h => by cases h
 | _ :: _, [], h => by cases h
 | x :: l, y :: m, h => by
   unfold u24 at h
   rw [Bool.cond_eq_ite] at h
   split at h
   · rename_i hb; rw [Nat.eq_of_beq_eq_true hb, uL6 h]
   · cases h
theorem uD5 : ∀ (n k i : Nat), i < n → (upTo k n)[i]? = some (k + i)
 | n + 1, k, 0, _ => rfl
 | n + 1, k, i + 1, h => by
   unfold upTo
   rw [List.getElem?_cons_succ, uD5 n (k + 1) i (by omega)]
   congr 1; omega
theorem vh3 : ∀ (n k : Nat), (upTo k n).length = n
 | 0, _ => rfl
 | n + 1, k => by simp [upTo, vh3 n]
theorem vl2 {m : List Nat} (h : vs9 m = true) {i c : Nat} (hi : m[i]? = some c) : pos c m = i := by
  have h1 := uL6 h
  have h2 := congrArg (fun l => l[i]?) h1
  simp only [List.getElem?_map, hi, Option.map_some] at h2
  rw [uD5 _ _ _ (List.getElem?_eq_some_iff.1 hi).1] at h2
  simpa using h2
theorem uH0 {α : Type} : ∀ {l : List (Option α)} {r : List α}, us6 l = some r → l = r.map some
 | [], r, h => by obtain rfl := Option.some.inj h; rfl
 | some x :: l, r, h => by
   unfold us6 at h
   split at h
   · rename_i r' h1
     obtain rfl := Option.some.inj h
     rw [uH0 h1]; rfl
   · cases h
 | none :: _, _, h => by cases h
def uK5 (ρ : Nat → Option Nat) (G : Gh) : Gh := fun b => (G b).map fun p => (p.1.bind ρ, p.2)
def uB3 (m : List Nat) (L : Nat → Value) : Nat → Value := fun d => match m[d]? with | some c => L c | none => undef
theorem uK6 {ρ : Nat → Option Nat} {G : Gh} {b o : Nat} : Imm (uK5 ρ G) b o ↔ Imm G b o := by
  unfold Imm uK5
  cases hg : G b with
  | none => simp
  | some p =>
    obtain ⟨c, u⟩ := p
    simp
theorem uK7 {m : List Nat} {n : Nat} {L : Nat → Value} (c d : Nat) (_ : c < n) (hd : uj9 m c = some d) : d < m.length ∧ uB3 m L d = L c := by
  have := vl5 hd
  exact ⟨(List.getElem?_eq_some_iff.1 this).1, by unfold uB3; rw [this]⟩
theorem Inv.give (hE : E.Ok) {w0 w : World} {G0 : Org} {G : Gh} {L : Nat → Value} {st : St E.S} {a : Act} (h : Inv E w0 G0 st a w G L) {m : List Nat} (hm : ∀ c ∈ m, c < st.n) (hp : vs9 m = true) {bs : List (Box E.S)} (hbs : us6 (m.map fun c => (st.b c).map (mapB (uj9 m))) = some bs)
    {xs : List (AV E.S)} {vs : List Value} (hl : xs.length = vs.length) (hx : ∀ (i : Nat) x v, xs[i]? = some x → vs[i]? = some v → Rep E w G L st.n x v) : vm9 E w (uK5 (uj9 m) G) (uB3 m L) bs (mapL (uj9 m) xs) vs := by
  have hb := uH0 hbs
  have hlen : bs.length = m.length := by have := congrArg List.length hb; simpa using this.symm
  have hf : ∀ b o v, Imm G b o → w.cell? ⟨b, o, none⟩ = some v → Imm (uK5 (uj9 m) G) b o ∧ w.cell? ⟨b, o, none⟩ = some v := fun b o v h1 h2 => ⟨uK6.2 h1, h2⟩
  have hren : ∀ {x : AV E.S} {v : Value}, Rep E w G L st.n x v → Rep E w (uK5 (uj9 m) G) (uB3 m L) bs.length (mapV (uj9 m) x) v := fun hx => by rw [hlen]; exact hx.ren hf uK7 (hE.ren _)
  refine ⟨fun b c u hg => ?_, fun g x hg => ?_, ⟨by rw [uh3]; exact hl, fun i x v hi hv => ?_⟩, fun k x hk => ?_, fun k hk => ?_, (h.kp.2.2.step h.fr).ghost fun b hb' => by simp [uK5, hb']⟩
  · obtain ⟨p, h1, h2⟩ := Option.map_eq_some_iff.1 hg
    obtain ⟨e1, e2⟩ := Prod.mk.inj h2
    obtain ⟨h3, h4⟩ := h.st.own b p.1 p.2 h1
    refine ⟨h3, fun k hk => ?_⟩
    rw [← e1] at hk
    obtain ⟨c, hc, hd⟩ := Option.bind_eq_some_iff.1 hk
    rw [hlen]
    exact (uK7 (n := st.n) (L := L) c k (h4 c hc) hd).1
  · have := hren (h.st.glob g x hg)
    rwa [um1 _ _ (hE.glob g x hg)] at this
  · rw [un4] at hi
    obtain ⟨x', h1, rfl⟩ := Option.map_eq_some_iff.1 hi
    exact hren (hx i x' v h1 hv)
  · have h1 := congrArg (fun l => l[k]?) hb
    simp only [List.getElem?_map, hk, Option.map_some] at h1
    obtain ⟨c, hc, h2⟩ := Option.map_eq_some_iff.1 h1
    obtain ⟨x', h3, rfl⟩ := Option.map_eq_some_iff.1 h2
    rw [hlen]
    refine (h.st.boxes c x' h3).2.ren hE hf uK7 (by unfold uB3; rw [hc]) fun b u hg => ?_
    unfold uK5
    rw [hg]
    simp only [Option.map_some, Option.bind_some]
    unfold uj9
    rw [uE6 hc, vl2 hp hc]
    rfl
  · rw [hlen] at hk
    have hc := List.getElem?_eq_getElem hk
    unfold uB3
    rw [hc]
    exact h.st.one _ (hm _ (List.getElem_mem hk))
theorem uH7 {a b : Nat} (h : a < b) : Nat.blt a b = true := by unfold Nat.blt; exact Nat.ble_eq_true_of_le h
theorem uA9 {a b : Nat} (h : ¬ a < b) : Nat.blt a b = false := by
  cases hb : Nat.blt a b with
  | false => rfl
  | true => exact absurd (Nat.le_of_ble_eq_true hb) h
theorem Inv.back (hE : E.Ok) {w0 w w' : World} {G0 : Org} {G G1 : Gh} {L L1 : Nat → Value} {st : St E.S} {a : Act} (h : Inv E w0 G0 st a w G L) {m : List Nat} (hm : ∀ c ∈ m, c < st.n) (hp : vs9 m = true) {k : Nat} (hkm : k ≤ m.length) {y : AV E.S} {bx : List (Box E.S)} {v : Value} (hr : uA4 E w (uK5 (uj9 m) G) y bx v w' G1 L1) (hk : k ≤ bx.length) (hloc : ∀ i, i < k → L1 i = uB3 m L i) (d : Option Nat) :
    ∃ G' L', Inv E w0 G0 { s := putO st d (mapV (uf2 st m k) y), b := vj0 st m k bx, n := st.n + (bx.length - k), z := st.z } (a.put d v) w' G' L' := by
  let Gc := uK5 (uj9 m) G
  let own : Nat → Prop := fun b => b < w.heap.size ∧ ∀ p u, ¬ Gc b = some (some p, u)
  let G' : Gh := fun b => if Classical.propDecidable (own b) |>.decide then G b else (G1 b).map fun p => (p.1.bind (uf2 st m k), p.2)
  let L' : Nat → Value := fun c => if c < st.n then L c else L1 (k + (c - st.n))
  have hin : ∀ b, own b → G' b = G b := fun b hb => if_pos (by simpa using hb)
  have hout : ∀ b, ¬ own b → G' b = (G1 b).map fun p => (p.1.bind (uf2 st m k), p.2) := fun b hb => if_neg (by simpa using hb)
  have hold : ∀ b, own b → w'.heap[b]? = w.heap[b]? ∧ G1 b = Gc b := fun b hb => hr.fr.old b hb.1 hb.2
  have hL : ∀ c, c < st.n → L' c = L c := fun c hc => if_pos hc
  have hmi : ∀ i c, m[i]? = some c → c < st.n := fun i c hc => hm c (List.mem_of_getElem? hc)
  have hσ : ∀ i e, i < bx.length → uf2 st m k i = some e → e < st.n + (bx.length - k) ∧ L' e = L1 i := by
    intro i e hi he
    unfold uf2 at he
    by_cases hik : i < k
    · rw [uH7 hik] at he
      have hc := hmi i e he
      refine ⟨by omega, ?_⟩
      rw [hL e hc, hloc i hik]
      unfold uB3
      rw [show m[i]? = some e from he]
    · rw [uA9 hik] at he
      obtain rfl := Option.some.inj he
      refine ⟨by omega, ?_⟩
      have : ¬ st.n + (i - k) < st.n := by omega
      simp only [L', if_neg this]
      congr 1; omega
  have himm1 : ∀ b o u, Imm G1 b o → w'.cell? ⟨b, o, none⟩ = some u → Imm G' b o ∧ w'.cell? ⟨b, o, none⟩ = some u := by
    intro b o u hi hc
    refine ⟨?_, hc⟩
    by_cases ho : own b
    · intro c u' hg
      rw [hin b ho] at hg
      have : Imm Gc b o := by
        intro c u' hg'
        rw [← (hold b ho).2] at hg'
        exact hi c u' hg'
      exact (uK6.1 this) c u' hg
    · intro c u' hg
      rw [hout b ho] at hg
      obtain ⟨p, h1, h2⟩ := Option.map_eq_some_iff.1 hg
      have := hi p.1 p.2 h1
      rw [(Prod.mk.inj h2).2] at this
      exact this
  have hf : ∀ b o u, Imm G b o → w.cell? ⟨b, o, none⟩ = some u → Imm G' b o ∧ w'.cell? ⟨b, o, none⟩ = some u := by
    intro b o u hi hc
    obtain ⟨h1, h2⟩ := hr.fr.imm b o u (uK6.2 hi) hc
    exact himm1 b o u h1 h2
  have hrep : ∀ {x : AV E.S} {u : Value}, Rep E w' G1 L1 bx.length x u → Rep E w' G' L' (st.n + (bx.length - k)) (mapV (uf2 st m k) x) u := fun hx => hx.ren himm1 hσ (hE.ren _)
  have hslots : ∀ i, Rep E w' G' L' (st.n + (bx.length - k)) (st.s i) (a.tmps.getD i undef) := fun i => (h.st.slots i).step hf hL (by omega)
  have hboxB : ∀ i x e, bx[i]? = some x → uf2 st m k i = some e → ub2 E w' G' L' (st.n + (bx.length - k)) e (mapB (uf2 st m k) x) := by
    intro i x e hi he
    have hil := (List.getElem?_eq_some_iff.1 hi).1
    refine (hr.box i x hi).ren hE himm1 hσ (hσ i e hil he).2 fun b u hg => ?_
    have hno : ¬ own b := by
      intro ho
      rw [(hold b ho).2] at hg
      exact ho.2 _ _ hg
    rw [hout b hno, hg]
    simp [he]
  refine ⟨G', L', ⟨?_, by rw [uq7]; exact h.st.size, ?_, ?_, ?_, fun g x hg => (h.st.glob g x hg).step hf hL (by simp)⟩, h.fr.trans ⟨hr.fr.os, hr.fr.tape, hr.fr.output, hr.fr.size, fun b h1 h2 => ?_, hf⟩, by rw [ue0]; exact h.df, h.kp.mono (by simp) hL⟩
  · have := um6 (st := st) (a := a) (d := d) h.st.size hslots (hrep hr.rep)
    cases d <;> exact this
  · intro c x hc
    simp only [vj0] at hc
    by_cases hcn : c < st.n
    · rw [uH7 hcn] at hc
      simp only [cond_true] at hc
      refine ⟨by simp; omega, ?_⟩
      cases hmc : mem c m with
      | true =>
        rw [hmc] at hc
        simp only [cond_true] at hc
        by_cases hpk : pos c m < k
        · rw [uH7 hpk] at hc
          simp only [cond_true] at hc
          obtain ⟨x', h1, rfl⟩ := Option.map_eq_some_iff.1 hc
          refine hboxB _ x' c h1 ?_
          unfold uf2
          rw [uH7 hpk]
          exact uU8 hmc
        · rw [uA9 hpk] at hc; cases hc
      | false =>
        rw [hmc] at hc
        simp only [cond_false] at hc
        obtain ⟨h1, h2⟩ := h.st.boxes c x hc
        refine h2.step hE h1 hf hL (by simp) fun b u hg => ?_
        have ho : own b := by
          refine ⟨(h.st.own b _ u hg).1, fun p u' hg' => ?_⟩
          simp only [Gc, uK5, hg, Option.map_some, Option.bind_some, vl4 hmc] at hg'
          cases hg'
        have hb := (hold b ho).1
        refine ⟨by rw [hin b ho]; exact hg, fun o v hv => ?_, fun ob _ hs => hb.trans hs⟩
        exact ⟨by rw [← hv]; exact World.cell?_of_block (w := w) hb, World.frozen?_of_block (w := w) hb⟩
    · rw [uA9 hcn] at hc
      simp only [cond_false] at hc
      split at hc
      rotate_left
      · exact absurd (h.st.boxes c x hc).1 hcn
      rename_i x' h1
      obtain rfl := Option.some.inj hc
      have hil := (List.getElem?_eq_some_iff.1 h1).1
      refine ⟨by simp; omega, hboxB _ x' c h1 ?_⟩
      unfold uf2
      rw [uA9 (by omega)]
      simp only [cond_false, Option.some.injEq]
      omega
  · intro b c u hg
    by_cases ho : own b
    · rw [hin b ho] at hg
      obtain ⟨h1, h2⟩ := h.st.own b c u hg
      exact ⟨Nat.lt_of_lt_of_le h1 hr.fr.size, fun j hj => by have := h2 j hj; simp; omega⟩
    · rw [hout b ho] at hg
      obtain ⟨p, h1, h2⟩ := Option.map_eq_some_iff.1 hg
      obtain ⟨h3, h4⟩ := hr.own b p.1 p.2 h1
      refine ⟨h3, fun j hj => ?_⟩
      rw [← (Prod.mk.inj h2).1] at hj
      obtain ⟨i, h5, h6⟩ := Option.bind_eq_some_iff.1 hj
      exact (hσ i j (h4 i h5) h6).1
  · intro c hc
    by_cases hcn : c < st.n
    · rw [hL c hcn]; exact h.st.one c hcn
    · have : L' c = L1 (k + (c - st.n)) := if_neg hcn
      rw [this]
      exact hr.one _ (by simp only at hc; omega)
  · have ho : own b := by
      refine ⟨h1, fun p u hg => ?_⟩
      obtain ⟨q, h3, h4⟩ := Option.map_eq_some_iff.1 hg
      obtain ⟨c, u'⟩ := q
      cases c with
      | none => simp at h4
      | some c => exact h2 c u' h3
    exact ⟨(hold b ho).1, hin b ho⟩
theorem vr3 {st : St E.S} {xs : List (AV E.S)} : ∀ c ∈ ui1 st xs, c < st.n := by
  intro c hc
  unfold ui1 at hc
  have : c ∈ (uj8 st.b 100 (idsL xs) []).filter fun c => Nat.blt c st.n := by
    rcases List.mem_append.1 hc with h | h
    · exact (List.mem_filter.1 h).1
    · exact (List.mem_filter.1 h).1
  have := (List.mem_filter.1 this).2
  rwa [Nat.blt_eq] at this
theorem vi0 {w : World} {G : Gh} {L : Nat → Value} {st : St E.S} {ts : Array Value} (hE : E.Ok) (h : ue7 E w G L st ts) {x : AV E.S} {v : Value} (hx : Rep E w G L st.n x v) : Rep E w G L st.n (ub8 st.b false x) v := by
  by_cases hrw : ∃ c, x = .rw c
  · obtain ⟨c, rfl⟩ := hrw
    obtain ⟨rfl, hc⟩ := hx.rw_inv
    simp only [ub8]
    split
    · rename_i e l sh hb
      cases sh with
      | true => exact (h.boxes c _ hb).2.snap hE
      | false => exact .dead _
    · exact .dead _
  · by_cases hag : ∃ cs, x = .agg cs
    · obtain ⟨cs, rfl⟩ := hag
      have e0 : ub8 st.b false (.agg cs) = uh6 st.b (.agg cs) := by
        simp only [ub8, uh6]
        rw [List.map_congr_left fun x _ => u45 st.b x]
      rw [e0]
      exact um7 hE h hx
    · have e1 : ub8 st.b false x = x := by
        cases x <;> first | rfl | exact absurd ⟨_, rfl⟩ hrw | exact absurd ⟨_, rfl⟩ hag
      rw [e1]; exact hx
theorem vC3 (hE : E.Ok) {spec : Spec E.S} (hS : ul9 E spec) {w0 w : World} {G0 : Org} {G : Gh} {L : Nat → Value} {st : St E.S} {a : Act} (h : Inv E w0 G0 st a w G L) (o : Oper) {c : Call} (ho : o.op = .call c) {fo : Operand} (hc : c.callee = .value fo) {f : Nat} {caps : List (AV E.S)} (hf : opv st fo = .fn f caps) {m : List Nat} (hm : m = ui1 st ((c.args.toList.map (opv (E := E) st)).map (ub8 st.b false) ++ caps)) {k : Nat} (hk : k = uq3 st m) (hp : vs9 m = true) {bs : List (Box E.S)} (hbs : us6 (m.map fun c => (st.b c).map (mapB (uj9 m))) = some bs)
    {sp : Sp E.S} (hs : spec f (mapL (uj9 m) ((c.args.toList.map (opv (E := E) st)).map (ub8 st.b false) ++ caps)) bs = some sp) (hsk : sp.k = k) {ρ : sp.ρ} (hρ : sp.run = some ρ) {κ : St E.S → Option R} {r : R}
    (hr : κ { s := putO st o.dst (mapV (uf2 st m k) (sp.av ρ)), b := vj0 st m k (sp.bx ρ), n := st.n + ((sp.bx ρ).length - k), z := st.z } = some r) (Q : Exit → Act → World → Prop) : o.wp E.P a w (Nxt E w0 G0 κ r) Q := by
  obtain ⟨hl, hargs⟩ := uA8 h.st c.args
  have hfv := h.st.opv fo
  rw [hf] at hfv
  obtain ⟨cv, hcv, hcl, hcr⟩ : ∃ cv : List Value, a.eval fo = .func (.func f) #[] cv.toArray ∧ caps.length = cv.length ∧ ∀ (i : Nat) (x : AV E.S) (y : Value), caps[i]? = some x → cv[i]? = some y → Rep E w G L st.n x y := by
    generalize a.eval fo = u at hfv
    cases hfv with
    | fn _ _ vs hl h => exact ⟨vs, rfl, hl, h⟩
  have hmn : ∀ c ∈ m, c < st.n := by rw [hm]; exact vr3
  have hkm : k ≤ m.length := by rw [hk]; exact List.length_filter_le _ _
  have hgiven := h.give hE hmn hp hbs (xs := (c.args.toList.map (opv (E := E) st)).map (ub8 st.b false) ++ caps) (vs := (c.args.map a.eval).toList ++ cv) (by rw [List.length_append, List.length_append, List.length_map, hl, hcl]) fun i x v hx hv => by
    rw [List.getElem?_append] at hx hv
    rw [List.length_map, hl] at hx
    split at hx
    · rename_i hi
      rw [if_pos hi] at hv
      rw [List.getElem?_map] at hx
      obtain ⟨x', h1, rfl⟩ := Option.map_eq_some_iff.1 hx
      exact vi0 hE h.st (hargs i x' v h1 hv)
    · rename_i hi
      rw [if_neg hi] at hv
      exact hcr _ x v hx hv
  obtain ⟨nx, w1, hrun, hent⟩ := hS f _ bs sp hs ρ hρ w _ _ _ hgiven
  have hex : (execOp a.eval o).run E.P w = .ok nx w1 := by
    have e1 : ((c.args.map a.eval).toList ++ cv).toArray = c.args.map a.eval ++ cv.toArray := by simp
    rw [e1] at hrun
    unfold execOp
    rw [ho]
    simp only [resolve, hc, hcv, Deferred.ofValue, Sem.run_bind, Sem.run_pure, Result.andThen_ok, invoke, Array.empty_append]
    exact hrun
  have fin : ∀ v w', (∃ G' L', uA4 E w (uK5 (uj9 m) G) (sp.av ρ) (sp.bx ρ) v w' G' L' ∧ sp.k ≤ (sp.bx ρ).length ∧ ∀ i, i < sp.k → L' i = uB3 m L i) → Nxt E w0 G0 κ r (a.put o.dst v) w' := by
    rintro v w' ⟨G', L', hres, h1, h2⟩
    rw [hsk] at h1 h2
    obtain ⟨G2, L2, hI⟩ := h.back hE hmn hp hkm hres h1 h2 o.dst
    exact ⟨_, G2, L2, hr, hI⟩
  unfold Oper.wp
  rw [hex]
  rcases hent with ⟨rfl, hcalls⟩ | ⟨v, rfl, hv⟩
  · rw [Oper.upon_enter]
    refine hcalls.mono ?_
    rintro e w' ⟨v, rfl, hv⟩
    exact fin v w' hv
  · rw [Oper.upon_value]
    exact fin v w1 hv
end Go.Proofs.YtaennkkcnhfglaaGreatDoor.Ev
