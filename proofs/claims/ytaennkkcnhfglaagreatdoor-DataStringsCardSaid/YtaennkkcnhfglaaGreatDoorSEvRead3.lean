/- A part of the proof. -/
import Derived.Test.YtaennkkcnhfglaaGreatDoorSEvRead2
import Derived.Lib.ConvBytes
import Derived.Laws.AppendOwn
import Derived.Laws.BytesArg
set_option linter.unusedVariables false
namespace Go.Proofs.YtaennkkcnhfglaaGreatDoor.Ev
open Go.RowKit
variable {E : Env}
def OpOk (E : Env) (w : World) (G : Gh) (L : Nat → Value) (n : Nat) (y : AV E.S) (m : Sem Next) : Prop :=
  ∃ v w', m.run E.P w = .ok (.value v) w' ∧ Below w.heap.size w w' ∧ Rep E w' G L n y v
theorem uc5.op {w : World} {G : Gh} {L : Nat → Value} {n : Nat} {y : AV E.S} {m : Sem Value} (h : uc5 E w G L n y m) : OpOk E w G L n y (do pure (.value (← m))) := by
  obtain ⟨v, w', h1, h2, h3⟩ := h
  exact ⟨v, w', by simp [h1], h2, h3⟩
theorem OpOk.here {w : World} {G : Gh} {L : Nat → Value} {n : Nat} {y : AV E.S} {m : Sem Next} {v : Value} (h : m.run E.P w = .ok (.value v) w) (hy : Rep E w G L n y v) : OpOk E w G L n y m := ⟨v, w, h, Below.refl _ _, hy⟩
theorem Rep.el_inv {w : World} {G : Gh} {L : Nat → Value} {n e o : Nat} {x : E.S e} {v : Value} (h : Rep E w G L n (.el e x o) v) : ∃ b off, v = .pointer (some ⟨b, off + o, none⟩) ∧ (∀ o', Rep E w G L n (.el e x o') (.pointer (some ⟨b, off + o', none⟩))) ∧
    (∀ (j : Nat) c, (E.cells e x)[j]? = some c → ∃ u, w.cell? ⟨b, off + j, none⟩ = some u ∧ Rep E w G L n c u) := by
  cases h with
  | el _ _ _ b off vals h1 h2 => exact ⟨b, off, rfl, fun o' => .el e x o' b off vals h1 h2, fun j c hj => ⟨_, (h1 j c hj).2, h2 j c hj⟩⟩
theorem Rep.op_inv {w : World} {G : Gh} {L : Nat → Value} {n e : Nat} {x : E.S e} {v : Value} (h : Rep E w G L n (.op e (some x)) v) : Rep E w G L n (.el e x 0) v := by
  cases h with
  | op1 _ _ _ h => exact h
theorem Rep.ar_inv {w : World} {G : Gh} {L : Nat → Value} {n e : Nat} {l : List (E.S e)} {v : Value} (h : Rep E w G L n (.ar e l) v) : ∃ b off, v = .pointer (some ⟨b, off, none⟩) ∧ Rep E w G L n (.sl e l false) (.slice (some ⟨b, off, none⟩) l.length l.length) := by
  cases h with
  | ar _ _ b off h => exact ⟨b, off, rfl, h⟩
theorem uP0 (hE : E.Ok) {w : World} {G : Gh} {L : Nat → Value} {n t e len : Nat} (hu : E.P.underlying t = some (.array len e)) (hi : (E.P.info? e).isSome = true) {xs : List (E.S e)} (hlen : len = xs.length) {v : Value} (hx : Rep E w G L n (.ar e xs) v) {k : IntKind} {i : Int} {x : E.S e} (h : idx xs i = some x) :
    uc5 E w G L n (.el e x 0) (Instr.indexAt t v (.int k i)) := by
  obtain ⟨h0, h1, h2⟩ := uI1 h
  have hsz := ud4 hi w
  obtain ⟨b, off, rfl, hs⟩ := hx.ar_inv
  obtain ⟨vals, h3, h4⟩ : ∃ vals : Nat → Value, (∀ i x j c, xs[i]? = some x → (E.cells e x)[j]? = some c → Imm G b (off + i * E.P.cellsOf e + j) ∧ w.cell? ⟨b, off + i * E.P.cellsOf e + j, none⟩ = some (vals (off + i * E.P.cellsOf e + j))) ∧
      ∀ i x j c, xs[i]? = some x → (E.cells e x)[j]? = some c → Rep E w G L n c (vals (off + i * E.P.cellsOf e + j)) := by
    generalize hq : Value.slice (some ⟨b, off, none⟩) xs.length xs.length = q at hs
    cases hs with
    | sn => cases hq
    | se _ a _ => exact ⟨fun _ => undef, fun i x j c hi => by simp at hi, fun i x j c hi => by simp at hi⟩
    | sl _ _ _ b' off' cap vals hc hf h3 h4 =>
      simp only [Value.slice.injEq, Option.some.injEq, Addr.mk.injEq, and_true] at hq
      obtain ⟨⟨rfl, rfl⟩, _⟩ := hq
      exact ⟨vals, h3, h4⟩
  refine .here (v := .pointer (some ⟨b, off + i.toNat * E.P.cellsOf e + 0, none⟩)) ?_ (.el e x 0 b (off + i.toNat * E.P.cellsOf e) vals (fun j c hj => h3 _ x j c h2 hj) (fun j c hj => h4 _ x j c h2 hj))
  rw [← hlen] at h1
  simp [Instr.indexAt, asIntOf, run_underlying hu, h0, h1, hsz, Addr.add_mid, Instr.sureAddr]
theorem uP1 (hE : E.Ok) {w : World} {G : Gh} {L : Nat → Value} {n t e len : Nat} (hu : E.P.underlying t = some (.array len e)) (hi : (E.P.info? e).isSome = true) {xs : List (E.S e)} (hlen : len = xs.length) {v : Value} (hx : Rep E w G L n (.ar e xs) v) {low high : Option Value} {l h : Int} {p : Nat × Nat} (hp : span xs.length l h = some p)
    (hl : (low = none ∧ l = 0) ∨ ∃ k, low = some (.int k l)) (hh : (high = none ∧ h = (xs.length : Int)) ∨ ∃ k, high = some (.int k h)) : uc5 E w G L n (.sl e (cut xs p) false) (Instr.sliceAt t v low high none) := by
  obtain ⟨h0, h1, h2, rfl⟩ := up1 hp
  have hcl : (cut xs (l.toNat, h.toNat)).length = h.toNat - l.toNat := u60 (by simp; omega)
  have hsz := ud4 hi w
  obtain ⟨b, off, rfl, hs⟩ := hx.ar_inv
  obtain ⟨vals, h3, h4⟩ : ∃ vals : Nat → Value, (∀ i x j c, xs[i]? = some x → (E.cells e x)[j]? = some c → Imm G b (off + i * E.P.cellsOf e + j) ∧ w.cell? ⟨b, off + i * E.P.cellsOf e + j, none⟩ = some (vals (off + i * E.P.cellsOf e + j))) ∧
      ∀ i x j c, xs[i]? = some x → (E.cells e x)[j]? = some c → Rep E w G L n c (vals (off + i * E.P.cellsOf e + j)) := by
    generalize hq : Value.slice (some ⟨b, off, none⟩) xs.length xs.length = q at hs
    cases hs with
    | sn => cases hq
    | se _ a _ => exact ⟨fun _ => undef, fun i x j c hi => by simp at hi, fun i x j c hi => by simp at hi⟩
    | sl _ _ _ b' off' cap vals hc hf h3 h4 =>
      simp only [Value.slice.injEq, Option.some.injEq, Addr.mk.injEq, and_true] at hq
      obtain ⟨⟨rfl, rfl⟩, _⟩ := hq
      exact ⟨vals, h3, h4⟩
  have hb := uh7 (E := E) false len len low high l h h0 h1 (by omega) hl (by rw [hlen]; exact hh) w
  have hlh : h.toNat - l.toNat ≤ len - l.toNat := by omega
  rw [← hcl] at hlh
  by_cases hcl2 : len = l.toNat
  · refine .here (v := .slice (some ⟨b, off, none⟩) (cut xs (l.toNat, h.toNat)).length (len - l.toNat)) ?_ ?_
    · rw [hcl2] at hb ⊢
      have hu' := hu
      rw [hcl2] at hu'
      simp [Instr.sliceAt, run_underlying hu', hb, hsz, hcl, Instr.sureAddr]
    · have : (cut xs (l.toNat, h.toNat)) = [] := List.eq_nil_of_length_eq_zero (by omega)
      rw [this]
      exact .sl e [] false b off (len - l.toNat) vals (by simp) (fun h => by cases h) (fun i x j c hi => by simp at hi) (fun i x j c hi => by simp at hi)
  · refine .here (v := .slice (some ⟨b, off + l.toNat * E.P.cellsOf e, none⟩) (cut xs (l.toNat, h.toNat)).length (len - l.toNat)) ?_ ?_
    · simp [Instr.sliceAt, run_underlying hu, hb, hsz, hcl2, hcl, Addr.add_mid, Instr.sureAddr]
    · have e1 : ∀ i j, off + l.toNat * E.P.cellsOf e + i * E.P.cellsOf e + j = off + (l.toNat + i) * E.P.cellsOf e + j := fun i j => by rw [Nat.add_mul]; omega
      refine .sl e _ false b (off + l.toNat * E.P.cellsOf e) (len - l.toNat) vals hlh (fun h => by cases h) (fun i x j c hi hj => ?_) (fun i x j c hi hj => ?_)
      · rw [e1]; exact h3 _ x j c (uD9 hi) hj
      · rw [e1]; exact h4 _ x j c (uD9 hi) hj
theorem Rep.bp_inv {w : World} {G : Gh} {L : Nat → Value} {n c o : Nat} {v : Value} (h : Rep E w G L n (.bp c o) v) : ∃ b, v = .pointer (some ⟨b, o, none⟩) ∧ c < n ∧ L c = .pointer (some ⟨b, 0, none⟩) := by
  cases h with
  | bp _ _ b hc h => exact ⟨b, rfl, hc, h⟩
theorem Rep.rp_inv {w : World} {G : Gh} {L : Nat → Value} {n c e o : Nat} {i : Int} {v : Value} (h : Rep E w G L n (.rp c e i o) v) : ∃ b off m cap, v = .pointer (some ⟨b, off + i.toNat * E.P.cellsOf e + o, none⟩) ∧ c < n ∧ L c = .slice (some ⟨b, off, none⟩) m cap := by
  cases h with
  | rp _ _ _ _ b off m cap hc h => exact ⟨b, off, m, cap, rfl, hc, h⟩
theorem Rep.tup_inv {w : World} {G : Gh} {L : Nat → Value} {n : Nat} {cs : List (AV E.S)} {v : Value} (h : Rep E w G L n (.tup cs) v) : ∃ vs : List Value, v = .tuple vs.toArray ∧ cs.length = vs.length ∧ (∀ (i : Nat) (x : AV E.S) (y : Value), cs[i]? = some x → vs[i]? = some y → Rep E w G L n x y) := by
  cases h with
  | tup cs vs hl h => exact ⟨vs, rfl, hl, h⟩
theorem u22 (hE : E.Ok) {w : World} {G : Gh} {L : Nat → Value} {st : St E.S} {ts : Array Value} (h : ue7 E w G L st ts) {x : AV E.S} {v : Value} (hx : Rep E w G L st.n x v) {t : Nat} {y : AV E.S} (hy : ue2 (uL3 E st.b t x) y) : uc5 E w G L st.n y (Instr.loadAt t v) := by
  unfold uL3 at hy
  split at hy
  · rename_i c off
    split at hy
    · rename_i z hz
      subst hy
      obtain ⟨b, rfl, hc, hl⟩ := hx.bp_inv
      have hat : uD6 E w G L st.n b 0 (boxCells (st.b c)) := by
        intro j cc hj
        cases hb : st.b c with
        | none => simp [hb, boxCells] at hj
        | some bx =>
          have := (h.boxes c bx hb).2
          cases this with
          | var t' cs b' hl' hg h' =>
            rw [hl] at hl'
            obtain rfl : b = b' := by simpa using hl'
            rw [hb] at hj
            obtain ⟨_, u, h1, h3, h2⟩ := h' j cc hj
            exact ⟨u, by rw [Nat.zero_add]; exact h1, h3, h2⟩
          | nil e sh o hl' => simp [hb, boxCells] at hj
          | un hl' => simp [hb, boxCells] at hj
          | iter s pos b' hl' hg hh => simp [hb, boxCells] at hj
          | mp k v l h => simp [hb, boxCells] at hj
          | mv k v cs hc h => simp [hb, boxCells] at hj
          | row e l sh b' off cap h' => simp [hb, boxCells] at hj
          | lk => simp [hb, boxCells] at hj
      have := uv5 (base := 0) hat hz
      rwa [Nat.zero_add] at this
    · exact hy.elim
  · rename_i e x0 off
    split at hy
    · rename_i z hz
      subst hy
      obtain ⟨b, o, rfl, _, h2⟩ := hx.el_inv
      exact uv5 (fun j c hj => by
        obtain ⟨u, h3, h4⟩ := h2 j c hj
        exact ⟨u, h3, h4.oneCell h.one (hE.cell e x0 c (List.mem_of_getElem? hj)).1, h4⟩) hz
    · exact hy.elim
  · rename_i c e i off
    split at hy
    · rename_i e' l sh hb
      cases hbe : Nat.beq e e' with
      | false => simp [hbe, ue2] at hy
      | true =>
        simp only [hbe, cond_true, ue2] at hy
        obtain rfl := Nat.eq_of_beq_eq_true hbe
        obtain ⟨z, hz, hy⟩ := hy
        obtain ⟨h0, h1, h2⟩ := uI1 hz
        obtain ⟨b, o, m, cap, rfl, hc, hl⟩ := hx.rp_inv
        have hbx := (h.boxes c _ hb).2
        have hat : uD6 E w G L st.n b (o + i.toNat * E.P.cellsOf e) (E.cells e z) := by
          intro j cc hj
          cases hbx with
          | nil e sh o hl' => simp at h1; omega
          | row e l sh b' off' cap' h' =>
            have hl' := h'.loc
            rw [hl] at hl'
            simp only [Value.slice.injEq, Option.some.injEq, Addr.mk.injEq, and_true] at hl'
            obtain ⟨⟨rfl, rfl⟩, _⟩ := hl'
            obtain ⟨u, h3, h4⟩ := h'.cells _ z j cc h2 hj
            exact ⟨u, h3, h4.oneCell h.one (hE.cell e z cc (List.mem_of_getElem? hj)).1, h4⟩
        exact uv5 hat hy
    · rename_i e' l i' j z0 hb
      cases hbe : Nat.beq e e' with
      | false => simp [hbe, ue2] at hy
      | true =>
        simp only [hbe, cond_true, ue2] at hy
        obtain rfl := Nat.eq_of_beq_eq_true hbe
        obtain ⟨z, hz, hy⟩ := hy
        split at hz
        case isFalse => cases hz
        rename_i hii
        obtain ⟨b, o, m, cap, rfl, hc, hl⟩ := hx.rp_inv
        have hbx := (h.boxes c _ hb).2
        have hat : uD6 E w G L st.n b (o + i.toNat * E.P.cellsOf e) ((E.cells e z).set j z0) := by
          intro o2 cc hj
          cases hbx with
          | lk _ _ _ _ _ b' off' cap' hl' hle hij hg hcs hw =>
            rw [hl] at hl'
            simp only [Value.slice.injEq, Option.some.injEq, Addr.mk.injEq, and_true] at hl'
            obtain ⟨⟨rfl, rfl⟩, _⟩ := hl'
            have hin : i.toNat = i' := by omega
            rw [hin]
            obtain ⟨u, h3, h5, h4⟩ := hcs i' z o2 cc hz (by unfold uj1; rw [Nat.beq_refl]; exact hj)
            exact ⟨u, h3, h5, h4⟩
        exact uv5 hat hy
    · exact hy.elim
  · exact hy.elim
theorem uJ0 {w : World} {G : Gh} {L : Nat → Value} {n s f : Nat} {fs : Array Field} {fd : Field} (hu : E.P.underlying s = some (.struct fs)) (hf : fs[f]? = some fd) (h0 : ¬ E.P.cellsOf fd.type = 0) {b o : Nat} {y : AV E.S} (hy : Rep E w G L n y (.pointer (some ⟨b, o + fd.offset, none⟩))) :
    uc5 E w G L n y (Instr.fieldAt s (.pointer (some ⟨b, o, none⟩)) f) := by
  obtain ⟨i, hi, hs⟩ : ∃ i, E.P.info? fd.type = some i ∧ i.size = E.P.cellsOf fd.type := by
    cases hi : E.P.info? fd.type with
    | none => simp [Program.cellsOf, hi] at h0
    | some i => exact ⟨i, rfl, by simp [Program.cellsOf, hi]⟩
  have h0' : ¬ i.size = 0 := by omega
  refine .here (v := .pointer (some ⟨b, o + fd.offset, none⟩)) ?_ hy
  simp [Instr.fieldAt, run_underlying hu, hf, Instr.sureAddr, fieldPlace, sizeOf, typeInfo, hi, h0', Addr.add_mid]
theorem u77 {w : World} {G : Gh} {L : Nat → Value} {st : St E.S} {a : Act} (h : ue7 E w G L st a.tmps) (parts : Array (Nat × Operand)) :
    (parts.toList.map fun p => (p.1, opv (E := E) st p.2)).length = (parts.map fun (i, x) => (i, a.eval x)).toList.length ∧
    ∀ (i : Nat) (p : Nat × AV E.S) (q : Nat × Value), (parts.toList.map fun p => (p.1, opv (E := E) st p.2))[i]? = some p → (parts.map fun (i, x) => (i, a.eval x)).toList[i]? = some q → p.1 = q.1 ∧ Rep E w G L st.n p.2 q.2 := by
  refine ⟨by simp, fun i p q hp hq => ?_⟩
  rw [List.getElem?_map] at hp
  rw [Array.toList_map, List.getElem?_map] at hq
  cases hx : parts.toList[i]? with
  | none => simp [hx] at hp
  | some x =>
    rw [hx] at hp hq
    obtain rfl := Option.some.inj hp
    obtain rfl := Option.some.inj hq
    exact ⟨rfl, h.opv x.2⟩
theorem uA8 {w : World} {G : Gh} {L : Nat → Value} {st : St E.S} {a : Act} (h : ue7 E w G L st a.tmps) (xs : Array Operand) :
    (xs.toList.map (opv (E := E) st)).length = (xs.map a.eval).toList.length ∧ ∀ (i : Nat) (x : AV E.S) (v : Value), (xs.toList.map (opv (E := E) st))[i]? = some x → (xs.map a.eval).toList[i]? = some v → Rep E w G L st.n x v := by
  refine ⟨by simp, fun i x v hx hv => ?_⟩
  rw [List.getElem?_map] at hx
  rw [Array.toList_map, List.getElem?_map] at hv
  cases ho : xs.toList[i]? with
  | none => simp [ho] at hx
  | some o =>
    rw [ho] at hx hv
    obtain rfl := Option.some.inj hx
    obtain rfl := Option.some.inj hv
    exact h.opv o
theorem uf3 {w : World} {G : Gh} {L : Nat → Value} {st : St E.S} {a : Act} (h : ue7 E w G L st a.tmps) {lo : Option Operand} {d l : Int} {k : IntKind} (hl : (lo.map (opv (E := E) st)).getD (.v (.int .i64 d)) = .v (.int k l)) : (lo.map a.eval = none ∧ l = d) ∨ ∃ k, lo.map a.eval = some (.int k l) := by
  cases lo with
  | none =>
    simp only [Option.map_none, Option.getD_none, AV.v.injEq, Value.int.injEq] at hl
    exact .inl ⟨rfl, hl.2.symm⟩
  | some x =>
    simp only [Option.map_some, Option.getD_some] at hl
    have := h.opv x
    rw [hl] at this
    exact .inr ⟨k, by simp [this.v_inv]⟩
theorem uD7 {w : World} {G : Gh} {L : Nat → Value} {n t len e m : Nat} (hu : E.P.underlying t = some (.array len e)) (hm : m < len) (hi : (E.P.info? e).isSome = true) {k : IntKind} {b o : Nat} {y : AV E.S} (hy : Rep E w G L n y (.pointer (some ⟨b, o + m * E.P.cellsOf e, none⟩))) :
    uc5 E w G L n y (Instr.indexAt t (.pointer (some ⟨b, o, none⟩)) (.int k (.ofNat m))) := by
  have hn' : (Int.ofNat m) < (len : Int) := Int.ofNat_lt.2 hm
  have hn0 : 0 ≤ Int.ofNat m := Int.natCast_nonneg m
  refine .here (v := .pointer (some ⟨b, o + m * E.P.cellsOf e, none⟩)) ?_ hy
  have e1 : (Int.ofNat m).toNat = m := rfl
  simp only [Instr.indexAt, asIntOf, Sem.run_bind, Sem.run_pure, Result.andThen_ok, run_underlying hu, Instr.sureAddr, hn', hn0, and_self, if_true, ud4 hi w, Addr.add_mid, e1]
theorem vA3 {w : World} {G : Gh} {L : Nat → Value} {n : Nat} {xs : List (AV E.S)} {vs : Array Value} (h : xs.length = vs.toList.length ∧ ∀ (i : Nat) (x : AV E.S) (v : Value), xs[i]? = some x → vs.toList[i]? = some v → Rep E w G L n x v) {x : AV E.S} (hx : xs = [x]) : ∃ v, vs = #[v] ∧ Rep E w G L n x v := by
  subst hx
  obtain ⟨h1, h2⟩ := h
  match hv : vs.toList, h1 with
  | [v], _ =>
    refine ⟨v, by apply Array.ext'; simpa using hv, h2 0 x v rfl (by rw [hv]; rfl)⟩
theorem ve1 {w : World} {G : Gh} {L : Nat → Value} {n : Nat} {xs : List (AV E.S)} {vs : Array Value} (h : xs.length = vs.toList.length ∧ ∀ (i : Nat) (x : AV E.S) (v : Value), xs[i]? = some x → vs.toList[i]? = some v → Rep E w G L n x v) {x y : AV E.S} (hx : xs = [x, y]) : ∃ u v, vs = #[u, v] ∧ Rep E w G L n x u ∧ Rep E w G L n y v := by
  subst hx
  obtain ⟨h1, h2⟩ := h
  match hv : vs.toList, h1 with
  | [u, v], _ =>
    refine ⟨u, v, by apply Array.ext'; simpa using hv, h2 0 x u rfl (by rw [hv]; rfl), h2 1 y v rfl (by rw [hv]; rfl)⟩
theorem ud0 {b : Bool} {x : Out E.S} {y : AV E.S} (h : ue2 (bif b then x else .bad) y) : b = true ∧ ue2 x y := by
  cases b with
  | false => exact h.elim
  | true => exact ⟨rfl, h⟩
theorem uh2 {b : Bool} {x : Out E.S} {y : AV E.S} (h : ue2 (bif b then .bad else x) y) : b = false ∧ ue2 x y := by
  cases b with
  | false => exact ⟨rfl, h⟩
  | true => exact h.elim
theorem uP5 (hE : E.Ok) {w : World} {G : Gh} {L : Nat → Value} {st : St E.S} {ts : Array Value} (hst : ue7 E w G L st ts) {t e c : Nat} (hu : E.P.underlying t = some (.slice e)) (hi : (E.P.info? e).isSome = true) {x : AV E.S} {v : Value} (hx : Rep E w G L st.n x v) {xs : List (E.S e)} (ho : vm3 st.b x = some (c, ⟨e, xs⟩)) {low high : Option Value} {l h : Int} {p : Nat × Nat} (hp : span xs.length l h = some p)
    (hl : (low = none ∧ l = 0) ∨ ∃ k, low = some (.int k l)) (hh : (high = none ∧ h = (xs.length : Int)) ∨ ∃ k, high = some (.int k h)) : uc5 E w G L st.n (.ws c e p) (Instr.sliceAt t v low high none) := by
  obtain ⟨h0, h1, h2, rfl⟩ := up1 hp
  have hsz := ud4 hi w
  have hat : ∀ v, (Instr.sliceAt t v low high none).run E.P w = (Instr.slice t v low high none).run E.P w := fun v => by simp [Instr.sliceAt, run_underlying hu]
  unfold vm3 at ho
  split at ho
  · rename_i c'
    split at ho
    · rename_i e' l' hb
      obtain ⟨rfl, ho2⟩ := Prod.mk.inj (Option.some.inj ho)
      obtain ⟨rfl, ho3⟩ := Sl.mk.inj ho2
      obtain rfl := eq_of_heq ho3
      obtain ⟨rfl, hc⟩ := hx.rw_inv
      have hbx := (hst.boxes c' _ hb).2
      have hsl := hbx.isSl
      cases hbx with
      | nil _ _ oa hloc =>
        simp at h2
        have hb := uh7 (E := E) true 0 0 low high l h h0 h1 (by omega) hl (by simpa using hh) w
        have e1 : l.toNat = 0 := by omega
        have e2 : h.toNat = 0 := by omega
        rw [e1, e2] at hb
        rw [e1, e2]
        refine .here (v := .slice oa 0 0) ?_ (.ws0 c' e' 0 0 oa hc hsl)
        rw [hloc, hat]
        simp [run_underlying hu, Instr.slice, hb, hsz]
      | row _ _ _ b off cap hr =>
        have hle := hr.le
        have hb := uh7 (E := E) true l'.length cap low high l h h0 h1 (by omega) hl hh w
        by_cases hcl : cap = l.toNat
        · have e2 : h.toNat = l.toNat := by omega
          rw [e2] at hb ⊢
          refine .here (v := .slice (some ⟨b, off, none⟩) 0 (cap - l.toNat)) ?_ (.ws0 c' e' l.toNat (cap - l.toNat) _ hc hsl)
          rw [hr.loc, hat]
          subst hcl
          simp [run_underlying hu, Instr.slice, hb, hsz]
        · refine .here (v := .slice (some ⟨b, off + l.toNat * E.P.cellsOf e', none⟩) (h.toNat - l.toNat) (cap - l.toNat)) ?_ (.ws c' e' l.toNat h.toNat b off l'.length cap (cap - l.toNat) hc hr.loc)
          rw [hr.loc, hat]
          simp [run_underlying hu, Instr.slice, hb, hsz, hcl, Addr.add_mid]
    · cases ho
  · cases ho
theorem uF5 (hE : E.Ok) {w : World} {src dst e b off cap : Nat} (hs : E.P.underlying src = some (.slice e)) (hd : E.P.underlying dst = some .string) {l : List (E.S e)} {xs : List Int} (hn : E.nums e l = some xs)
    (hc : ∀ i x j c, l[i]? = some x → (E.cells e x)[j]? = some c → ∀ u, c = .v u → w.cell? ⟨b, off + i * E.P.cellsOf e + j, none⟩ = some u) : (convert src dst (.slice (some ⟨b, off, none⟩) l.length cap)).run E.P w = .ok (.string (ug2 xs)) w := by
  obtain ⟨he, hlen, hx⟩ := hE.nums e l xs hn
  refine Eq.trans (run_convert_bytes_arg w src e hs he b off l.length cap xs hlen (fun i hi => ?_) dst hd) rfl
  have h1 := List.getElem?_eq_getElem hi
  have h2 := List.getElem?_eq_getElem (show i < xs.length by omega)
  have h3 := hx i _ _ h1 h2
  have h4 := hE.len e l[i]
  rw [h3] at h4
  have h5 := hc i _ 0 _ h1 (by rw [h3]; rfl) _ rfl
  rw [← h4] at h5
  simp only [List.length_cons, List.length_nil, Nat.zero_add, Nat.mul_one, Nat.add_zero] at h5
  rw [h5, List.getD_eq_getElem?_getD, h2]
  rfl
theorem vd4 (hE : E.Ok) {w : World} {G : Gh} {L : Nat → Value} {st : St E.S} {ts : Array Value} (h : ue7 E w G L st ts) {src dst e : Nat} (hs : E.P.underlying src = some (.slice e)) (hd : E.P.underlying dst = some .string) {x : AV E.S} {v : Value} (hx : Rep E w G L st.n x v) {l : List (E.S e)} (hl : vm2 st.b x = some ⟨e, l⟩) {xs : List Int} (hn : E.nums e l = some xs) :
    (convert src dst v).run E.P w = .ok (.string (ug2 xs)) w := by
  obtain ⟨he, hlen, _⟩ := hE.nums e l xs hn
  have nil : ∀ {a : Option Addr} {cap : Nat}, l = [] → (convert src dst (.slice a 0 cap)).run E.P w = .ok (.string (ug2 xs)) w := by
    intro a cap h0
    subst h0
    obtain rfl : xs = [] := List.length_eq_zero_iff.1 hlen
    cases a with
    | none => exact Eq.trans (run_convert_bytes_nil w src e hs he 0 cap dst hd) rfl
    | some a =>
      have hl : (loadCells a 0).run E.P w = .ok (([] : List Int).map (Value.int .u8)).toArray w := by
        have := run_loadCells_list (P := E.P) w a [] (fun j v hj => by simp at hj)
        simpa using this
      rw [run_convert_bytes_string w src dst e _ 0 cap hs he hd, run_bytesToString w a 0 cap [] hl]
      rfl
  unfold vm2 at hl
  split at hl
  · rename_i e' l' f
    obtain ⟨rfl, hl⟩ := Sl.mk.inj (Option.some.inj hl)
    obtain rfl := eq_of_heq hl
    cases hx with
    | sn => exact nil rfl
    | se _ a _ => exact nil rfl
    | sl _ _ _ b off cap vals hc hf h1 h2 =>
      refine uF5 hE hs hd hn fun i x j c hi hj u hu => ?_
      have h3 := h2 i x j c hi hj
      rw [hu] at h3
      rw [(h1 i x j c hi hj).2, h3.v_inv]
  · rename_i c
    split at hl
    · rename_i e' l' sh hb
      obtain ⟨rfl, hl⟩ := Sl.mk.inj (Option.some.inj hl)
      obtain rfl := eq_of_heq hl
      obtain ⟨rfl, hc⟩ := hx.rw_inv
      obtain ⟨_, hbx⟩ := h.boxes c _ hb
      cases hbx with
      | nil _ _ oa hl' => rw [hl']; exact nil rfl
      | row _ _ _ b off cap hr =>
        rw [hr.loc]
        refine uF5 hE hs hd hn fun i x j c hi hj u hu => ?_
        obtain ⟨v, h1, h2⟩ := hr.cells i x j c hi hj
        rw [hu] at h2
        rw [h1, h2.v_inv]
    · cases hl
  · cases hl
theorem u52 (hE : E.Ok) {w : World} {G : Gh} {L : Nat → Value} {st : St E.S} {ts : Array Value} (h : ue7 E w G L st ts) {src dst e c : Nat} (hs : E.P.underlying src = some (.slice e)) (hd : E.P.underlying dst = some .string) {p : Nat × Nat} {v : Value} (hx : Rep E w G L st.n (.ws c e p) v) {l : List (E.S e)} {sh : Bool} (hb : st.b c = some (.row e l sh)) (hle : p.2 ≤ l.length) {xs : List Int} (hn : E.nums e (cut l p) = some xs) :
    (convert src dst v).run E.P w = .ok (.string (ug2 xs)) w := by
  obtain ⟨he, hlen, _⟩ := hE.nums e _ xs hn
  have nil : ∀ {a : Option Addr} {cap : Nat}, cut l p = [] → (convert src dst (.slice a 0 cap)).run E.P w = .ok (.string (ug2 xs)) w := by
    intro a cap h0
    rw [h0] at hlen
    obtain rfl : xs = [] := List.length_eq_zero_iff.1 hlen
    cases a with
    | none => exact Eq.trans (run_convert_bytes_nil w src e hs he 0 cap dst hd) rfl
    | some a =>
      have hl : (loadCells a 0).run E.P w = .ok (([] : List Int).map (Value.int .u8)).toArray w := by
        have := run_loadCells_list (P := E.P) w a [] (fun j v hj => by simp at hj)
        simpa using this
      rw [run_convert_bytes_string w src dst e _ 0 cap hs he hd, run_bytesToString w a 0 cap [] hl]
      rfl
  cases hx with
  | ws0 _ _ lo k a hc hsl => exact nil (List.eq_nil_of_length_eq_zero (by unfold cut; simp))
  | ws _ _ lo hi b off m cap k hc hloc =>
    obtain ⟨_, hbx⟩ := h.boxes c _ hb
    cases hbx with
    | nil _ _ oa hl' =>
      have h0 : hi = 0 := by simpa using hle
      subst h0
      rw [Nat.zero_sub]
      exact nil (by simp [cut])
    | row _ _ _ b' off' cap' hr =>
      have hl2 := hr.loc
      rw [hloc] at hl2
      simp only [Value.slice.injEq, Option.some.injEq, Addr.mk.injEq, and_true] at hl2
      obtain ⟨⟨rfl, rfl⟩, rfl, rfl⟩ := hl2
      simp only at hle
      have hcl : (cut l (lo, hi)).length = hi - lo := by unfold cut; simp; omega
      have := uF5 (w := w) (cap := k) (b := b) (off := off + lo * E.P.cellsOf e) hE hs hd hn fun i x j c hi' hj u hu => by
        have hlt := (List.getElem?_eq_some_iff.1 hi').1
        rw [hcl] at hlt
        have hi2 : l[lo + i]? = some x := by
          unfold cut at hi'
          rw [List.getElem?_drop, List.getElem?_take] at hi'
          split at hi'
          · exact hi'
          · cases hi'
        obtain ⟨v, h1, h2⟩ := hr.cells (lo + i) x j c hi2 hj
        rw [hu] at h2
        rw [show off + lo * E.P.cellsOf e + i * E.P.cellsOf e + j = off + (lo + i) * E.P.cellsOf e + j by rw [Nat.add_mul]; omega, h1, h2.v_inv]
      rw [hcl] at this
      exact this
theorem uP7 {w : World} {G : Gh} {L : Nat → Value} {n t e len c : Nat} (hu : E.P.underlying t = some (.array len e)) (hi : (E.P.info? e).isSome = true) {v : Value} (hx : Rep E w G L n (.rp c e 0 0) v) {low high : Option Value} {l h : Int} {p : Nat × Nat} (hp : span len l h = some p)
    (hl : (low = none ∧ l = 0) ∨ ∃ k, low = some (.int k l)) (hh : (high = none ∧ h = (len : Int)) ∨ ∃ k, high = some (.int k h)) : uc5 E w G L n (.ws c e p) (Instr.sliceAt t v low high none) := by
  obtain ⟨h0, h1, h2, rfl⟩ := up1 hp
  have hsz := ud4 hi w
  have hb := uh7 (E := E) false len len low high l h h0 h1 (by omega) hl hh w
  cases hx with
  | rp _ _ _ _ b off m cap hc hloc =>
    have ez : off + (0 : Int).toNat * E.P.cellsOf e + 0 = off := by simp
    rw [ez]
    by_cases hcl2 : len = l.toNat
    · have e2 : h.toNat = l.toNat := by omega
      rw [hcl2] at hb
      have hu' := hu
      rw [hcl2] at hu'
      refine .here (v := .slice (some ⟨b, off, none⟩) 0 (len - l.toNat)) ?_ (by rw [e2]; exact .ws0 c e l.toNat _ _ hc (by rw [hloc]; rfl))
      rw [hcl2]
      simp [Instr.sliceAt, run_underlying hu', hb, hsz, Instr.sureAddr, e2]
    · refine .here (v := .slice (some ⟨b, off + l.toNat * E.P.cellsOf e, none⟩) (h.toNat - l.toNat) (len - l.toNat)) ?_ (.ws c e l.toNat h.toNat b off m cap _ hc hloc)
      simp [Instr.sliceAt, run_underlying hu, hb, hsz, hcl2, Instr.sureAddr, Addr.add_mid]
theorem u58 (hE : E.Ok) {w : World} {G : Gh} {L : Nat → Value} {st : St E.S} {ts : Array Value} (h : ue7 E w G L st ts) {src dst e : Nat} {u : TypeDesc} (hs : E.P.underlying src = some u) (hd : E.P.underlying dst = some (.slice e)) {s : ByteArray} {l : List (E.S e)} (hl : E.byt e s = some l) :
    uc5 E w G L st.n (.sl e l false) (convert src dst (.string s)) := by
  obtain ⟨he, _, hlen, hc⟩ := hE.byt e s l hl
  have hrun := Lib.run_convert_string_bytes w src dst e s hs hd he
  have hb : Below w.heap.size w (Lib.bytesWorld w e s) := ⟨rfl, rfl, rfl, by rw [Lib.bytesWorld_size]; omega, fun b hb => Lib.bytesWorld_at_old w e s b hb⟩
  refine ⟨_, _, hrun, hb, ?_⟩
  have hcap : s.size ≤ grownCap w s.size 0 e := grownCap_ge w s.size 0 e
  have key : ∀ (i : Nat) x (j : Nat) c, l[i]? = some x → (E.cells e x)[j]? = some c → j = 0 ∧ i < s.size ∧ E.P.cellsOf e = 1 ∧ c = .v (.int .u8 ((s.data.toList.getD i 0).toNat : Int)) := by
    intro i x j c hi hj
    have h1 := hc i x hi
    have h2 := hE.len e x
    rw [h1] at hj h2
    have hj0 : j = 0 := by
      have := (List.getElem?_eq_some_iff.1 hj).1
      simp at this; omega
    subst hj0
    exact ⟨rfl, by rw [← hlen]; exact (List.getElem?_eq_some_iff.1 hi).1, h2.symm, by simpa using hj.symm⟩
  rw [← hlen]
  refine .sl e l false w.heap.size 0 _ (fun o => .int .u8 ((s.data.toList.getD o 0).toNat : Int)) (by rw [hlen]; exact hcap) (fun h => by cases h) (fun i x j c hi hj => ?_) (fun i x j c hi hj => ?_)
  · obtain ⟨rfl, h1, h2, _⟩ := key i x j c hi hj
    refine ⟨fun c u hg => absurd (h.own _ c u hg).1 (Nat.lt_irrefl _), ?_⟩
    rw [h2]
    simpa using Lib.bytesWorld_cell w e s i h1
  · obtain ⟨rfl, h1, h2, rfl⟩ := key i x j c hi hj
    rw [h2]
    simp only [Nat.zero_add, Nat.mul_one, Nat.add_zero]
    exact .v _ rfl
theorem vl3 (hE : E.Ok) {spec : Spec E.S} {w : World} {G : Gh} {L : Nat → Value} {st : St E.S} {a : Act} (h : ue7 E w G L st a.tmps) (o : Oper) {y : AV E.S} (hy : ue2 (ue4 E spec st o) y) : OpOk E w G L st.n y (execOp a.eval o) := by
  unfold ue4 at hy
  simp only at hy
  unfold execOp
  simp only
  split at hy
  ·
    rename_i x hx
    subst hy
    rw [hx]
    dsimp only
    exact .here rfl (h.opv x)
  · rename_i x hx
    subst hy
    rw [hx]
    dsimp only
    exact .here rfl (h.opv x)
  ·
    rename_i c x z hx
    rw [hx]
    dsimp only
    have hc := h.opv c
    split at hy
    · rename_i e
      rw [e] at hc
      subst hy
      exact .here (v := a.eval x) (by simp [hc.v_inv, asBool]) (h.opv x)
    · rename_i e
      rw [e] at hc
      subst hy
      exact .here (v := a.eval z) (by simp [hc.v_inv, asBool]) (h.opv z)
    · exact hy.elim
  ·
    rename_i op t x z t' hx
    rw [hx]
    dsimp only
    exact (vj1 hE op t x z _ _ _ _ _ (h.opv x) (h.opv z) (fun c hc => by subst hc; rfl) hy).op
  · rename_i op t x hx
    rw [hx]
    dsimp only
    exact (vG4 op _ _ _ (h.opv x) hy).op
  ·
    rename_i x hx
    rw [hx]
    dsimp only
    have hr := h.opv x
    generalize a.eval x = u at hr ⊢
    split at hy
    · rename_i e
      subst hy
      rw [e] at hr
      obtain ⟨b, off, rfl, h1, _⟩ := hr.el_inv
      exact .here rfl hr
    · rename_i e
      subst hy
      rw [e] at hr
      obtain ⟨b, off, rfl, h1⟩ := hr.ar_inv
      exact .here rfl hr
    · rename_i e
      subst hy
      rw [e] at hr
      obtain ⟨b, rfl, _⟩ := hr.bp_inv
      exact .here rfl hr
    · rename_i e
      subst hy
      rw [e] at hr
      obtain ⟨b, off, m, cap, rfl, _⟩ := hr.rp_inv
      exact .here rfl hr
    · rename_i e
      obtain ⟨z, rfl, hz⟩ := hy
      obtain rfl := Option.some.inj hz
      rw [e] at hr
      have hr := hr.op_inv
      obtain ⟨b, off, rfl, h1, _⟩ := hr.el_inv
      exact .here rfl hr
    · exact hy.elim
  ·
    rename_i t x hx
    rw [hx]
    dsimp only
    exact (u22 hE h (h.opv x) hy).op
  ·
    rename_i t parts hx
    rw [hx]
    dsimp only
    obtain ⟨hl, hp⟩ := u77 h parts
    split at hy
    · rename_i z fs hz hu
      split at hy
      · rename_i places hpl
        split at hy
        · rename_i cs hcs
          subst hy
          refine (uJ6 h.one hz hl hp hcs fun i v va hi hv hf => ?_).op
          unfold Program.built
          rw [hi, hu]
          simp only [hv, hpl]
          exact hf
        · exact hy.elim
      · exact hy.elim
    · rename_i z len e hz hu
      obtain ⟨hie, hy⟩ := uh2 hy
      split at hy
      · rename_i cs hcs
        subst hy
        refine (uJ6 (place := fun i => some (i * E.P.cellsOf e, E.P.cellsOf e)) h.one hz hl hp hcs fun i v va hi hv hf => ?_).op
        unfold Program.built
        rw [hi, hu]
        obtain ⟨ie, hie⟩ := Option.isSome_iff_exists.1 (by simpa using hie : (E.P.info? e).isSome = true)
        have hsz : ie.size = E.P.cellsOf e := by simp [Program.cellsOf, hie]
        simp only [hv, hie, hsz]
        exact hf
      · exact hy.elim
    · exact hy.elim
  ·
    rename_i t m parts hx
    rw [hx]
    dsimp only
    split at hy
    · rename_i e hu
      obtain ⟨hb, hy⟩ := ud0 hy
      simp only [Bool.and_eq_true] at hb
      obtain ⟨hmz, hb⟩ := hb
      split at hy
      · rename_i l hl
        subst hy
        obtain ⟨z, hz⟩ := Option.isSome_iff_exists.1 hmz
        refine (uH3 hE h.one (fun b c u hg => (h.own b c u hg).1) hu hz hl (by simp) (by simpa using Nat.eq_of_beq_eq_true hb.1.2) (Nat.le_of_ble_eq_true hb.2) fun i x q hx hq => ?_).op
        obtain ⟨_, hp⟩ := u77 h parts
        rw [List.getElem?_map] at hx
        cases ho : parts.toList[i]? with
        | none => simp [ho] at hx
        | some p =>
          rw [ho] at hx
          obtain rfl := Option.some.inj hx
          obtain ⟨h1, h2⟩ := hp i (p.1, opv st p.2) q (by rw [List.getElem?_map, ho]; rfl) hq
          have h3 := uu0 _ 0 hb.1.1 i p ho
          exact ⟨by simp at h1; omega, um7 hE h h2⟩
      · exact hy.elim
    · exact hy.elim
  ·
    rename_i s x f hx
    rw [hx]
    dsimp only
    have hr := h.opv x
    generalize a.eval x = u at hr ⊢
    split at hy
    · rename_i fs hu
      split at hy
      · rename_i fd hf
        obtain ⟨hb, hy⟩ := uh2 hy
        · have h0 : ¬ E.P.cellsOf fd.type = 0 := by
            intro h0; rw [h0] at hb; cases hb
          split at hy
          · rename_i c off e
            subst hy
            rw [e] at hr
            obtain ⟨b, rfl, h1, h2⟩ := hr.bp_inv
            exact (uJ0 hu hf h0 (.bp c (off + fd.offset) b h1 h2)).op
          · rename_i e1 y1 off e
            subst hy
            rw [e] at hr
            obtain ⟨b, o, rfl, h1, _⟩ := hr.el_inv
            refine (uJ0 hu hf h0 ?_).op
            have := h1 (off + fd.offset)
            rwa [← Nat.add_assoc] at this
          · rename_i c e1 i off e
            subst hy
            rw [e] at hr
            obtain ⟨b, o, m, cap, rfl, h1, h2⟩ := hr.rp_inv
            refine (uJ0 hu hf h0 ?_).op
            have := Rep.rp (E := E) (w := w) (G := G) c e1 i (off + fd.offset) b o m cap h1 h2
            rwa [← Nat.add_assoc] at this
          · exact hy.elim
      · exact hy.elim
    · exact hy.elim
  ·
    rename_i t x f hx
    rw [hx]
    dsimp only
    have hr := h.opv x
    split at hy
    · rename_i fs cs hu e
      rw [e] at hr
      split at hy
      · rename_i fd hf
        split at hy
        · rename_i z hz
          subst hy
          obtain ⟨vs, hv, _⟩ := hr.agg_inv
          rw [hv] at hr
          obtain ⟨v, h1, h2⟩ := ul8 hr hz w
          refine (uc5.here (v := v) ?_ h2).op
          simp [Instr.field, run_underlying hu, hf, hv, asAgg, h1]
        · exact hy.elim
      · exact hy.elim
    · exact hy.elim
  ·
    rename_i t x i hx
    rw [hx]
    dsimp only
    have hr := h.opv x
    have hi := h.opv i
    split at hy
    · rename_i e' e l f k n hu e1 e2
      obtain ⟨hb, hy⟩ := ud0 hy
      · simp only [Bool.and_eq_true] at hb
        obtain rfl := Nat.eq_of_beq_eq_true hb.1
        obtain ⟨z, hz, hy⟩ := hy
        obtain rfl := Option.some.inj hy
        rw [e1] at hr
        rw [e2] at hi
        rw [hi.v_inv]
        exact (uu1 hE hu hb.2 hr hz).op
    · rename_i e' e ol k n hu e1 e2
      obtain ⟨hb, hy⟩ := ud0 hy
      · simp only [Bool.and_eq_true] at hb
        obtain rfl := Nat.eq_of_beq_eq_true hb.1
        obtain ⟨z, hz, hy⟩ := hy
        obtain rfl := Option.some.inj hy
        rw [e1] at hr
        rw [e2] at hi
        rw [hi.v_inv]
        exact (uu1 hE hu hb.2 hr.so_inv hz).op
    · rename_i e' c e p k n hu e1 e2
      obtain ⟨hb, hy2⟩ := ud0 hy
      clear hy
      simp only [Bool.and_eq_true] at hb
      obtain rfl := Nat.eq_of_beq_eq_true hb.1
      obtain ⟨hok, rfl⟩ := hy2
      simp only [Bool.and_eq_true, decide_eq_true_eq] at hok
      rw [e1] at hr
      rw [e2] at hi
      rw [hi.v_inv]
      have hsz := ud4 hb.2 w
      generalize a.eval x = v at hr
      cases hr with
      | ws _ _ lo hi' b off m cap kk hc hloc =>
        simp only at hok
        have hn : ((lo : Int) + n).toNat = lo + n.toNat := by omega
        refine (uc5.here (v := .pointer (some ⟨b, off + ((lo : Int) + n).toNat * E.P.cellsOf e' + 0, none⟩)) ?_ (.rp c e' ((lo : Int) + n) 0 b off m cap hc hloc)).op
        rw [hn, Nat.add_mul]
        simp [Instr.indexAt, asIntOf, run_underlying hu, hok.1, hok.2, hsz, Addr.add_mid, Nat.add_assoc]
      | ws0 _ _ lo k a hc hsl => simp at hok; omega
    · rename_i e' c k n hu e1 e2
      split at hy
      · rename_i e l sh hbx
        obtain ⟨hb, hy⟩ := ud0 hy
        · simp only [Bool.and_eq_true] at hb
          obtain rfl := Nat.eq_of_beq_eq_true hb.1
          obtain ⟨hok, rfl⟩ := hy
          simp only [Bool.and_eq_true, decide_eq_true_eq] at hok
          rw [e1] at hr
          rw [e2] at hi
          rw [hi.v_inv]
          obtain ⟨hv, hc⟩ := hr.rw_inv
          rw [hv]
          have hbx' := (h.boxes c _ hbx).2
          have hsz := ud4 hb.2 w
          cases hbx' with
          | nil => simp at hok; omega
          | row _ _ _ b off cap h' =>
            refine (uc5.here (v := .pointer (some ⟨b, off + n.toNat * E.P.cellsOf e' + 0, none⟩)) ?_ (.rp c e' n 0 b off l.length cap hc h'.loc)).op
            rw [h'.loc]
            simp [Instr.indexAt, asIntOf, run_underlying hu, hok.1, hok.2, hsz, Addr.add_mid]
      · exact hy.elim
    · rename_i len e' e l k n hu e1 e2
      obtain ⟨hb, hy⟩ := ud0 hy
      simp only [Bool.and_eq_true] at hb
      obtain rfl := Nat.eq_of_beq_eq_true hb.1
      obtain ⟨z, hz, hy⟩ := hy
      obtain rfl := Option.some.inj hy
      rw [e1] at hr
      rw [e2] at hi
      rw [hi.v_inv]
      exact (uP0 hE hu hb.2.2 (Nat.eq_of_beq_eq_true hb.2.1) hr hz).op
    · rename_i len e' c e z off k n hu e1 e2
      obtain ⟨hb, hy2⟩ := ud0 hy
      clear hy
      simp only [Bool.and_eq_true, decide_eq_true_eq] at hb
      obtain ⟨hbe, hinf, hz0, ho0⟩ := hb
      obtain rfl := Nat.eq_of_beq_eq_true hbe
      obtain rfl := Nat.eq_of_beq_eq_true ho0
      subst hz0
      obtain ⟨hok, rfl⟩ := hy2
      simp only [Bool.and_eq_true, decide_eq_true_eq] at hok
      obtain ⟨m, rfl⟩ := Int.eq_ofNat_of_zero_le hok.1
      rw [e1] at hr
      rw [e2] at hi
      rw [hi.v_inv]
      generalize a.eval x = v at hr
      cases hr with
      | rp _ _ _ _ b off mm cap hc hloc =>
        have ez : off + (0 : Int).toNat * E.P.cellsOf e' + 0 = off := by simp
        rw [ez]
        refine (uD7 hu (m := m) (by omega) hinf ?_).op
        have := Rep.rp (E := E) (w := w) (G := G) (n := st.n) c e' (m : Int) 0 b off mm cap hc hloc
        simpa using this
    · rename_i len e c off k n hu e1 e2
      obtain ⟨hb, hy⟩ := ud0 hy
      simp only [Bool.and_eq_true] at hb
      subst hy
      rw [e1] at hr
      rw [e2] at hi
      rw [hi.v_inv]
      obtain ⟨b, hv, h1, h2⟩ := hr.bp_inv
      rw [hv]
      exact (uD7 hu (Nat.le_of_ble_eq_true hb.1) hb.2 (.bp c (off + n * E.P.cellsOf e) b h1 h2)).op
    · rename_i len e e' z off k n hu e1 e2
      obtain ⟨hb, hy⟩ := ud0 hy
      simp only [Bool.and_eq_true] at hb
      subst hy
      rw [e1] at hr
      rw [e2] at hi
      rw [hi.v_inv]
      obtain ⟨b, o, hv, h1, _⟩ := hr.el_inv
      rw [hv]
      refine (uD7 hu (Nat.le_of_ble_eq_true hb.1) hb.2 ?_).op
      have := h1 (off + n * E.P.cellsOf e)
      rwa [← Nat.add_assoc] at this
    · exact hy.elim
  ·
    rename_i t x i hx
    rw [hx]
    dsimp only
    have hr := h.opv x
    have hi := h.opv i
    split at hy
    · rename_i s k n hu e1 e2
      rw [e1] at hr
      rw [e2] at hi
      rw [hi.v_inv, hr.v_inv]
      obtain ⟨c, hc, hy⟩ := hy
      obtain rfl := Option.some.inj hy
      obtain ⟨h0, b, hb, rfl⟩ := vu0 hc
      refine (uc5.here (v := .int .u8 b.toNat) ?_ (.v _ rfl)).op
      simp [Instr.index, asIntOf, run_underlying hu, h0, hb]
    · rename_i len e cs k n hu e1 e2
      obtain ⟨hb, hy⟩ := ud0 hy
      simp only [Bool.and_eq_true] at hb
      rw [e1] at hr
      rw [e2] at hi
      rw [hi.v_inv]
      split at hy
      · rename_i z hz
        subst hy
        obtain ⟨vs, hv, _⟩ := hr.agg_inv
        rw [hv] at hr ⊢
        obtain ⟨v, h1, h2⟩ := ul8 hr hz w
        refine (uc5.here (v := v) ?_ h2).op
        have hn : n < len := Nat.le_of_ble_eq_true hb.1
        have hn' : (Int.ofNat n) < (len : Int) := Int.ofNat_lt.2 hn
        have hn0 : 0 ≤ Int.ofNat n := Int.natCast_nonneg n
        simp only [Instr.index, asIntOf, Sem.run_bind, Sem.run_pure, Result.andThen_ok, run_underlying hu, hn', hn0, and_self, if_true, ud4 hb.2 w]
        exact h1
      · exact hy.elim
    · exact hy.elim
  ·
    rename_i t x lo hi mx hx
    rw [hx]
    dsimp only
    have hr := h.opv x
    split at hy
    · rename_i e' hu
      split at hy
      · rename_i e xs k1 l k2 hh k3 m e1 e2 e3 e4
        obtain ⟨hb, hy⟩ := uh2 hy
        simp only [Bool.not_eq_false', Bool.and_eq_true] at hb
        obtain rfl := Nat.eq_of_beq_eq_true hb.1
        obtain ⟨p, hp, hy⟩ := hy
        obtain rfl := Option.some.inj hy
        by_cases hm : hh = m
        · subst hm
          simp only [decide_true, cond_true] at hp
          have h3 := h.opv hi; rw [e3] at h3
          have h4 := h.opv mx; rw [e4] at h4
          exact (u43 hE hu hb.2 (vd2 hE h hr e1) hp (uf3 h e2) ⟨_, h3.v_inv⟩ ⟨_, h4.v_inv⟩).op
        · simp [hm] at hp
      · exact hy.elim
    · exact hy.elim
  ·
    rename_i t x lo hi hx
    rw [hx]
    dsimp only
    have hr := h.opv x
    split at hy
    · rename_i hu
      split at hy
      · rename_i s k l e1 e2
        rw [e1] at hr
        split at hy
        · rename_i k' hh e3
          obtain ⟨p, hp, hy⟩ := hy
          obtain rfl := Option.some.inj hy
          rw [hr.v_inv]
          exact (uP6 hu hp (uf3 h e2) (uf3 h e3)).op
        · exact hy.elim
      · exact hy.elim
    · rename_i e' hu
      split at hy
      · rename_i e xs k l e1 e2
        obtain ⟨hb, hy⟩ := uh2 hy
        · simp only [Bool.not_eq_false', Bool.and_eq_true] at hb
          obtain rfl := Nat.eq_of_beq_eq_true hb.1
          split at hy
          · rename_i k' hh e3
            obtain ⟨p, hp, hy⟩ := hy
            obtain rfl := Option.some.inj hy
            exact (vd1 hE hu hb.2 (uS6 hE h hr e1) hp (uf3 h e2) (uf3 h e3)).op
          · exact hy.elim
      · rename_i k l e2 hno
        split at hy
        · rename_i c e xs e1
          obtain ⟨hb, hy2⟩ := uh2 hy
          clear hy
          simp only [Bool.not_eq_false', Bool.and_eq_true] at hb
          obtain rfl := Nat.eq_of_beq_eq_true hb.1
          split at hy2
          · rename_i k' hh e3
            obtain ⟨p, hp, hy3⟩ := hy2
            obtain rfl := Option.some.inj hy3
            exact (uP5 hE h hu hb.2 hr e1 hp (uf3 h e2) (uf3 h e3)).op
          · exact hy2.elim
        · exact hy.elim
      · exact hy.elim
    · rename_i len e' hu
      split at hy
      · rename_i e xs k l e1 e2
        obtain ⟨hb, hy⟩ := uh2 hy
        simp only [Bool.not_eq_false', Bool.and_eq_true] at hb
        obtain rfl := Nat.eq_of_beq_eq_true hb.1
        rw [e1] at hr
        split at hy
        · rename_i k' hh e3
          obtain ⟨p, hp, hy⟩ := hy
          obtain rfl := Option.some.inj hy
          exact (uP1 hE hu hb.2.2 (Nat.eq_of_beq_eq_true hb.2.1) hr hp (uf3 h e2) (uf3 h e3)).op
        · exact hy.elim
      · rename_i c e z off k l e1 e2
        obtain ⟨hb, hy2⟩ := uh2 hy
        clear hy
        simp only [Bool.not_eq_false', Bool.and_eq_true, decide_eq_true_eq] at hb
        obtain ⟨hbe, hinf, hz0, ho0⟩ := hb
        obtain rfl := Nat.eq_of_beq_eq_true hbe
        obtain rfl := Nat.eq_of_beq_eq_true ho0
        subst hz0
        rw [e1] at hr
        split at hy2
        · rename_i k' hh e3
          obtain ⟨p, hp, hy3⟩ := hy2
          obtain rfl := Option.some.inj hy3
          exact (uP7 hu hinf hr hp (uf3 h e2) (uf3 h e3)).op
        · exact hy2.elim
      · exact hy.elim
    · exact hy.elim
  ·
    rename_i src dst x hx
    rw [hx]
    dsimp only
    have hr := h.opv x
    split at hy
    · rename_i d k k' n hu hu' e1
      subst hy
      rw [e1] at hr
      rw [hr.v_inv]
      refine (uc5.here (v := .int k (k.wrap n)) ?_ (.v _ rfl)).op
      simp only [convert, Sem.run_bind, run_underlying hu, run_underlying hu', Result.andThen_ok]
      rfl
    · rename_i d k' n hu hu' e1
      subst hy
      rw [e1] at hr
      rw [hr.v_inv]
      refine (uc5.here (v := .string (Utf8.encode n)) ?_ (.v _ rfl)).op
      simp only [convert, Sem.run_bind, run_underlying hu, run_underlying hu', Result.andThen_ok]
      rfl
    · rename_i s hu hu' e1
      subst hy
      rw [e1] at hr
      rw [hr.v_inv]
      refine (uc5.here (v := .string s) ?_ (.v _ rfl)).op
      simp only [convert, Sem.run_bind, run_underlying hu, run_underlying hu', Result.andThen_ok]
      rfl
    · rename_i d e s hno hu hu' e1
      split at hy
      · rename_i l hl
        subst hy
        rw [e1] at hr
        rw [hr.v_inv]
        exact (u58 hE h hu hu' hl).op
      · exact hy.elim
    · rename_i e c e1 p hno1 hu hu' e9
      rw [e9] at hr
      unfold uO8 at hy
      simp only at hy
      split at hy
      · rename_i e2 l sh hbx
        obtain ⟨hbe, hy2⟩ := ud0 hy
        clear hy
        rw [Bool.and_eq_true] at hbe
        obtain rfl := Nat.eq_of_beq_eq_true hbe.1
        obtain rfl := Nat.eq_of_beq_eq_true hbe.2
        split at hy2
        · rename_i xs hn
          obtain ⟨hok, rfl⟩ := hy2
          exact (uc5.here (v := .string (ug2 xs)) (u52 hE h hu hu' hr hbx (Nat.le_of_ble_eq_true hok) hn) (.v _ rfl)).op
        · exact hy2.elim
      · exact hy.elim
    · rename_i e y hno1 hu hu' hno3 hno2
      unfold ve6 at hy
      split at hy
      · rename_i e' l hl
        obtain ⟨hbe, hy2⟩ := ud0 hy
        clear hy
        obtain rfl := Nat.eq_of_beq_eq_true hbe
        split at hy2
        · rename_i xs hn
          have hy3 := hy2
          simp only [ue2] at hy3
          subst hy3
          have hrun := vd4 hE h hu hu' hr hl hn
          exact (uc5.here (v := .string (ug2 xs)) hrun (.v _ rfl)).op
        · exact hy2.elim
      · exact hy.elim
    · exact hy.elim
  ·
    rename_i x i hx
    rw [hx]
    dsimp only
    have hr := h.opv x
    split at hy
    · rename_i vs e
      rw [e] at hr
      split at hy
      · rename_i z hz
        subst hy
        obtain ⟨ws, hv, hl, hw⟩ := hr.tup_inv
        rw [hv]
        have hi : i < ws.length := by rw [← hl]; exact (List.getElem?_eq_some_iff.1 hz).1
        refine (uc5.here (v := ws[i]) ?_ (hw i _ ws[i] hz (List.getElem?_eq_getElem hi))).op
        simp [Instr.extract, hi]
      · exact hy.elim
    · exact hy.elim
  ·
    rename_i f first caps hx
    rw [hx]
    dsimp only
    obtain ⟨hb, hy⟩ := ud0 hy
    · subst hy
      obtain ⟨hl, hp⟩ := uA8 h caps
      have hf : first.map a.eval = #[] := by
        have := Nat.eq_of_beq_eq_true hb
        apply Array.eq_empty_of_size_eq_zero
        simpa using this
      have := Rep.fn (E := E) f _ _ hl hp
      rw [Array.toArray_toList] at this
      refine (uc5.here (v := .func (.func f) #[] (caps.map a.eval)) ?_ this).op
      simp [Instr.makeFunc, hf]
  ·
    rename_i c hx
    rw [hx]
    dsimp only
    have hargs := uA8 h c.args
    split at hy
    · rename_i x t hc hx2 ht
      have hv := vA3 hargs hx2
      obtain ⟨v, hv1, hv2⟩ := hv
      have ht' : c.argTypes = #[t] := by apply Array.ext'; simpa using ht
      have go : ∀ u, (Builtin.len_ c.argTypes o.type (c.args.map a.eval)).run E.P w = .ok u w → (do let d ← resolve a.eval c o.type; invoke d.target d.args : Sem Next).run E.P w = .ok (.value u) w := by
        intro u hu
        simp [resolve, hc, invoke, builtin, hu]
      split at hy
      · rename_i x0 s hu
        subst hy
        refine .here (go _ ?_) (.v _ rfl)
        rw [ht', hv1, hv2.v_inv]
        simp [Builtin.len_, run_underlying hu, goInt]
      · rename_i x0 e0 hu
        subst hy
        refine .here (go _ ?_) (.v _ rfl)
        rw [ht', hv1]
        cases hv2
        simp [Builtin.len_, run_underlying hu, goInt]
      · rename_i x0 e0 c0 e1 p0 hu
        subst hy
        refine .here (go _ ?_) (.v _ rfl)
        rw [ht', hv1]
        cases hv2 <;> simp [Builtin.len_, run_underlying hu, goInt]
      · rename_i x0 e0 e1 l f hu
        subst hy
        refine .here (go _ ?_) (.v _ rfl)
        rw [ht', hv1]
        cases hv2 <;> simp [Builtin.len_, run_underlying hu, goInt]
      · rename_i x0 e0 e1 ol hu
        subst hy
        refine .here (go _ ?_) (.v _ rfl)
        rw [ht', hv1]
        have hv3 := hv2.so_inv
        generalize ol.getD [] = l at hv3
        cases hv3 <;> simp [Builtin.len_, run_underlying hu, goInt]
      · rename_i x0 e0 cc hu
        split at hy
        · rename_i e1 l sh hbx
          subst hy
          refine .here (go _ ?_) (.v _ rfl)
          obtain ⟨rfl, hcn⟩ := hv2.rw_inv
          rw [ht', hv1]
          have hbx' := (h.boxes cc _ hbx).2
          cases hbx' with
          | nil _ _ oa hl => rw [hl]; simp [Builtin.len_, run_underlying hu, goInt]
          | row _ _ _ b off cap h' => rw [h'.loc]; simp [Builtin.len_, run_underlying hu, goInt]
        · exact hy.elim
      · exact hy.elim
    · rename_i x0 k x k' z hc hx2
      subst hy
      obtain ⟨u, v, hv, h1, h2⟩ := ve1 hargs hx2
      refine .here (v := .int k (if z < x then z else x)) ?_ (.v _ rfl)
      simp [resolve, hc, invoke, builtin, hv, h1.v_inv, h2.v_inv, Builtin.min_, Builtin.min2]
    · rename_i x0 k x k' z hc hx2
      subst hy
      obtain ⟨u, v, hv, h1, h2⟩ := ve1 hargs hx2
      refine .here (v := .int k (if z > x then z else x)) ?_ (.v _ rfl)
      simp [resolve, hc, invoke, builtin, hv, h1.v_inv, h2.v_inv, Builtin.max_, Builtin.max2]
    · exact hy.elim
  · exact hy.elim
end Go.Proofs.YtaennkkcnhfglaaGreatDoor.Ev
