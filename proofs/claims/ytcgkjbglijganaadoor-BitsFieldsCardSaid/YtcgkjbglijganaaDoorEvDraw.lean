/- Regions that draw their order: every order comes to the same. -/
import Derived.Test.YtcgkjbglijganaaDoorEvOps
set_option linter.unusedVariables false
set_option linter.unusedSimpArgs false
namespace Go.Proofs.YtcgkjbglijganaaDoor.Ev
open Go.RowKit
variable {E : Env} {R : Type}

inductive Kin : Option (Box E.S) → Option (Box E.S) → Prop
 | refl (b : Option (Box E.S)) : Kin b b
 | var (t : Nat) (cs cs' : List (AV E.S)) (h : cs.length = cs'.length) : Kin (some (.var t cs)) (some (.var t cs'))

structure Agree (st1 st : St E.S) (o : Oper) (fp : Fp) : Prop where
  op : ∀ x ∈ o.op.operands, opv st1 x = opv st x
  n : st1.n = st.n
  z : st1.z = st.z
  box : ∀ c, Kin (st1.b c) (st.b c)
  look : ∀ c i j, fp.look = some (c, i, j) → ∀ k, i ≤ k → k < j → (boxCells (st1.b c))[k]? = (boxCells (st.b c))[k]?

theorem slSnap_local {b b1 : Nat → Option (Box E.S)} (h : ∀ c, Kin (b1 c) (b c)) (x : AV E.S) : slSnap b1 x = slSnap b x := by
  cases x <;> try rfl
  case rw c =>
    simp only [slSnap]
    have := h c
    generalize b1 c = u, b c = v at this
    cases this <;> rfl

theorem argOf_local {b b1 : Nat → Option (Box E.S)} (h : ∀ c, Kin (b1 c) (b c)) (bw : Bool) (x : AV E.S) : argOf' b1 bw x = argOf' b bw x := by
  cases x <;> try rfl
  case rw c =>
    simp only [argOf']
    have := h c
    generalize b1 c = u, b c = v at this
    cases this <;> rfl

theorem get_take_drop {α : Type} {l l' : List α} {o n m : Nat} (hm : n ≤ m) (h : ∀ k, o ≤ k → k < o + m → l[k]? = l'[k]?) : (l.drop o).take n = (l'.drop o).take n := by
  apply List.ext_getElem?
  intro k
  rw [List.getElem?_take, List.getElem?_take]
  split
  · rw [List.getElem?_drop, List.getElem?_drop]; exact h _ (by omega) (by omega)
  · rfl

theorem partAV_local {t o : Nat} {cs cs' : List (AV E.S)} (h : ∀ k, o ≤ k → k < o + wide E t → cs[k]? = cs'[k]?) : partAV E t cs o = partAV E t cs' o := by
  have hww : E.P.cellsOf t ≤ wide E t ∧ 1 ≤ wide E t := by
    unfold wide
    generalize E.P.cellsOf t = n
    cases n <;> simp
  obtain ⟨hw, hw1⟩ := hww
  unfold partAV
  rw [get_take_drop hw h, h o (Nat.le_refl _) (by have := hw1; omega)]

theorem loadOut_local {st1 st : St E.S} {o : Oper} {fp : Fp} (h : Agree st1 st o fp) {t : Nat} {x : AV E.S} (hl : ∀ c off, x = .bp c off → fp.look = some (c, off, off + wide E t)) : loadOut E st1.b t x = loadOut E st.b t x := by
  cases x <;> try rfl
  case bp c off => simp only [loadOut]; rw [partAV_local (h.look c _ _ (hl c off rfl))]
  case rp c e i off =>
    simp only [loadOut]
    have := h.box c
    generalize st1.b c = u, st.b c = v at this
    cases this <;> rfl

theorem Array.map_opv {st1 st : St E.S} {xs : Array Operand} (h : ∀ x ∈ xs, opv st1 x = opv st x) : xs.toList.map (opv (E := E) st1) = xs.toList.map (opv st) := List.map_congr_left fun x hx => h x (by simpa using hx)
theorem map_parts {st1 st : St E.S} {ps : Array (Nat × Operand)} (h : ∀ x ∈ (ps.toList.map (·.2)).toArray, opv st1 x = opv st x) : (ps.toList.map fun p => (p.1, opv (E := E) st1 p.2)) = ps.toList.map fun p => (p.1, opv st p.2) := List.map_congr_left fun p hp => by rw [h p.2 (by simpa using ⟨p.1, by simpa using hp⟩)]
theorem map_parts2 {st1 st : St E.S} {ps : Array (Nat × Operand)} (h : ∀ x ∈ (ps.toList.map (·.2)).toArray, opv st1 x = opv st x) : (ps.toList.map fun p => opv (E := E) st1 p.2) = ps.toList.map fun p => opv st p.2 := List.map_congr_left fun p hp => by rw [h p.2 (by simpa using ⟨p.1, by simpa using hp⟩)]

theorem opOut_local {spec : Spec E.S} {st1 st : St E.S} {o : Oper} {fp : Fp} (hfp : fpOf st o = some fp) (h : Agree st1 st o fp) : opOut E spec st1 o = opOut E spec st o := by
  have hb := h.box
  have hop := h.op
  obtain ⟨dst, op, ty, pos, after, guard⟩ := o
  cases op
  case move x => simp only [opOut]; rw [hop x (by simp [Op.operands])]
  case assign x => simp only [opOut]; rw [hop x (by simp [Op.operands])]
  case pick c a b => simp only [opOut]; rw [hop c (by simp [Op.operands]), hop a (by simp [Op.operands]), hop b (by simp [Op.operands])]
  case binOp p t x y u => simp only [opOut]; rw [hop x (by simp [Op.operands]), hop y (by simp [Op.operands])]
  case unOp p t x => simp only [opOut]; rw [hop x (by simp [Op.operands])]
  case nilCheck x => simp only [opOut]; rw [hop x (by simp [Op.operands])]
  case load t a =>
    have ha := hop a (by simp [Op.operands])
    simp only [opOut]
    rw [ha]
    refine loadOut_local h fun c off hx => ?_
    simp only [fpOf, hx, Option.some.injEq] at hfp
    rw [← hfp]
  case build t ps => simp only [opOut]; rw [map_parts hop]
  case buildSlice t n ps => simp only [opOut]; rw [map_parts2 hop]
  case fieldAddr s x f => simp only [opOut]; rw [hop x (by simp [Op.operands])]
  case field s x f => simp only [opOut]; rw [hop x (by simp [Op.operands])]
  case indexAddr t x i =>
    simp only [opOut]
    rw [hop x (by simp [Op.operands]), hop i (by simp [Op.operands])]
    generalize opv st x = vx
    generalize opv st i = vi
    generalize E.P.underlying t = ut
    cases ut with
    | none => rfl
    | some d =>
      cases d <;> first | rfl | skip
      all_goals
        cases vx <;> first | rfl | skip
        all_goals
          cases vi <;> first | rfl | skip
          all_goals
            rename_i y
            cases y <;> first | rfl | skip
      case array.bp.v.int n => cases n <;> rfl
      case array.el.v.int n => cases n <;> rfl
      rename_i e' c k n
      have := hb c
      simp only
      generalize st1.b c = u, st.b c = v at this
      cases this <;> rfl
  case index t x i => simp only [opOut]; rw [hop x (by simp [Op.operands]), hop i (by simp [Op.operands])]
  case slice t x lo hi mx =>
    have h1 : lo.map (opv (E := E) st1) = lo.map (opv st) := by cases lo with | none => rfl | some y => simp only [Option.map_some]; rw [hop y (by simp [Op.operands])]
    have h2 : hi.map (opv (E := E) st1) = hi.map (opv st) := by cases hi with | none => rfl | some y => simp only [Option.map_some]; rw [hop y (by simp [Op.operands])]
    cases mx with
    | some m => rfl
    | none => simp only [opOut]; rw [hop x (by simp [Op.operands]), h1, h2, slSnap_local hb]
  case convert s d x => simp only [opOut]; rw [hop x (by simp [Op.operands])]
  case extract x i => simp only [opOut]; rw [hop x (by simp [Op.operands])]
  case makeFunc f first caps =>
    cases f <;> simp only [opOut]
    rw [Array.map_opv (xs := caps) fun x hx => hop x (by simp [Op.operands, hx])]
  case call c =>
    simp only [opOut]
    rw [Array.map_opv (xs := c.args) fun x hx => hop x (by simp [Op.operands, Call.operands, hx])]
    split
    · rename_i vx t hc h1 h2
      generalize E.P.underlying t = ut
      cases ut with
      | none => rfl
      | some d =>
        cases d <;> first | rfl | skip
        all_goals cases vx <;> first | rfl | skip
        case string.v y => cases y <;> rfl
        case slice.rw c =>
          have := hb c
          simp only
          generalize st1.b c = u, st.b c = v at this
          cases this <;> rfl
    all_goals rfl
  all_goals rfl

/-- what an operation does: a value, and perhaps some cells of a variable -/
structure Ef (E : Env) where
  x : AV E.S
  w : Option (Nat × Nat × List (AV E.S))

def writeB (b : Nat → Option (Box E.S)) : Option (Nat × Nat × List (AV E.S)) → Nat → Option (Box E.S)
 | none => b
 | some (c, off, new) => upd b c (match b c with | some (.var t cs) => some (.var t (setCells cs off new)) | x => x)

def eff (st : St E.S) (d : Option Nat) (e : Ef E) : St E.S := { s := putO st d e.x, b := writeB st.b e.w, n := st.n, z := st.z }

def Fits (b : Nat → Option (Box E.S)) : Option (Nat × Nat × List (AV E.S)) → Prop
 | none => True
 | some (c, off, new) => ∃ t cs, b c = some (.var t cs) ∧ off + new.length ≤ cs.length

theorem Fits.kin {b b1 : Nat → Option (Box E.S)} {w : Option (Nat × Nat × List (AV E.S))} (h : Fits b w) (hk : ∀ c, Kin (b1 c) (b c)) : Fits b1 w := by
  cases w with
  | none => trivial
  | some w =>
    obtain ⟨c, off, new⟩ := w
    obtain ⟨t, cs, h1, h2⟩ := h
    have := hk c
    rw [h1] at this
    generalize hb : b1 c = u at this
    cases this with
    | refl => exact ⟨t, cs, hb, h2⟩
    | var _ cs' _ hl => exact ⟨t, cs', hb, by omega⟩

theorem put_eff (st : St E.S) (d : Option Nat) (x : AV E.S) : put st d x = eff st d ⟨x, none⟩ := by cases d <;> rfl

theorem evRead_local {st : St E.S} {d : Option Nat} {x : Out E.S} {st' : St E.S} (h : evRead st d x some = some st') : ∃ y, st' = eff st d ⟨y, none⟩ ∧ ∀ st1, evRead st1 d x some = some (eff st1 d ⟨y, none⟩) := by
  cases x with
  | val x => exact ⟨x, by rw [← put_eff]; exact (Option.some.inj h).symm, fun st1 => by rw [← put_eff]; rfl⟩
  | chk ok x =>
    cases ok with
    | false => cases h
    | true => exact ⟨x, by rw [← put_eff]; exact (Option.some.inj h).symm, fun st1 => by rw [← put_eff]; rfl⟩
  | run ρ r f =>
    simp only [evRead, bind] at h
    obtain ⟨z, hz, h⟩ := Option.bind_eq_some_iff.1 h
    split at h
    · rename_i y hy
      refine ⟨y, by rw [← put_eff]; exact (Option.some.inj h).symm, fun st1 => ?_⟩
      simp only [evRead, bind, hz, Option.bind_some, hy, put_eff]
    · cases h
  | bad => cases h

theorem mem_args {c : Call} {x : Operand} (h : x ∈ c.args) : x ∈ c.operands := by simp [Call.operands, h]

/-- An index is the same wherever what it looks at is. -/
theorem evIdx_local {spec : Spec E.S} {st st' : St E.S} {o : Oper} {fp : Fp} (hfp : fpOf st o = some fp) (h : evIdx spec st o some = some st') : ∃ y, st' = eff st o.dst ⟨y, none⟩ ∧ ∀ st1, Agree st1 st o fp → evIdx spec st1 o some = some (eff st1 o.dst ⟨y, none⟩) := by
  have rd : evRead st o.dst (opOut E spec st o) some = some st' → (∀ st1 : St E.S, Agree st1 st o fp → evIdx spec st1 o some = evRead st1 o.dst (opOut E spec st1 o) some) → ∃ y, st' = eff st o.dst ⟨y, none⟩ ∧ ∀ st1, Agree st1 st o fp → evIdx spec st1 o some = some (eff st1 o.dst ⟨y, none⟩) := by
    intro h1 h2
    obtain ⟨y, h3, h4⟩ := evRead_local h1
    exact ⟨y, h3, fun st1 ha => by rw [h2 st1 ha, opOut_local hfp ha]; exact h4 st1⟩
  have hr := evIdx_read h
  unfold evIdx at h
  split at h
  · rename_i t x i ho
    have eqs : ∀ st1 : St E.S, Agree st1 st o fp → opv st1 x = opv st x ∧ opv st1 i = opv st i := fun st1 ha => ⟨ha.op x (by rw [ho]; simp [Op.operands]), ha.op i (by rw [ho]; simp [Op.operands])⟩
    split at h
    · rename_i len e c off k n ha hx hi
      obtain ⟨j, h1, h2, rfl, h4⟩ := pickIx_some h
      refine ⟨_, by rw [← put_eff]; exact (Option.some.inj h4).symm, fun st1 hg => ?_⟩
      obtain ⟨e1, e2⟩ := eqs st1 hg
      unfold evIdx
      rw [ho]
      simp only [ha, e1, e2, hx, hi]
      rw [pickIx_eq h1 h2, put_eff]
    · rename_i len e e' y off k n ha hx hi
      obtain ⟨j, h1, h2, rfl, h4⟩ := pickIx_some h
      refine ⟨_, by rw [← put_eff]; exact (Option.some.inj h4).symm, fun st1 hg => ?_⟩
      obtain ⟨e1, e2⟩ := eqs st1 hg
      unfold evIdx
      rw [ho]
      simp only [ha, e1, e2, hx, hi]
      rw [pickIx_eq h1 h2, put_eff]
    · rename_i h1 h2
      refine rd hr fun st1 hg => ?_
      obtain ⟨e1, e2⟩ := eqs st1 hg
      unfold evIdx
      rw [ho]
      simp only [e1, e2]
  · rename_i t x i ho
    have eqs : ∀ st1 : St E.S, Agree st1 st o fp → opv st1 x = opv st x ∧ opv st1 i = opv st i := fun st1 ha => ⟨ha.op x (by rw [ho]; simp [Op.operands]), ha.op i (by rw [ho]; simp [Op.operands])⟩
    split at h
    · rename_i len e cs k n ha hx hi
      obtain ⟨j, h1, h2, rfl, h4⟩ := pickIx_some h
      split at h4
      · rename_i y hy
        refine ⟨y, by rw [← put_eff]; exact (Option.some.inj h4).symm, fun st1 hg => ?_⟩
        obtain ⟨e1, e2⟩ := eqs st1 hg
        unfold evIdx
        rw [ho]
        simp only [ha, e1, e2, hx, hi]
        rw [pickIx_eq h1 h2]
        simp only [hy, put_eff]
      · cases h4
    · rename_i h1
      refine rd hr fun st1 hg => ?_
      obtain ⟨e1, e2⟩ := eqs st1 hg
      unfold evIdx
      rw [ho]
      simp only [e1, e2]
  · rename_i ho1 ho2
    refine rd hr fun st1 hg => ?_
    unfold evIdx
    split
    · rename_i ho; exact absurd ho (ho1 _ _ _)
    · rename_i ho; exact absurd ho (ho2 _ _ _)
    · rfl

/-- What an operation does, it does wherever what it looks at is the same. -/
theorem evOp_local {spec : Spec E.S} {wr : Nat → Bool} {st st' : St E.S} {o : Oper} {fp : Fp} (hfp : fpOf st o = some fp) (h : evOp spec wr st o some = some st') (hn : st'.n = st.n) :
    ∃ e : Ef E, st' = eff st o.dst e ∧ (e.w = none ∨ ∃ c off new, e.w = some (c, off, new) ∧ fp.wr = some (c, off, off + new.length)) ∧ Fits st.b e.w ∧ ∀ st1, Agree st1 st o fp → evOp spec wr st1 o some = some (eff st1 o.dst e) := by
  have rd : ∀ {d : Option Nat}, d = o.dst → evRead st d (opOut E spec st o) some = some st' → (∀ st1 : St E.S, Agree st1 st o fp → evOp spec wr st1 o some = evRead st1 d (opOut E spec st1 o) some) → ∃ e : Ef E, st' = eff st o.dst e ∧ (e.w = none ∨ ∃ c off new, e.w = some (c, off, new) ∧ fp.wr = some (c, off, off + new.length)) ∧ Fits st.b e.w ∧ ∀ st1, Agree st1 st o fp → evOp spec wr st1 o some = some (eff st1 o.dst e) := by
    intro d hd h1 h2
    obtain ⟨y, h3, h4⟩ := evRead_local h1
    subst hd
    exact ⟨⟨y, none⟩, h3, .inl rfl, trivial, fun st1 ha => by rw [h2 st1 ha, opOut_local hfp ha]; exact h4 st1⟩
  obtain ⟨dst, op, ty, pos, after, guard⟩ := o
  cases op
  case alloc t => simp [fpOf] at hfp
  case box t x => simp [fpOf] at hfp
  case makeSlice t l c => simp [fpOf] at hfp
  case store t a x =>
    cases dst with
    | some d => simp [fpOf] at hfp
    | none =>
      simp only [fpOf] at hfp
      simp only [evOp] at h
      split at hfp
      · rename_i c off ha
        rw [ha] at h
        simp only at h
        split at h
        · rename_i t' cs hb
          rw [Bool.cond_eq_ite] at h
          split at h
          · rename_i hc
            obtain rfl := Option.some.inj h
            obtain rfl := Option.some.inj hfp
            have hc' := hc
            simp only [Bool.and_eq_true] at hc
            have hle := Nat.le_of_ble_eq_true hc.2.2.2
            refine ⟨⟨.dead, some (c, off, cellsOf (opv st x))⟩, ?_, .inr ⟨c, off, _, rfl, rfl⟩, ⟨t', cs, hb, hle⟩, fun st1 ha' => ?_⟩
            · unfold eff writeB putO
              simp only [hb]
            · have e1 := ha'.op a (by simp [Op.operands])
              have e2 := ha'.op x (by simp [Op.operands])
              have hk := ha'.box c
              rw [hb] at hk
              generalize hb1 : st1.b c = u at hk
              have key : ∀ cs1 : List (AV E.S), st1.b c = some (.var t' cs1) → cs1.length = cs.length → evOp spec wr st1 { dst := none, op := .store t a x, type := ty, pos := pos, after := after, guard := guard } some = some (eff st1 none ⟨.dead, some (c, off, cellsOf (opv st x))⟩) := by
                intro cs1 h1 hl
                simp only [evOp]
                rw [e1, ha]
                simp only [h1, e2, hl, hc', cond_true]
                unfold eff writeB putO
                simp only [h1]
              cases hk with
              | refl => exact key cs hb1 rfl
              | var _ cs1 _ hl => exact key cs1 hb1 hl
          · cases h
        · cases h
      · cases hfp
  case call c =>
    simp only [evOp] at h
    split at h
    · rename_i x y t t' hc hxs ht
      simp [fpOf, hc] at hfp
    · rename_i f hc
      split at h
      · rename_i f' caps hf
        rw [Bool.cond_eq_ite] at h
        split at h
        · rename_i hp
          split at h
          · rename_i sp hs
            obtain ⟨ρ, hρ, h⟩ := Option.bind_eq_some_iff.1 h
            rw [Bool.cond_eq_ite] at h
            split at h
            · rename_i hb
              obtain rfl := Option.some.inj h
              have hbx : sp.bx ρ = [] := by
                simp only at hn
                exact List.length_eq_zero_iff.1 (by omega)
              refine ⟨⟨shiftV st.n (sp.av ρ), none⟩, ?_, .inl rfl, trivial, fun st1 ha => ?_⟩
              · unfold eff writeB
                rw [hbx]
                rfl
              · have e1 := Array.map_opv (xs := c.args) fun x hx => ha.op x (mem_args hx)
                have e2 := ha.op f (by simp [Op.operands, Call.operands, hc])
                have e3 : (fun x => argOf' (E := E) st1.b (scalarRes E.P f') x) = argOf' st.b (scalarRes E.P f') := funext fun x => argOf_local ha.box _ x
                simp only [evOp]
                rw [hc, e1]
                simp only [e2, hf]
                have e4 : List.map (argOf' (E := E) st1.b (scalarRes E.P f')) (List.map (opv st) c.args.toList) = List.map (argOf' st.b (scalarRes E.P f')) (List.map (opv st) c.args.toList) := by rw [show argOf' (E := E) st1.b (scalarRes E.P f') = argOf' st.b (scalarRes E.P f') from e3]
                rw [e4, hp, hs]
                simp only [cond_true, bind, hρ, Option.bind_some, hb]
                unfold eff writeB
                rw [hbx, ha.n]
                simp [boxed]
            · cases h
          · cases h
        · rename_i hp
          exfalso
          simp only [fpOf, hc, hf] at hfp
          rw [Bool.cond_eq_ite, if_neg hp] at hfp
          cases hfp
      · cases h
    · rename_i hna hnv
      refine rd rfl h fun st1 ha => ?_
      have e1 := Array.map_opv (xs := c.args) fun x hx => ha.op x (mem_args hx)
      simp only [evOp]
      split
      · rename_i x y t t' hc hxs ht
        simp [fpOf, hc] at hfp
      · rename_i f hc
        exact absurd hc (hna f)
      · rfl
  all_goals
    obtain ⟨y, h1, h2⟩ := evIdx_local (spec := spec) hfp h
    exact ⟨⟨y, none⟩, h1, .inl rfl, trivial, h2⟩

theorem Kin.symm {b b1 : Option (Box E.S)} (h : Kin b1 b) : Kin b b1 := by
  cases h with
  | refl => exact .refl _
  | var t cs cs' h => exact .var t cs' cs h.symm
theorem Kin.trans {b b1 b2 : Option (Box E.S)} (h : Kin b b1) (k : Kin b1 b2) : Kin b b2 := by
  cases h with
  | refl => exact k
  | var t cs cs' h =>
    cases k with
    | refl => exact .var t cs cs' h
    | var _ _ cs2 h2 => exact .var t cs cs2 (h.trans h2)

/-- the same to an operation and its guard -/
structure AgreeG (ops : Array Oper) (st1 st : St E.S) (o : Oper) (fp : Fp) : Prop where
  slots : ∀ d ∈ o.looksAt ops, st1.s d = st.s d
  n : st1.n = st.n
  z : st1.z = st.z
  box : ∀ c, Kin (st1.b c) (st.b c)
  look : ∀ c i j, fp.look = some (c, i, j) → ∀ k, i ≤ k → k < j → (boxCells (st1.b c))[k]? = (boxCells (st.b c))[k]?

theorem AgreeG.symm {ops : Array Oper} {st1 st : St E.S} {o : Oper} {fp : Fp} (h : AgreeG ops st1 st o fp) : AgreeG ops st st1 o fp :=
  ⟨fun d hd => (h.slots d hd).symm, h.n.symm, h.z.symm, fun c => (h.box c).symm, fun c i j hl k h1 h2 => (h.look c i j hl k h1 h2).symm⟩
theorem AgreeG.trans {ops : Array Oper} {st1 st2 st : St E.S} {o : Oper} {fp : Fp} (h : AgreeG ops st2 st1 o fp) (k : AgreeG ops st1 st o fp) : AgreeG ops st2 st o fp :=
  ⟨fun d hd => (h.slots d hd).trans (k.slots d hd), h.n.trans k.n, h.z.trans k.z, fun c => (h.box c).trans (k.box c), fun c i j hl m h1 h2 => (h.look c i j hl m h1 h2).trans (k.look c i j hl m h1 h2)⟩
theorem AgreeG.agree {ops : Array Oper} {st1 st : St E.S} {o : Oper} {fp : Fp} (h : AgreeG ops st1 st o fp) : Agree st1 st o fp := by
  refine ⟨fun x hx => ?_, h.n, h.z, h.box, h.look⟩
  cases x with
  | tmp t => exact h.slots t (List.mem_append_left _ (List.mem_filterMap.2 ⟨.tmp t, by simpa using hx, rfl⟩))
  | _ => rfl

def WrOf (w : Option (Nat × Nat × List (AV E.S))) (fp : Fp) : Prop := w = none ∨ ∃ c off new, w = some (c, off, new) ∧ fp.wr = some (c, off, off + new.length)

structure Does (spec : Spec E.S) (wr : Nat → Bool) (ops : Array Oper) (o : Oper) (fp : Fp) (st : St E.S) (e : Ef E) : Prop where
  fits : Fits st.b e.w
  wrs : WrOf e.w fp
  step : ∀ st1, AgreeG ops st1 st o fp → StepG spec wr ops o st1 (eff st1 o.dst e)

theorem AgreeG.refl (ops : Array Oper) (st : St E.S) (o : Oper) (fp : Fp) : AgreeG ops st st o fp := ⟨fun _ _ => rfl, rfl, rfl, fun _ => .refl _, fun _ _ _ _ _ _ _ => rfl⟩

theorem Does.move {spec : Spec E.S} {wr : Nat → Bool} {ops : Array Oper} {o : Oper} {fp : Fp} {st st1 : St E.S} {e : Ef E} (h : Does spec wr ops o fp st e) (ha : AgreeG ops st1 st o fp) : Does spec wr ops o fp st1 e :=
  ⟨h.fits.kin ha.box, h.wrs, fun st2 h2 => h.step st2 (h2.trans ha)⟩

theorem writeB_kin {b : Nat → Option (Box E.S)} {w : Option (Nat × Nat × List (AV E.S))} (h : Fits b w) (c : Nat) : Kin (writeB b w c) (b c) := by
  cases w with
  | none => exact .refl _
  | some w =>
    obtain ⟨c', off, new⟩ := w
    obtain ⟨t, cs, h1, h2⟩ := h
    unfold writeB
    by_cases e : c = c'
    · subst e
      simp only [h1, upd_same]
      exact .var t _ _ (by unfold setCells; simp; omega)
    · simp only [upd_ne _ _ e]
      exact .refl _

theorem writeB_look {b : Nat → Option (Box E.S)} {w : Option (Nat × Nat × List (AV E.S))} (h : Fits b w) {fp : Fp} (hw : WrOf w fp) {c i j : Nat} (ho : off2 (some (c, i, j)) fp.wr = true) (k : Nat) (h1 : i ≤ k) (h2 : k < j) : (boxCells (writeB b w c))[k]? = (boxCells (b c))[k]? := by
  rcases hw with rfl | ⟨c', off, new, rfl, hf⟩
  · rfl
  · obtain ⟨t, cs, h3, h4⟩ := h
    unfold writeB
    by_cases e : c = c'
    · subst e
      simp only [h3, upd_same, boxCells]
      rw [setCells_get _ _ _ h4]
      rw [hf] at ho
      unfold off2 at ho
      simp only [Nat.beq_refl, cond_true, Bool.or_eq_true] at ho
      have : k < off ∨ off + new.length ≤ k := by
        rcases ho with h | h
        · have := Nat.le_of_ble_eq_true h; omega
        · have := Nat.le_of_ble_eq_true h; omega
      split
      · rfl
      · rw [if_neg (by omega)]
    · simp only [upd_ne _ _ e]

theorem off2_comm (x y : Option (Nat × Nat × Nat)) : off2 x y = off2 y x := by
  cases x with
  | none => cases y <;> rfl
  | some x =>
    cases y with
    | none => rfl
    | some y =>
      obtain ⟨c, i, j⟩ := x
      obtain ⟨c', i', j'⟩ := y
      simp only [off2]
      rw [show Nat.beq c' c = Nat.beq c c' from by rw [Bool.eq_iff_iff, Nat.beq_eq, Nat.beq_eq, eq_comm], Bool.or_comm]

theorem putO_s {st : St E.S} {d : Option Nat} {x : AV E.S} {t : Nat} (h : ∀ k, d = some k → k ≠ t) : putO st d x t = st.s t := by
  cases d with
  | none => rfl
  | some k => exact upd_ne _ _ (fun e => h k rfl e.symm)

theorem agree_eff {spec : Spec E.S} {wr : Nat → Bool} {ops : Array Oper} {oi oj : Oper} {fi fj : Fp} {st : St E.S} {ei : Ef E} (hi : Fits st.b ei.w) (hw : WrOf ei.w fi) (hap : ∀ d, oi.dst = some d → d ∉ oj.looksAt ops) (ho : off2 fj.look fi.wr = true) : AgreeG ops (eff st oi.dst ei) st oj fj := by
  refine ⟨fun d hd => putO_s fun k hk e => hap k hk (e ▸ hd), rfl, rfl, fun c => writeB_kin hi c, fun c i j hl k h1 h2 => ?_⟩
  rw [hl] at ho
  exact writeB_look hi hw ho k h1 h2

theorem upd_comm {α : Type} (f : Nat → α) {i j : Nat} (x y : α) (h : i ≠ j) : upd (upd f i x) j y = upd (upd f j y) i x := by
  funext k
  unfold upd
  cases h1 : Nat.beq k i with
  | false => cases Nat.beq k j <;> rfl
  | true =>
    obtain rfl := Nat.eq_of_beq_eq_true h1
    have : Nat.beq k j = false := by
      cases h2 : Nat.beq k j with
      | false => rfl
      | true => exact absurd (Nat.eq_of_beq_eq_true h2) h
    rw [this]; rfl

theorem setCells_comm {α : Type} {cs : List α} {o1 o2 : Nat} {n1 n2 : List α} (h1 : o1 + n1.length ≤ cs.length) (h2 : o2 + n2.length ≤ cs.length) (h : o1 + n1.length ≤ o2 ∨ o2 + n2.length ≤ o1) :
    setCells (setCells cs o1 n1) o2 n2 = setCells (setCells cs o2 n2) o1 n1 := by
  apply List.ext_getElem?
  intro k
  rw [setCells_get (setCells cs o1 n1) o2 n2 (by rw [setCells_length _ _ _ h1]; exact h2), setCells_get (setCells cs o2 n2) o1 n1 (by rw [setCells_length _ _ _ h2]; exact h1), setCells_get cs o1 n1 h1, setCells_get cs o2 n2 h2]
  repeat' split
  all_goals first | rfl | omega | skip
  
theorem writeB_comm {b : Nat → Option (Box E.S)} {w1 w2 : Option (Nat × Nat × List (AV E.S))} (h1 : Fits b w1) (h2 : Fits b w2) {f1 f2 : Fp} (k1 : WrOf w1 f1) (k2 : WrOf w2 f2) (ho : off2 f1.wr f2.wr = true) : writeB (writeB b w1) w2 = writeB (writeB b w2) w1 := by
  rcases k1 with rfl | ⟨c1, o1, n1, rfl, e1⟩
  · rfl
  rcases k2 with rfl | ⟨c2, o2, n2, rfl, e2⟩
  · rfl
  obtain ⟨t1, cs1, hb1, hl1⟩ := h1
  obtain ⟨t2, cs2, hb2, hl2⟩ := h2
  by_cases e : c1 = c2
  · subst e
    rw [hb1] at hb2
    obtain ⟨rfl, rfl⟩ := Box.var.inj (Option.some.inj hb2)
    unfold writeB
    simp only [hb1, upd_same]
    rw [e1, e2] at ho
    unfold off2 at ho
    simp only [Nat.beq_refl, cond_true, Bool.or_eq_true] at ho
    have : o1 + n1.length ≤ o2 ∨ o2 + n2.length ≤ o1 := by
      rcases ho with h | h
      · exact .inl (Nat.le_of_ble_eq_true h)
      · exact .inr (Nat.le_of_ble_eq_true h)
    rw [setCells_comm hl1 hl2 this]
    funext k
    unfold upd
    cases Nat.beq k c1 <;> rfl
  · unfold writeB
    simp only [upd_ne _ _ e, upd_ne _ _ (Ne.symm e)]
    exact upd_comm _ _ _ e

theorem eff_comm {st : St E.S} {d1 d2 : Option Nat} {e1 e2 : Ef E} (h1 : Fits st.b e1.w) (h2 : Fits st.b e2.w) {f1 f2 : Fp} (k1 : WrOf e1.w f1) (k2 : WrOf e2.w f2) (ho : off2 f1.wr f2.wr = true) (hd : ∀ d, d1 = some d → d2 ≠ some d) : eff (eff st d1 e1) d2 e2 = eff (eff st d2 e2) d1 e1 := by
  unfold eff
  simp only [writeB_comm h1 h2 k1 k2 ho]
  congr 1
  cases d1 with
  | none => rfl
  | some i =>
    cases d2 with
    | none => rfl
    | some j =>
      unfold putO putS
      exact upd_comm _ _ _ (fun e => hd i rfl (by rw [e]))

/-- Two operations that are apart may change places. -/
theorem Does.swap {spec : Spec E.S} {wr : Nat → Bool} {ops : Array Oper} {oi oj : Oper} {fi fj : Fp} {st : St E.S} {ei ej : Ef E} (hap : oi.apart ops oj = true) (ho : fi.off fj = true) (hi : Does spec wr ops oi fi st ei) (hj : Does spec wr ops oj fj (eff st oi.dst ei) ej) :
    Does spec wr ops oj fj st ej ∧ Does spec wr ops oi fi (eff st oj.dst ej) ei ∧ eff (eff st oj.dst ej) oi.dst ei = eff (eff st oi.dst ei) oj.dst ej := by
  obtain ⟨h1, h2, h3⟩ := Oper.apart_spec hap
  unfold Fp.off at ho
  simp only [Bool.and_eq_true] at ho
  obtain ⟨ho1, ho2, ho3⟩ := ho
  have a1 : AgreeG ops (eff st oi.dst ei) st oj fj := agree_eff (spec := spec) (wr := wr) hi.fits hi.wrs h1 (by rw [off2_comm]; exact ho3)
  have j1 := hj.move a1.symm
  have a2 : AgreeG ops (eff st oj.dst ej) st oi fi := agree_eff (spec := spec) (wr := wr) j1.fits j1.wrs h3 ho2
  exact ⟨j1, hi.move a2, (eff_comm hi.fits j1.fits hi.wrs j1.wrs ho1 h2).symm⟩

/-- Whatever order is picked from here on. -/
def AnyA (spec : Spec E.S) (wr : Nat → Bool) (ops : Array Oper) (fps : List Fp) (Q : St E.S → Prop) : Nat → Array Bool → St E.S → Prop
  | 0, listed, st => Region.ready .any ops listed = [] ∧ Q st
  | fuel + 1, listed, st => (Region.ready .any ops listed = [] → Q st) ∧
    ∀ i ∈ Region.ready .any ops listed, ∃ o fp e, ops[i]? = some o ∧ fps[i]? = some fp ∧ Does spec wr ops o fp st e ∧ AnyA spec wr ops fps Q fuel (listed.setIfInBounds i true) (eff st o.dst e)

theorem anyA_first {spec : Spec E.S} {wr : Nat → Bool} {ops : Array Oper} {fps : List Fp} {Q : St E.S → Prop} {i : Nat} {oi : Oper} {fi : Fp} (hi : ops[i]? = some oi) (hfi : fps[i]? = some fi) {e : Ef E} :
    ∀ (fuel : Nat) (listed : Array Bool) (st : St E.S),
      (∀ j oj fj, ops[j]? = some oj → fps[j]? = some fj → j ≠ i → listed.getD j true = false → (∀ e ∈ oj.after, Region.binds .any e = true → e.on ≠ i) → oi.apart ops oj = true ∧ fi.off fj = true) →
      i ∈ Region.ready .any ops listed → Does spec wr ops oi fi st e →
      AnyA spec wr ops fps Q fuel (listed.setIfInBounds i true) (eff st oi.dst e) → AnyA spec wr ops fps Q (fuel + 1) listed st := by
  intro fuel
  induction fuel with
  | zero =>
    intro listed st _ hr hy H
    refine ⟨fun h => (by rw [h] at hr; cases hr), fun j hj => ?_⟩
    by_cases hji : j = i
    · subst hji; exact ⟨oi, fi, e, hi, hfi, hy, H⟩
    · have := ready_mono hj hji
      rw [H.1] at this
      cases this
  | succ fuel ih =>
    intro listed st hfree hr hy H
    refine ⟨fun h => (by rw [h] at hr; cases hr), fun j hj => ?_⟩
    by_cases hji : j = i
    · subst hji; exact ⟨oi, fi, e, hi, hfi, hy, H⟩
    · obtain ⟨oj, fj, ej, hoj, hfj, hdj, hK⟩ := H.2 j (ready_mono hj hji)
      obtain ⟨hjun, oj', hoj', hall⟩ := mem_ready.1 hj
      rw [hoj] at hoj'
      obtain rfl := Option.some.inj hoj'
      have hnot : ∀ e ∈ oj.after, Region.binds .any e = true → e.on ≠ i := fun e he hb heq => by
        have h1 := hall e he hb
        have h0 := (mem_ready.1 hr).1
        rw [heq] at h1
        rcases Nat.lt_or_ge i listed.size with h' | h'
        · simp [h'] at h0 h1; rw [h0] at h1; cases h1
        · simp [Array.getElem?_eq_none h'] at h1
      obtain ⟨hap, hof⟩ := hfree j oj fj hoj hfj hji hjun hnot
      obtain ⟨k1, k2, k3⟩ := Does.swap hap hof hy hdj
      have hfree' : ∀ k ok fk, ops[k]? = some ok → fps[k]? = some fk → k ≠ i → (listed.setIfInBounds j true).getD k true = false →
          (∀ e ∈ ok.after, Region.binds .any e = true → e.on ≠ i) → oi.apart ops ok = true ∧ fi.off fk = true := fun k ok fk hk hfk hki hun hno => by
        refine hfree k ok fk hk hfk hki ?_ hno
        by_cases hjk : j = k
        · subst hjk; exact hjun
        · rw [getD_set_ne true hjk] at hun; exact hun
      refine ⟨oj, fj, ej, hoj, hfj, k1, ih (listed.setIfInBounds j true) _ hfree' (ready_mono hr (Ne.symm hji)) k2 ?_⟩
      rw [Array.setIfInBounds_comm _ _ hji, k3]
      exact hK

/-- The walk in the text's order. -/
inductive Walk (spec : Spec E.S) (wr : Nat → Bool) (ops : Array Oper) : List Oper → List Fp → St E.S → St E.S → Prop
 | nil (st : St E.S) : Walk spec wr ops [] [] st st
 | cons (o : Oper) (fp : Fp) (l : List Oper) (fps : List Fp) (st st' : St E.S) (e : Ef E) (h : Does spec wr ops o fp st e) (k : Walk spec wr ops l fps (eff st o.dst e) st') : Walk spec wr ops (o :: l) (fp :: fps) st st'

theorem Walk.len {spec : Spec E.S} {wr : Nat → Bool} {ops : Array Oper} {l : List Oper} {fps : List Fp} {st st' : St E.S} (h : Walk spec wr ops l fps st st') : l.length = fps.length := by
  induction h with
  | nil => rfl
  | cons => simp; assumption

theorem offAll_spec : ∀ {ops : List Oper} {fps : List Fp} {i : Nat} {x : Fp}, offAll ops fps i x = true → ∀ (j : Nat) o fp, ops[j]? = some o → fps[j]? = some fp → waits i o = true ∨ x.off fp = true
 | [], _, _, _, _, j, o, fp, h, _ => by simp at h
 | o :: ops, [], _, _, _, j, o', fp, _, h => by simp at h
 | o :: ops, f :: fps, i, x, h, j, o', fp, h1, h2 => by
   unfold offAll at h
   simp only [Bool.and_eq_true, Bool.or_eq_true] at h
   cases j with
   | zero =>
     simp at h1 h2
     subst h1 h2
     exact h.1
   | succ j => exact offAll_spec h.2 j o' fp (by simpa using h1) (by simpa using h2)

theorem offs_spec : ∀ {ops : List Oper} {fps : List Fp} {k : Nat}, offs k ops fps = true → ∀ (i j : Nat) o fi fj, i < j → ops[j]? = some o → fps[i]? = some fi → fps[j]? = some fj → waits (k + i) o = true ∨ fi.off fj = true
 | [], _, _, _, i, j, o, fi, fj, _, h, _, _ => by simp at h
 | _ :: _, [], _, _, i, j, o, fi, fj, _, _, h, _ => by simp at h
 | o :: ops, f :: fps, k, h, i, j, o', fi, fj, hij, h1, h2, h3 => by
   unfold offs at h
   simp only [Bool.and_eq_true] at h
   obtain ⟨j, rfl⟩ : ∃ j', j = j' + 1 := ⟨j - 1, by omega⟩
   cases i with
   | zero =>
     simp at h1 h2 h3
     subst h2
     exact offAll_spec h.1 j o' fj h1 h3
   | succ i =>
     have := offs_spec h.2 i j o' fi fj (by omega) (by simpa using h1) (by simpa using h2) (by simpa using h3)
     rwa [show k + 1 + i = k + (i + 1) by omega] at this

theorem waits_not {i : Nat} {o : Oper} (h : ∀ e ∈ o.after, Region.binds .any e = true → e.on ≠ i) : waits i o = false := by
  unfold waits
  rw [List.any_eq_false]
  intro e he hb
  simp only [Bool.and_eq_true] at hb
  exact h e (by simpa using he) hb.1 (Nat.eq_of_beq_eq_true hb.2)

theorem anyA_lex {spec : Spec E.S} {wr : Nat → Bool} {ops : Array Oper} {fps : List Fp} {Q : St E.S → Prop} (hof : offs 0 ops.toList fps = true) : ∀ (l : List Oper) (fl : List Fp) (k : Nat) (listed : Array Bool) (st st' : St E.S), (∀ j, l[j]? = ops[k + j]?) → (∀ j, fl[j]? = fps[k + j]?) → (∀ j, j < k → listed.getD j true = true) → listed.size = ops.size →
    Region.lexFrom .any ops l.length k listed = true → Walk spec wr ops l fl st st' → Q st' → AnyA spec wr ops fps Q l.length listed st
 | [], _, k, listed, st, st', _, _, _, _, hB, hw, hQ => by
   cases hw
   exact ⟨by simpa [Region.lexFrom] using hB, hQ⟩
 | o :: l, _, k, listed, st, st', hl, hfl, hls, hsz, hB, hw, hQ => by
   cases hw with
   | cons _ fp _ fl _ _ e hd hk =>
     have h0 : ops[k]? = some o := by simpa using (hl 0).symm
     have h1 : fps[k]? = some fp := by simpa using (hfl 0).symm
     simp only [List.length_cons, Region.lexFrom, Bool.and_eq_true] at hB
     obtain ⟨⟨hr, hf⟩, hB'⟩ := hB
     have hkl : k < listed.size := by rw [hsz]; exact (Array.getElem?_eq_some_iff.1 h0).1
     refine anyA_first h0 h1 l.length listed st (fun j oj fj hj hfj hne hun hno => ⟨Region.free_spec h0 hf j oj hj hne hun hno, ?_⟩) (by simpa using hr) hd ?_
     · have hkj : k < j := by
         rcases Nat.lt_or_ge j k with h' | h'
         · rw [hls j h'] at hun; cases hun
         · omega
       have := offs_spec hof k j oj fp fj hkj (by simpa using hj) h1 hfj
       rw [Nat.zero_add, waits_not hno] at this
       exact this.resolve_left (by simp)
     · refine anyA_lex hof l fl (k + 1) _ _ st' (fun j => ?_) (fun j => ?_) (fun j hj => ?_) (by simpa using hsz) hB' hk hQ
       · have := hl (j + 1); simpa [Nat.add_assoc, Nat.add_comm 1 j] using this
       · have := hfl (j + 1); simpa [Nat.add_assoc, Nat.add_comm 1 j] using this
       · by_cases hjk : k = j
         · subst hjk
           simp [hkl]
         · rw [getD_set_ne true hjk]; exact hls j (by omega)

theorem anyA_wp (hE : E.Ok) {spec : Spec E.S} (hS : SpecOk E spec) {wr : Nat → Bool} {w0 : World} {G0 : Org} {ops : Array Oper} {fps : List Fp} {κ : St E.S → Option R} {r : R} {Q : Exit → Act → World → Prop} (hQ : ∀ a w, Nxt E w0 G0 κ r a w → Q .normal a w) :
    ∀ (fuel : Nat) (listed : Array Bool) (st : St E.S) (a : Act) (w : World), (∃ G L, Inv E w0 G0 st a w G L) → AnyA spec wr ops fps (fun st => κ st = some r) fuel listed st → wpAny E.P .any ops Q fuel listed a w
 | 0, listed, st, a, w, ⟨G, L, hI⟩, h => ⟨h.1, hQ a w ⟨st, G, L, h.2, hI⟩⟩
 | fuel + 1, listed, st, a, w, ⟨G, L, hI⟩, h => ⟨fun h0 => hQ a w ⟨st, G, L, h.1 h0, hI⟩, fun i hi => by
   obtain ⟨o, fp, e, ho, hfp, hd, hk⟩ := h.2 i hi
   exact step_wpOp hE hS hI ho (hd.step st (.refl ..)) fun a' w' hI' => anyA_wp hE hS hQ fuel _ _ a' w' hI' hk⟩

theorem does_of {spec : Spec E.S} {wr : Nat → Bool} {ops : Array Oper} {o : Oper} {fp : Fp} {st st' : St E.S} (hg : o.guard = none ∨ ∃ i b k, o.guard = some (i, b) ∧ guardSlot ops i = some k ∧ st.s k = .v (.bool b)) (hfp : fpOf st o = some fp) (h : evOp spec wr st o some = some st') (hn : st'.n = st.n) : ∃ e : Ef E, st' = eff st o.dst e ∧ Does spec wr ops o fp st e := by
  obtain ⟨e, h1, h2, h3, h4⟩ := evOp_local hfp h hn
  refine ⟨e, h1, h3, h2, fun st1 ha => ?_⟩
  have h5 := h4 st1 ha.agree
  unfold StepG
  rcases hg with hg | ⟨i, b, k, hg, hk, hs⟩
  · rw [hg]; exact h5
  · rw [hg]
    refine ⟨k, hk, .inl ⟨b, ?_, by rw [if_pos rfl]; exact h5⟩⟩
    rw [ha.slots k (List.mem_append_right _ ?_)]
    · exact hs
    · rw [hg]
      unfold guardSlot at hk
      cases ho : ops[i]? with
      | none => rw [ho] at hk; cases hk
      | some o' => rw [ho] at hk; simp only [Option.bind_some, ho]; simp [hk]

theorem does_skip {spec : Spec E.S} {wr : Nat → Bool} {ops : Array Oper} {o : Oper} {st : St E.S} {i k : Nat} {b g : Bool} (hg : o.guard = some (i, b)) (hk : guardSlot ops i = some k) (hs : st.s k = .v (.bool g)) (hne : g ≠ b) : Does spec wr ops o ⟨none, none⟩ st ⟨.tup [], none⟩ := by
  refine ⟨trivial, .inl rfl, fun st1 ha => ?_⟩
  unfold StepG
  rw [hg]
  refine ⟨k, hk, .inl ⟨g, ?_, by rw [if_neg hne]; exact (put_eff _ _ _).symm⟩⟩
  rw [ha.slots k (List.mem_append_right _ ?_)]
  · exact hs
  · rw [hg]
    unfold guardSlot at hk
    cases ho : ops[i]? with
    | none => rw [ho] at hk; cases hk
    | some o' => rw [ho] at hk; simp only [Option.bind_some, ho]; simp [hk]

theorem does_skip2 {spec : Spec E.S} {wr : Nat → Bool} {ops : Array Oper} {o : Oper} {st : St E.S} {i k : Nat} {b : Bool} (hg : o.guard = some (i, b)) (hk : guardSlot ops i = some k) (hs : st.s k = .tup []) : Does spec wr ops o ⟨none, none⟩ st ⟨.tup [], none⟩ := by
  refine ⟨trivial, .inl rfl, fun st1 ha => ?_⟩
  unfold StepG
  rw [hg]
  refine ⟨k, hk, .inr ⟨?_, (put_eff _ _ _).symm⟩⟩
  rw [ha.slots k (List.mem_append_right _ ?_)]
  · exact hs
  · rw [hg]
    unfold guardSlot at hk
    cases ho : ops[i]? with
    | none => rw [ho] at hk; cases hk
    | some o' => rw [ho] at hk; simp only [Option.bind_some, ho]; simp [hk]

theorem evDraw_walk {spec : Spec E.S} {wr : Nat → Bool} {ops : Array Oper} {κ : St E.S → Option R} {r : R} : ∀ (l : List Oper) (acc : List Fp) (st : St E.S), evDraw spec wr ops κ l acc st = some r →
    ∃ fl st', offs 0 ops.toList (acc.reverse ++ fl) = true ∧ Walk spec wr ops l fl st st' ∧ κ st' = some r
 | [], acc, st, h => by
   unfold evDraw at h
   rw [Bool.cond_eq_ite] at h
   split at h
   · rename_i hc; exact ⟨[], st, by simpa using hc, .nil _, h⟩
   · cases h
 | o :: l, acc, st, h => by
   have fin : ∀ {fp : Fp}, fpOf st o = some fp → (o.guard = none ∨ ∃ i b k, o.guard = some (i, b) ∧ guardSlot ops i = some k ∧ st.s k = .v (.bool b)) → evOp spec wr st o (fun st' => bif Nat.beq st'.n st.n then evDraw spec wr ops κ l (fp :: acc) st' else none) = some r →
       ∃ fl st', offs 0 ops.toList (acc.reverse ++ fl) = true ∧ Walk spec wr ops (o :: l) fl st st' ∧ κ st' = some r := by
     intro fp hfp hg hev
     obtain ⟨st1, h1, h2⟩ := evOp_some hev
     rw [Bool.cond_eq_ite] at h2
     split at h2
     · rename_i hn
       obtain ⟨e, rfl, hd⟩ := does_of (ops := ops) hg hfp h1 (Nat.eq_of_beq_eq_true hn)
       obtain ⟨fl, st2, h3, h4, h5⟩ := evDraw_walk l _ _ h2
       exact ⟨fp :: fl, st2, by simpa using h3, .cons _ _ _ _ _ _ _ hd h4, h5⟩
     · cases h2
   have skip : ∀ {i k : Nat} {b g : Bool}, o.guard = some (i, b) → guardSlot ops i = some k → st.s k = .v (.bool g) → g ≠ b → evDraw spec wr ops κ l (⟨none, none⟩ :: acc) (put st o.dst (.tup [])) = some r →
       ∃ fl st', offs 0 ops.toList (acc.reverse ++ fl) = true ∧ Walk spec wr ops (o :: l) fl st st' ∧ κ st' = some r := by
     intro i k b g hg hk hs hne h2
     obtain ⟨fl, st2, h3, h4, h5⟩ := evDraw_walk l _ _ h2
     rw [put_eff] at h4
     exact ⟨⟨none, none⟩ :: fl, st2, by simpa using h3, .cons _ _ _ _ _ _ _ (does_skip hg hk hs hne) h4, h5⟩
   unfold evDraw at h
   split at h
   · rename_i hg
     split at h
     · rename_i fp hfp
       exact fin hfp (.inl hg) h
     · cases h
   · rename_i i b hg
     split at h
     · cases h
     · rename_i k hk
       split at h
       · rename_i g hs
         split at h
         · rename_i hgt
           subst hgt
           rw [st_self st k _ hs] at h
           split at h
           · split at h
             · rename_i fp hfp
               exact fin hfp (.inr ⟨i, true, k, hg, hk, hs⟩) h
             · cases h
           · exact skip hg hk hs (by simp) h
         · rename_i hgt
           obtain rfl : g = false := by simpa using hgt
           rw [st_self st k _ hs] at h
           split at h
           · split at h
             · rename_i fp hfp
               exact fin hfp (.inr ⟨i, false, k, hg, hk, hs⟩) h
             · cases h
           · exact skip hg hk hs (by simp) h
       · rename_i hs
         obtain ⟨fl, st2, h3, h4, h5⟩ := evDraw_walk l _ _ h
         rw [put_eff] at h4
         exact ⟨⟨none, none⟩ :: fl, st2, by simpa using h3, .cons _ _ _ _ _ _ _ (does_skip2 hg hk hs) h4, h5⟩
       · cases h

theorem Inv.drawn {w0 w : World} {G0 : Org} {G : Gh} {L : Nat → Value} {st : St E.S} {a : Act} (h : Inv E w0 G0 st a w G L) : Inv E w0 G0 st a { w with drawn := w.drawn + 1 } G L := by
  have hb : Below w.heap.size w { w with drawn := w.drawn + 1 } := ⟨rfl, rfl, rfl, Nat.le_refl _, fun _ _ => rfl⟩
  exact ⟨h.st.keep hb, h.fr.trans (.below hb), h.df, h.kp⟩

/-- A region, the text's order or any. -/
theorem region_wp (hE : E.Ok) {spec : Spec E.S} (hS : SpecOk E spec) {wr : Nat → Bool} {w0 w : World} {G0 : Org} {G : Gh} {L : Nat → Value} {st : St E.S} {a : Act} (h : Inv E w0 G0 st a w G L) {id : Nat} {ops : Array Oper} {draw : Bool} {κ : St E.S → Option R} {r : R} {Q : Exit → Act → World → Prop} (hQ : ∀ a w, Nxt E w0 G0 κ r a w → Q .normal a w)
    (hr : (bif draw then (bif Region.lexB .any ops then evDraw spec wr ops κ ops.toList [] st else none) else evOps spec wr ops κ ops.toList st) = some r) : (Code.region id ops draw).wp E.P Q a w := by
  cases draw with
  | false =>
    simp only [cond_false] at hr
    have := evOps_wp hE hS hQ ops.toList 0 h (by simp) hr
    refine wp_region ?_
    rwa [Array.length_toList, ← List.range_eq_range'] at this
  | true =>
    simp only [cond_true] at hr
    rw [Bool.cond_eq_ite] at hr
    split at hr
    · rename_i hB
      obtain ⟨fl, st', h1, h2, h3⟩ := evDraw_walk _ _ _ hr
      simp only [Region.lexB, Bool.and_eq_true] at hB
      refine wp_region_any hE.mixed (anyA_wp (wr := wr) hE hS hQ _ _ st _ _ ⟨G, L, h.drawn⟩ (fps := fl) ?_)
      have := anyA_lex (Q := fun st => κ st = some r) (by simpa using h1) ops.toList fl 0 (Array.replicate ops.size false) st st' (by simp) (by simp) (fun j hj => by omega) (by simp) (by simpa using hB.2) h2 h3
      simpa using this
    · cases hr
end Go.Proofs.YtcgkjbglijganaaDoor.Ev
