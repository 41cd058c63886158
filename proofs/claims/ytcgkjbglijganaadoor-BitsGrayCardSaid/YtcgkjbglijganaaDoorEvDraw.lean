/- Regions that draw their order: every order comes to the same. -/
import Derived.Test.YtcgkjbglijganaaDoorEvOps
set_option linter.unusedVariables false
set_option linter.unusedSimpArgs false
namespace Go.Proofs.YtcgkjbglijganaaDoor.Ev
open Go.RowKit
variable {E : Env} {R : Type}

inductive Kin : Option (Box E.S) → Option (Box E.S) → Prop
 | refl (b : Option (Box E.S)) : Kin b b
 | var (t : Nat) (cs cs' : List (AV E.S)) (h : cs.length = cs'.length) : Kin (some (.var t cs)) (some (.var t cs'))

theorem Kin.symm {b b1 : Option (Box E.S)} (h : Kin b1 b) : Kin b b1 := by
  cases h with
  | refl => exact .refl _
  | var t cs cs' h => exact .var t cs' cs h.symm
theorem Kin.trans {b b1 b2 : Option (Box E.S)} (h : Kin b b1) (k : Kin b1 b2) : Kin b b2 := by
  cases h with
  | refl => exact k
  | var t cs cs' h =>
    cases k with
    | refl => exact .var t cs cs' h
    | var _ _ cs2 h2 => exact .var t cs cs2 (h.trans h2)

/-- what is looked at is the same -/
def Look (b1 b : Nat → Option (Box E.S)) : It → Prop
 | .part c i j => Kin (b1 c) (b c) ∧ ∀ k, i ≤ k → k < j → (boxCells (b1 c))[k]? = (boxCells (b c))[k]?
 | .all c => b1 c = b c
 | .ge n => ∀ c, n ≤ c → b1 c = b c

theorem Look.refl (b : Nat → Option (Box E.S)) (it : It) : Look b b it := by
  cases it with
  | part c i j => exact ⟨.refl _, fun _ _ _ => rfl⟩
  | all c => rfl
  | ge n => exact fun _ _ => rfl
theorem Look.symm {b b1 : Nat → Option (Box E.S)} {it : It} (h : Look b1 b it) : Look b b1 it := by
  cases it with
  | part c i j => exact ⟨h.1.symm, fun k h1 h2 => (h.2 k h1 h2).symm⟩
  | all c => exact Eq.symm h
  | ge n => exact fun c hc => (h c hc).symm
theorem Look.trans {b b1 b2 : Nat → Option (Box E.S)} {it : It} (h : Look b2 b1 it) (k : Look b1 b it) : Look b2 b it := by
  cases it with
  | part c i j => exact ⟨h.1.trans k.1, fun m h1 h2 => (h.2 m h1 h2).trans (k.2 m h1 h2)⟩
  | all c => exact Eq.trans h k
  | ge n => exact fun c hc => (h c hc).trans (k c hc)

structure Agree (st1 st : St E.S) (o : Oper) (fp : Fp) : Prop where
  op : ∀ x ∈ o.op.operands, opv st1 x = opv st x
  n : (∃ n, It.ge n ∈ fp.wr) → st1.n = st.n
  z : st1.z = st.z
  look : ∀ it ∈ fp.look, Look st1.b st.b it

theorem slSnap_local {b b1 : Nat → Option (Box E.S)} {x : AV E.S} (h : ∀ it ∈ rowIt x, Look b1 b it) : slSnap b1 x = slSnap b x := by
  cases x <;> try rfl
  case rw c =>
    simp only [slSnap]
    rw [show b1 c = b c from h (.all c) (by simp [rowIt])]

theorem argOf_local {b b1 : Nat → Option (Box E.S)} (bw : Bool) {x : AV E.S} (h : ∀ it ∈ rowIt x, Look b1 b it) : argOf' b1 bw x = argOf' b bw x := by
  cases x <;> try rfl
  case rw c =>
    simp only [argOf']
    rw [show b1 c = b c from h (.all c) (by simp [rowIt])]

theorem rowIts_mem {xs : List (AV E.S)} {x : AV E.S} (hx : x ∈ xs) {it : It} (h : it ∈ rowIt x) : it ∈ rowIts xs := List.mem_flatMap.2 ⟨x, hx, h⟩

theorem args_local {b b1 : Nat → Option (Box E.S)} (bw : Bool) {xs : List (AV E.S)} (h : ∀ it ∈ rowIts xs, Look b1 b it) : xs.map (argOf' b1 bw) = xs.map (argOf' b bw) :=
  List.map_congr_left fun x hx => argOf_local bw fun it hi => h it (rowIts_mem hx hi)

theorem get_take_drop {α : Type} {l l' : List α} {o n m : Nat} (hm : n ≤ m) (h : ∀ k, o ≤ k → k < o + m → l[k]? = l'[k]?) : (l.drop o).take n = (l'.drop o).take n := by
  apply List.ext_getElem?
  intro k
  rw [List.getElem?_take, List.getElem?_take]
  split
  · rw [List.getElem?_drop, List.getElem?_drop]; exact h _ (by omega) (by omega)
  · rfl

theorem partAV_local {t o : Nat} {cs cs' : List (AV E.S)} (h : ∀ k, o ≤ k → k < o + wide E t → cs[k]? = cs'[k]?) : partAV E t cs o = partAV E t cs' o := by
  have hww : E.P.cellsOf t ≤ wide E t ∧ 1 ≤ wide E t := by
    unfold wide
    generalize E.P.cellsOf t = n
    cases n <;> simp
  obtain ⟨hw, hw1⟩ := hww
  unfold partAV
  rw [get_take_drop hw h, h o (Nat.le_refl _) (by have := hw1; omega)]

theorem Array.map_opv {st1 st : St E.S} {xs : Array Operand} (h : ∀ x ∈ xs, opv st1 x = opv st x) : xs.toList.map (opv (E := E) st1) = xs.toList.map (opv st) := List.map_congr_left fun x hx => h x (by simpa using hx)
theorem map_parts {st1 st : St E.S} {ps : Array (Nat × Operand)} (h : ∀ x ∈ (ps.toList.map (·.2)).toArray, opv st1 x = opv st x) : (ps.toList.map fun p => (p.1, opv (E := E) st1 p.2)) = ps.toList.map fun p => (p.1, opv st p.2) := List.map_congr_left fun p hp => by rw [h p.2 (by simpa using ⟨p.1, by simpa using hp⟩)]
theorem map_parts2 {st1 st : St E.S} {ps : Array (Nat × Operand)} (h : ∀ x ∈ (ps.toList.map (·.2)).toArray, opv st1 x = opv st x) : (ps.toList.map fun p => opv (E := E) st1 p.2) = ps.toList.map fun p => opv st p.2 := List.map_congr_left fun p hp => by rw [h p.2 (by simpa using ⟨p.1, by simpa using hp⟩)]

theorem opOut_local {spec : Spec E.S} {st1 st st' : St E.S} {o : Oper} {fp : Fp} (hfp : fpOf st o st' = some fp) (h : Agree st1 st o fp) : opOut E spec st1 o = opOut E spec st o := by
  have hop := h.op
  have hl := h.look
  obtain ⟨dst, op, ty, pos, after, guard⟩ := o
  cases op
  case move x => simp only [opOut]; rw [hop x (by simp [Op.operands])]
  case assign x => simp only [opOut]; rw [hop x (by simp [Op.operands])]
  case pick c a b => simp only [opOut]; rw [hop c (by simp [Op.operands]), hop a (by simp [Op.operands]), hop b (by simp [Op.operands])]
  case binOp p t x y u => simp only [opOut]; rw [hop x (by simp [Op.operands]), hop y (by simp [Op.operands])]
  case unOp p t x => simp only [opOut]; rw [hop x (by simp [Op.operands])]
  case nilCheck x => simp only [opOut]; rw [hop x (by simp [Op.operands])]
  case load t a =>
    have ha := hop a (by simp [Op.operands])
    simp only [opOut]
    rw [ha]
    simp only [fpOf] at hfp
    generalize opv st a = x at hfp
    cases x <;> try rfl
    case bp c off =>
      obtain rfl := Option.some.inj hfp
      have hk := hl _ (List.mem_singleton.2 rfl)
      simp only [loadOut]; rw [partAV_local hk.2]
    case rp c e i off =>
      obtain rfl := Option.some.inj hfp
      have hk : st1.b c = st.b c := hl (.all c) (List.mem_singleton.2 rfl)
      simp only [loadOut]; rw [hk]
  case build t ps => simp only [opOut]; rw [map_parts hop]
  case buildSlice t n ps => simp only [opOut]; rw [map_parts2 hop]
  case fieldAddr s x f => simp only [opOut]; rw [hop x (by simp [Op.operands])]
  case field s x f => simp only [opOut]; rw [hop x (by simp [Op.operands])]
  case indexAddr t x i =>
    simp only [fpOf] at hfp
    obtain rfl := Option.some.inj hfp
    simp only [opOut]
    rw [hop x (by simp [Op.operands]), hop i (by simp [Op.operands])]
    simp only at hl
    generalize opv st x = vx at hl
    generalize opv st i = vi
    generalize E.P.underlying t = ut
    cases ut with
    | none => rfl
    | some d =>
      cases d <;> first | rfl | skip
      all_goals
        cases vx <;> first | rfl | skip
        all_goals
          cases vi <;> first | rfl | skip
          all_goals
            rename_i y
            cases y <;> first | rfl | skip
      case array.bp.v.int n => cases n <;> rfl
      case array.el.v.int n => cases n <;> rfl
      rename_i e' c k n
      simp only
      rw [show st1.b c = st.b c from hl (.all c) (by simp [rowIt])]
  case index t x i => simp only [opOut]; rw [hop x (by simp [Op.operands]), hop i (by simp [Op.operands])]
  case slice t x lo hi mx =>
    have h1 : lo.map (opv (E := E) st1) = lo.map (opv st) := by cases lo with | none => rfl | some y => simp only [Option.map_some]; rw [hop y (by simp [Op.operands])]
    have h2 : hi.map (opv (E := E) st1) = hi.map (opv st) := by cases hi with | none => rfl | some y => simp only [Option.map_some]; rw [hop y (by simp [Op.operands])]
    simp only [fpOf] at hfp
    obtain rfl := Option.some.inj hfp
    cases mx with
    | some m => rfl
    | none => simp only [opOut]; rw [hop x (by simp [Op.operands]), h1, h2, slSnap_local hl]
  case convert s d x => simp only [opOut]; rw [hop x (by simp [Op.operands])]
  case extract x i => simp only [opOut]; rw [hop x (by simp [Op.operands])]
  case makeFunc f first caps =>
    cases f <;> simp only [opOut]
    rw [Array.map_opv (xs := caps) fun x hx => hop x (by simp [Op.operands, hx])]
  case call c =>
    simp only [opOut]
    rw [Array.map_opv (xs := c.args) fun x hx => hop x (by simp [Op.operands, Call.operands, hx])]
    split
    · rename_i vx t hc h1 h2
      have hl' : ∀ it ∈ rowIt vx, Look st1.b st.b it := by
        simp only [fpOf, hc] at hfp
        obtain rfl := Option.some.inj hfp
        intro it hi
        refine hl it ?_
        simp only
        rw [h1]
        exact rowIts_mem (List.mem_singleton.2 rfl) hi
      generalize E.P.underlying t = ut
      cases ut with
      | none => rfl
      | some d =>
        cases d <;> first | rfl | skip
        all_goals cases vx <;> first | rfl | skip
        case string.v y => cases y <;> rfl
        case slice.rw c =>
          simp only
          rw [show st1.b c = st.b c from hl' (.all c) (by simp [rowIt])]
    all_goals rfl
  all_goals rfl

/-- what an operation does: a value, perhaps some cells of a variable, boxes as wholes, and how many are new -/
structure Ef (E : Env) where
  x : AV E.S
  w : Option (Nat × Nat × List (AV E.S))
  p : Nat → Option (Option (Box E.S))
  k : Nat

/-- a value alone -/
def ef (x : AV E.S) : Ef E := ⟨x, none, fun _ => none, 0⟩

def writeC (w : Option (Nat × Nat × List (AV E.S))) (c : Nat) (x : Option (Box E.S)) : Option (Box E.S) :=
  match w with
  | none => x
  | some (c', off, new) => bif Nat.beq c c' then (match x with | some (.var t cs) => some (.var t (setCells cs off new)) | y => y) else x

def effC (e : Ef E) (c : Nat) (x : Option (Box E.S)) : Option (Box E.S) := match e.p c with | some y => y | none => writeC e.w c x

def eff (st : St E.S) (d : Option Nat) (e : Ef E) : St E.S := { s := putO st d e.x, b := fun c => effC e c (st.b c), n := st.n + e.k, z := st.z }

def Fits (b : Nat → Option (Box E.S)) : Option (Nat × Nat × List (AV E.S)) → Prop
 | none => True
 | some (c, off, new) => ∃ t cs, b c = some (.var t cs) ∧ off + new.length ≤ cs.length

structure Covers (fp : Fp) (e : Ef E) : Prop where
  w : ∀ c off new, e.w = some (c, off, new) → It.part c off (off + new.length) ∈ fp.wr ∧ It.part c off (off + new.length) ∈ fp.look
  p : ∀ c y, e.p c = some y → It.all c ∈ fp.wr ∨ ∃ n, It.ge n ∈ fp.wr ∧ n ≤ c
  k : (¬ ∃ n, It.ge n ∈ fp.wr) → e.k = 0

theorem Covers.ef (fp : Fp) (x : AV E.S) : Covers fp (Ev.ef x) := ⟨fun _ _ _ h => (by cases h), fun _ _ h => (by cases h), fun _ => rfl⟩

theorem Fits.look {b b1 : Nat → Option (Box E.S)} {fp : Fp} {e : Ef E} (h : Fits b e.w) (hc : Covers fp e) (hk : ∀ it ∈ fp.look, Look b1 b it) : Fits b1 e.w := by
  cases hw : e.w with
  | none => trivial
  | some w =>
    obtain ⟨c, off, new⟩ := w
    rw [hw] at h
    obtain ⟨t, cs, h1, h2⟩ := h
    have := (hk _ (hc.w c off new hw).2).1
    rw [h1] at this
    generalize hb : b1 c = u at this
    cases this with
    | refl => exact ⟨t, cs, hb, h2⟩
    | var _ cs' _ hl => exact ⟨t, cs', hb, by omega⟩

theorem put_eff (st : St E.S) (d : Option Nat) (x : AV E.S) : put st d x = eff st d (ef x) := by cases d <;> rfl

theorem evRead_local {st : St E.S} {d : Option Nat} {x : Out E.S} {st' : St E.S} (h : evRead st d x some = some st') : ∃ y, st' = eff st d (ef y) ∧ ∀ st1, evRead st1 d x some = some (eff st1 d (ef y)) := by
  cases x with
  | val x => exact ⟨x, by rw [← put_eff]; exact (Option.some.inj h).symm, fun st1 => by rw [← put_eff]; rfl⟩
  | chk ok x =>
    cases ok with
    | false => cases h
    | true => exact ⟨x, by rw [← put_eff]; exact (Option.some.inj h).symm, fun st1 => by rw [← put_eff]; rfl⟩
  | run ρ r f =>
    simp only [evRead, bind] at h
    obtain ⟨z, hz, h⟩ := Option.bind_eq_some_iff.1 h
    split at h
    · rename_i y hy
      refine ⟨y, by rw [← put_eff]; exact (Option.some.inj h).symm, fun st1 => ?_⟩
      simp only [evRead, bind, hz, Option.bind_some, hy, put_eff]
    · cases h
  | bad => cases h

theorem mem_args {c : Call} {x : Operand} (h : x ∈ c.args) : x ∈ c.operands := by simp [Call.operands, h]

/-- An index is the same wherever what it looks at is. -/
theorem evIdx_local {spec : Spec E.S} {st st' st2 : St E.S} {o : Oper} {fp : Fp} (hfp : fpOf st o st2 = some fp) (h : evIdx spec st o some = some st') : ∃ y, st' = eff st o.dst (ef y) ∧ ∀ st1, Agree st1 st o fp → evIdx spec st1 o some = some (eff st1 o.dst (ef y)) := by
  have rd : evRead st o.dst (opOut E spec st o) some = some st' → (∀ st1 : St E.S, Agree st1 st o fp → evIdx spec st1 o some = evRead st1 o.dst (opOut E spec st1 o) some) → ∃ y, st' = eff st o.dst (ef y) ∧ ∀ st1, Agree st1 st o fp → evIdx spec st1 o some = some (eff st1 o.dst (ef y)) := by
    intro h1 h2
    obtain ⟨y, h3, h4⟩ := evRead_local h1
    exact ⟨y, h3, fun st1 ha => by rw [h2 st1 ha, opOut_local hfp ha]; exact h4 st1⟩
  have hr := evIdx_read h
  unfold evIdx at h
  split at h
  · rename_i t x i ho
    have eqs : ∀ st1 : St E.S, Agree st1 st o fp → opv st1 x = opv st x ∧ opv st1 i = opv st i := fun st1 ha => ⟨ha.op x (by rw [ho]; simp [Op.operands]), ha.op i (by rw [ho]; simp [Op.operands])⟩
    split at h
    · rename_i len e c off k n ha hx hi
      obtain ⟨j, h1, h2, rfl, h4⟩ := pickIx_some h
      refine ⟨_, by rw [← put_eff]; exact (Option.some.inj h4).symm, fun st1 hg => ?_⟩
      obtain ⟨e1, e2⟩ := eqs st1 hg
      unfold evIdx
      rw [ho]
      simp only [ha, e1, e2, hx, hi]
      rw [pickIx_eq h1 h2, put_eff]
    · rename_i len e e' y off k n ha hx hi
      obtain ⟨j, h1, h2, rfl, h4⟩ := pickIx_some h
      refine ⟨_, by rw [← put_eff]; exact (Option.some.inj h4).symm, fun st1 hg => ?_⟩
      obtain ⟨e1, e2⟩ := eqs st1 hg
      unfold evIdx
      rw [ho]
      simp only [ha, e1, e2, hx, hi]
      rw [pickIx_eq h1 h2, put_eff]
    · rename_i h1 h2
      refine rd hr fun st1 hg => ?_
      obtain ⟨e1, e2⟩ := eqs st1 hg
      unfold evIdx
      rw [ho]
      simp only [e1, e2]
  · rename_i t x i ho
    have eqs : ∀ st1 : St E.S, Agree st1 st o fp → opv st1 x = opv st x ∧ opv st1 i = opv st i := fun st1 ha => ⟨ha.op x (by rw [ho]; simp [Op.operands]), ha.op i (by rw [ho]; simp [Op.operands])⟩
    split at h
    · rename_i len e cs k n ha hx hi
      obtain ⟨j, h1, h2, rfl, h4⟩ := pickIx_some h
      split at h4
      · rename_i y hy
        refine ⟨y, by rw [← put_eff]; exact (Option.some.inj h4).symm, fun st1 hg => ?_⟩
        obtain ⟨e1, e2⟩ := eqs st1 hg
        unfold evIdx
        rw [ho]
        simp only [ha, e1, e2, hx, hi]
        rw [pickIx_eq h1 h2]
        simp only [hy, put_eff]
      · cases h4
    · rename_i h1
      refine rd hr fun st1 hg => ?_
      obtain ⟨e1, e2⟩ := eqs st1 hg
      unfold evIdx
      rw [ho]
      simp only [e1, e2]
  · rename_i ho1 ho2
    refine rd hr fun st1 hg => ?_
    unfold evIdx
    split
    · rename_i ho; exact absurd ho (ho1 _ _ _)
    · rename_i ho; exact absurd ho (ho2 _ _ _)
    · rfl


/-- one new box -/
def newP (n : Nat) (bx : Box E.S) : Nat → Option (Option (Box E.S)) := fun c => bif Nat.beq c n then some (some bx) else none

theorem effC_new (b : Nat → Option (Box E.S)) (x : AV E.S) (n : Nat) (bx : Box E.S) : (fun c => effC ⟨x, none, newP n bx, 1⟩ c (b c)) = upd b n (some bx) := by
  funext c
  unfold effC newP upd
  simp only
  cases Nat.beq c n <;> rfl

theorem newP_some {n : Nat} {bx : Box E.S} {c : Nat} {y : Option (Box E.S)} (h : newP n bx c = some y) : c = n := by
  unfold newP at h
  cases hb : Nat.beq c n with
  | true => exact Nat.eq_of_beq_eq_true hb
  | false => rw [hb] at h; cases h

theorem map_none {α : Type} (b : α) : (match (none : Option α) with | some y => y | none => b) = b := rfl

mutual
theorem shiftP_V {k k' : Nat} : ∀ (x : AV E.S), pureV (shiftV k x) = true → shiftV k' x = shiftV k x
 | .v x, _ | .nl, _ | .sl e l f, _ | .el e x o, _ | .ar e l, _ | .dead, _ => rfl
 | .bp c off, h => by simp [shiftV, mapV, pureV] at h
 | .rw c, h => by simp [shiftV, mapV, pureV] at h
 | .rp c e i off, h => by simp [shiftV, mapV, pureV] at h
 | .fn f cs, h => by
   have := shiftP_L (k := k) (k' := k') cs (by simpa [shiftV, mapV, pureV] using h)
   simp only [shiftV, mapV, this]
 | .agg cs, h => by
   have := shiftP_L (k := k) (k' := k') cs (by simpa [shiftV, mapV, pureV] using h)
   simp only [shiftV, mapV, this]
 | .tup cs, h => by
   have := shiftP_L (k := k) (k' := k') cs (by simpa [shiftV, mapV, pureV] using h)
   simp only [shiftV, mapV, this]
theorem shiftP_L {k k' : Nat} : ∀ (l : List (AV E.S)), pureL (mapL (fun c => some (k + c)) l) = true → mapL (fun c => some (k' + c)) l = mapL (fun c => some (k + c)) l
 | [], _ => rfl
 | x :: l, h => by
   simp only [mapL, pureL, Bool.and_eq_true] at h
   have h1 := shiftP_V (k := k) (k' := k') x h.1
   have h2 := shiftP_L (k := k) (k' := k') l h.2
   simp only [shiftV] at h1
   simp only [mapL, h1, h2]
end

/-- what can be reached is the same where it is the same -/
theorem reach_sub {b : Nat → Option (Box E.S)} : ∀ (k : Nat) (l acc : List Nat) (c : Nat), c ∈ acc → c ∈ reach b k l acc
 | 0, _, _, _, h => h
 | k + 1, [], _, _, h => h
 | k + 1, d :: l, acc, c, h => by
   unfold reach
   cases mem d acc with
   | true => exact reach_sub k l acc c h
   | false => exact reach_sub k _ _ c (List.mem_append_left _ h)
theorem reach_local {b b1 : Nat → Option (Box E.S)} : ∀ (k : Nat) (l acc : List Nat), (∀ c ∈ reach b k l acc, b1 c = b c) → reach b1 k l acc = reach b k l acc
 | 0, _, _, _ => rfl
 | k + 1, [], _, _ => rfl
 | k + 1, d :: l, acc, h => by
   unfold reach at h ⊢
   cases hm : mem d acc with
   | true => rw [hm] at h; exact reach_local k l acc h
   | false =>
     rw [hm] at h
     simp only [cond_false] at h ⊢
     rw [h d (reach_sub k _ _ d (by simp))]
     exact reach_local k _ _ h

theorem handed_sub {st : St E.S} {xs : List (AV E.S)} {c : Nat} (h : c ∈ handed st xs) : c ∈ reach st.b 100 (idsL xs) [] := by
  unfold handed at h
  simp only [List.mem_append, List.mem_filter] at h
  rcases h with h | h <;> exact h.1.1

theorem handed_local {st st1 : St E.S} {xs : List (AV E.S)} (hn : st1.n = st.n) (h : ∀ c ∈ reach st.b 100 (idsL xs) [], st1.b c = st.b c) : handed st1 xs = handed st xs := by
  have e1 := reach_local (b1 := st1.b) 100 (idsL xs) [] h
  unfold handed
  rw [e1, hn]
  simp only
  have h1 : ∀ c ∈ (reach st.b 100 (idsL xs) []).filter (fun c => Nat.blt c st.n), st1.b c = st.b c := fun c hc => h c (List.mem_filter.1 hc).1
  have e2 : ((reach st.b 100 (idsL xs) []).filter (fun c => Nat.blt c st.n)).filter (fun c => isVar (st1.b c)) = ((reach st.b 100 (idsL xs) []).filter (fun c => Nat.blt c st.n)).filter (fun c => isVar (st.b c)) := List.filter_congr fun c hc => by rw [h1 c hc]
  have e3 : ((reach st.b 100 (idsL xs) []).filter (fun c => Nat.blt c st.n)).filter (fun c => !isVar (st1.b c)) = ((reach st.b 100 (idsL xs) []).filter (fun c => Nat.blt c st.n)).filter (fun c => !isVar (st.b c)) := List.filter_congr fun c hc => by rw [h1 c hc]
  rw [e2, e3]

theorem handedK_local {st st1 : St E.S} {m : List Nat} (h : ∀ c ∈ m, st1.b c = st.b c) : handedK st1 m = handedK st m := by
  unfold handedK
  congr 1
  exact List.filter_congr fun c hc => by rw [h c hc]

theorem mem_true {i : Nat} : ∀ {l : List Nat}, mem i l = true → i ∈ l
 | [], h => by cases h
 | x :: l, h => by
   unfold mem at h
   cases hb : Nat.beq x i with
   | true => rw [Nat.eq_of_beq_eq_true hb]; exact List.mem_cons_self ..
   | false => rw [hb] at h; exact List.mem_cons_of_mem _ (mem_true h)

/-- a new row, perhaps in place of another one -/
def appP (n : Nat) (base : Option Nat) (bx : Box E.S) : Nat → Option (Option (Box E.S)) := fun c => bif Nat.beq c n then some (some bx) else match base with | some d => bif Nat.beq c d then some none else none | none => none

theorem effC_app (b : Nat → Option (Box E.S)) (x : AV E.S) (n : Nat) (base : Option Nat) (bx : Box E.S) : (fun c => effC ⟨x, none, appP n base bx, 1⟩ c (b c)) = upd (drop b base) n (some bx) := by
  funext c
  unfold effC appP upd drop
  simp only
  cases Nat.beq c n with
  | true => rfl
  | false =>
    cases base with
    | none => rfl
    | some d =>
      simp only [cond_false, upd]
      cases Nat.beq c d <;> rfl

theorem appBase_some {st : St E.S} {e : Nat} {w : Bool} {x : AV E.S} {c : Nat} {l : List (E.S e)} {sh : Bool} (h : appBase st e w x = some (some c, l, sh)) : x = .rw c := by
  unfold appBase at h
  split at h
  · simp at h
  · split at h <;> simp at h
  · split at h
    · split at h <;> simp at h
      rw [h.1]
    · cases h
  · cases h

theorem appBase_local {st st1 : St E.S} {e : Nat} {w : Bool} {x : AV E.S} (h : ∀ it ∈ rowIt x, Look st1.b st.b it) : appBase st1 e w x = appBase st e w x := by
  cases x <;> try rfl
  case sl e' l f => cases f <;> rfl
  case rw c =>
    simp only [appBase]
    rw [show st1.b c = st.b c from h (.all c) (by simp [rowIt])]
theorem appMore_local {st st1 : St E.S} {e : Nat} {x : AV E.S} (h : ∀ it ∈ rowIt x, Look st1.b st.b it) : appMore st1 e x = appMore st e x := by
  cases x <;> try rfl
  case rw c =>
    simp only [appMore]
    rw [show st1.b c = st.b c from h (.all c) (by simp [rowIt])]

def boxP (n : Nat) : List (Box E.S) → Nat → Option (Option (Box E.S))
 | [] => fun _ => none
 | x :: l => fun c => bif Nat.blt c n then none else some (((x :: l)[c - n]?).map (mapB fun c => some (n + c)))
theorem effC_boxed (b : Nat → Option (Box E.S)) (x : AV E.S) (n k : Nat) (l : List (Box E.S)) : (fun c => effC ⟨x, none, boxP n l, k⟩ c (b c)) = boxed b n l := by
  cases l with
  | nil => rfl
  | cons y l =>
    funext c
    unfold effC boxP boxed addBoxes
    simp only
    cases Nat.blt c n <;> rfl
theorem not_blt {c n : Nat} (h : Nat.blt c n = false) : n ≤ c := by
  rcases Nat.lt_or_ge c n with h' | h'
  · have : Nat.blt c n = true := Nat.ble_eq_true_of_le h'
    rw [h] at this; cases this
  · exact h'
theorem boxP_some {n : Nat} {l : List (Box E.S)} {c : Nat} {y : Option (Box E.S)} (h : boxP n l c = some y) : n ≤ c := by
  cases l with
  | nil => cases h
  | cons x l =>
    simp only [boxP] at h
    cases hb : Nat.blt c n with
    | true => rw [hb] at h; cases h
    | false => exact not_blt hb

def backP (n : Nat) (m : List Nat) (k : Nat) (bn : Nat → Option Nat) (bx : List (Box E.S)) : Nat → Option (Option (Box E.S)) := fun c =>
  bif Nat.blt c n then (bif mem c m then some (bif Nat.blt (pos c m) k then (bx[pos c m]?).map (mapB bn) else none) else none)
  else some ((bx[k + (c - n)]?).map (mapB bn))
theorem effC_back (st : St E.S) (x : AV E.S) (m : List Nat) (k j : Nat) (bx : List (Box E.S)) : (fun c => effC ⟨x, none, backP st.n m k (backNo st m k) bx, j⟩ c (st.b c)) = backB st m k bx := by
  funext c
  unfold effC backP backB
  simp only
  cases Nat.blt c st.n with
  | false => rfl
  | true =>
    simp only [cond_true]
    cases mem c m <;> rfl
theorem backP_some {n : Nat} {m : List Nat} {k : Nat} {bn : Nat → Option Nat} {bx : List (Box E.S)} {c : Nat} {y : Option (Box E.S)} (h : backP n m k bn bx c = some y) : n ≤ c ∨ c ∈ m := by
  unfold backP at h
  cases hb : Nat.blt c n with
  | false => exact .inl (not_blt hb)
  | true =>
    cases hm : mem c m with
    | true => exact .inr (mem_true hm)
    | false => rw [hb, hm] at h; cases h

/-- What an operation does, it does wherever what it looks at is the same. -/
theorem evOp_local {spec : Spec E.S} {wr : Nat → Bool} {st st' : St E.S} {o : Oper} {fp : Fp} (hfp : fpOf st o st' = some fp) (h : evOp spec wr st o some = some st') :
    ∃ e : Ef E, st' = eff st o.dst e ∧ Covers fp e ∧ Fits st.b e.w ∧ ∀ st1, Agree st1 st o fp → evOp spec wr st1 o some = some (eff st1 o.dst e) := by
  have rd : ∀ {d : Option Nat}, d = o.dst → evRead st d (opOut E spec st o) some = some st' → (∀ st1 : St E.S, Agree st1 st o fp → evOp spec wr st1 o some = evRead st1 d (opOut E spec st1 o) some) → ∃ e : Ef E, st' = eff st o.dst e ∧ Covers fp e ∧ Fits st.b e.w ∧ ∀ st1, Agree st1 st o fp → evOp spec wr st1 o some = some (eff st1 o.dst e) := by
    intro d hd h1 h2
    obtain ⟨y, h3, h4⟩ := evRead_local h1
    subst hd
    exact ⟨ef y, h3, .ef _ _, trivial, fun st1 ha => by rw [h2 st1 ha, opOut_local hfp ha]; exact h4 st1⟩
  -- a new box
  have new : ∀ {d : Nat} {bx : Box E.S}, o.dst = some d → It.ge st.n ∈ fp.wr → st' = { s := putS st d (.bp st.n 0), b := upd st.b st.n (some bx), n := st.n + 1, z := st.z } →
      (∀ st1 : St E.S, Agree st1 st o fp → evOp spec wr st1 o some = some { s := putS st1 d (.bp st1.n 0), b := upd st1.b st1.n (some bx), n := st1.n + 1, z := st1.z }) →
      ∃ e : Ef E, st' = eff st o.dst e ∧ Covers fp e ∧ Fits st.b e.w ∧ ∀ st1, Agree st1 st o fp → evOp spec wr st1 o some = some (eff st1 o.dst e) := by
    intro d bx hd hw h1 h2
    refine ⟨⟨.bp st.n 0, none, newP st.n bx, 1⟩, ?_, ⟨fun _ _ _ h => (by cases h), fun c y hp => .inr ⟨_, hw, Nat.le_of_eq (newP_some hp).symm⟩, fun hk => absurd ⟨_, hw⟩ hk⟩, trivial, fun st1 ha => ?_⟩
    · rw [h1, hd]; unfold eff; simp only [effC_new]; rfl
    · rw [h2 st1 ha, hd, ha.n ⟨_, hw⟩]; unfold eff; simp only [effC_new, ha.n ⟨_, hw⟩]; rfl
  obtain ⟨dst, op, ty, pos, after, guard⟩ := o
  cases op
  case alloc t =>
    simp only [fpOf] at hfp
    obtain rfl := Option.some.inj hfp
    cases dst with
    | none => simp only [evOp] at h; exact rd rfl (evIdx_read h) (fun st1 ha => rfl)
    | some d =>
      simp only [evOp] at h
      split at h
      · rename_i cs hz
        refine new rfl (List.mem_singleton.2 rfl) (Option.some.inj h).symm fun st1 ha => ?_
        simp only [evOp, hz]
      · cases h
  case box t x =>
    simp only [fpOf] at hfp
    obtain rfl := Option.some.inj hfp
    cases dst with
    | none => simp only [evOp] at h; exact rd rfl (evIdx_read h) (fun st1 ha => rfl)
    | some d =>
      simp only [evOp] at h
      rw [Bool.cond_eq_ite] at h
      split at h
      · cases h
      · rename_i hc
        refine new rfl (List.mem_singleton.2 rfl) (Option.some.inj h).symm fun st1 ha => ?_
        simp only [evOp]
        rw [ha.op x (by simp [Op.operands]), Bool.cond_eq_ite, if_neg hc]
  case makeSlice t l c =>
    simp only [fpOf] at hfp
    obtain rfl := Option.some.inj hfp
    cases dst with
    | none => simp only [evOp] at h; exact rd rfl (evIdx_read h) (fun st1 ha => rfl)
    | some d =>
      simp only [evOp] at h
      split at h
      · rename_i e k n k' m he hl hc
        split at h
        · rename_i zc hz
          split at h
          · rename_i z hpk
            rw [Bool.cond_eq_ite] at h
            split at h
            · cases h
            · rename_i hb
              split at h
              · rename_i hf
                refine ⟨⟨.rw st.n, none, newP st.n (.row e (List.replicate n.toNat z) (!wr d)), 1⟩, ?_, ⟨fun _ _ _ h => (by cases h), fun c y hp => .inr ⟨_, List.mem_singleton.2 rfl, Nat.le_of_eq (newP_some hp).symm⟩, fun hk => absurd ⟨_, List.mem_singleton.2 rfl⟩ hk⟩, trivial, fun st1 ha => ?_⟩
                · rw [← Option.some.inj h]; unfold eff; simp only [effC_new]; rfl
                · have hn := ha.n ⟨_, List.mem_singleton.2 rfl⟩
                  simp only [evOp]
                  rw [he, ha.op l (by simp [Op.operands]), ha.op c (by simp [Op.operands]), hl, hc]
                  simp only [hz, hpk, Bool.cond_eq_ite]
                  rw [if_neg hb, if_pos hf]
                  unfold eff
                  simp only [effC_new, hn]
                  rfl
              · cases h
          · cases h
        · cases h
      · cases h
  case store t a x =>
    cases dst with
    | some d => simp [fpOf] at hfp
    | none =>
      simp only [fpOf] at hfp
      simp only [evOp] at h
      split at hfp
      · rename_i c off ha
        rw [ha] at h
        simp only at h
        split at h
        · rename_i t' cs hb
          rw [Bool.cond_eq_ite] at h
          split at h
          · rename_i hc
            obtain rfl := Option.some.inj h
            obtain rfl := Option.some.inj hfp
            have hc' := hc
            simp only [Bool.and_eq_true] at hc
            have hle := Nat.le_of_ble_eq_true hc.2.2.2
            have eqb : ∀ (b : Nat → Option (Box E.S)) (t1 : Nat) (cs1 : List (AV E.S)) (new : List (AV E.S)), b c = some (.var t1 cs1) → (fun c' => effC ⟨.dead, some (c, off, new), fun _ => none, 0⟩ c' (b c')) = upd b c (some (.var t1 (setCells cs1 off new))) := by
              intro b t1 cs1 new hb1
              funext c'
              unfold effC writeC upd
              simp only
              cases hcc : Nat.beq c' c with
              | false => rfl
              | true => rw [Nat.eq_of_beq_eq_true hcc, hb1]
            refine ⟨⟨.dead, some (c, off, cellsOf (opv st x)), fun _ => none, 0⟩, ?_, ⟨fun _ _ _ h => ?_, fun _ _ h => (by cases h), fun _ => rfl⟩, ⟨t', cs, hb, hle⟩, fun st1 ha' => ?_⟩
            · unfold eff putO
              simp only [eqb st.b t' cs _ hb]
              rfl
            · rename_i c1 o1 n1
              simp only [Option.some.injEq, Prod.mk.injEq] at h
              obtain ⟨rfl, rfl, rfl⟩ := h
              exact ⟨List.mem_singleton.2 rfl, List.mem_singleton.2 rfl⟩
            · have e1 := ha'.op a (by simp [Op.operands])
              have e2 := ha'.op x (by simp [Op.operands])
              have hk := (ha'.look _ (List.mem_singleton.2 rfl)).1
              rw [hb] at hk
              generalize hb1 : st1.b c = u at hk
              have key : ∀ cs1 : List (AV E.S), st1.b c = some (.var t' cs1) → cs1.length = cs.length → evOp spec wr st1 { dst := none, op := .store t a x, type := ty, pos := pos, after := after, guard := guard } some = some (eff st1 none ⟨.dead, some (c, off, cellsOf (opv st x)), fun _ => none, 0⟩) := by
                intro cs1 h1 hl
                simp only [evOp]
                rw [e1, ha]
                simp only [h1, e2, hl, hc', cond_true]
                unfold eff putO
                simp only [eqb st1.b t' cs1 _ h1]
                rfl
              cases hk with
              | refl => exact key cs hb1 rfl
              | var _ cs1 _ hl => exact key cs1 hb1 hl
          · cases h
        · cases h
      · rename_i c e' i off ha
        rw [ha] at h
        simp only at h
        split at h
        · rename_i e l hb
          rw [Bool.cond_eq_ite] at h
          split at h
          · rename_i hc
            simp only [bind] at h
            obtain ⟨y, hy, h⟩ := Option.bind_eq_some_iff.1 h
            obtain ⟨y', hy', h⟩ := Option.bind_eq_some_iff.1 h
            obtain rfl := Option.some.inj hfp
            have eqb : ∀ (b : Nat → Option (Box E.S)), (fun c' => effC ⟨.dead, none, newP c (.row e (l.set i.toNat y') false), 0⟩ c' (b c')) = upd b c (some (.row e (l.set i.toNat y') false)) := by
              intro b
              funext c'
              unfold effC newP upd
              simp only
              cases Nat.beq c' c <;> rfl
            refine ⟨⟨.dead, none, newP c (.row e (l.set i.toNat y') false), 0⟩, ?_, ⟨fun _ _ _ h => (by cases h), fun c' y hp => .inl (by rw [newP_some hp]; exact List.mem_singleton.2 rfl), fun _ => rfl⟩, trivial, fun st1 ha' => ?_⟩
            · rw [← Option.some.inj h]
              unfold eff putO
              simp only [eqb]
              rfl
            · have e1 := ha'.op a (by simp [Op.operands])
              have e2 := ha'.op x (by simp [Op.operands])
              have hk : st1.b c = st.b c := ha'.look (.all c) (List.mem_singleton.2 rfl)
              simp only [evOp]
              rw [e1, ha]
              simp only [hk, hb, e2, hc, cond_true, bind, hy, hy', Option.bind_some]
              unfold eff putO
              simp only [eqb]
              rfl
          · cases h
        · cases h
      · cases hfp
  case call c =>
    simp only [evOp] at h
    split at h
    · -- append
      rename_i x y t t' hc hxs ht
      simp only [fpOf, hc] at hfp
      obtain rfl := Option.some.inj hfp
      split at h
      · rename_i e e' d he he'
        rw [Bool.cond_eq_ite] at h
        split at h
        · cases h
        · rename_i hz
          split at h
          · rename_i base l sh m hab ham
            split at h
            · rename_i hf
              refine ⟨⟨.rw st.n, none, appP st.n base (.row e (l ++ m) sh), 1⟩, ?_, ⟨fun _ _ _ h => (by cases h), fun c' y' hp => ?_, fun hk => absurd ⟨_, List.mem_cons_self ..⟩ hk⟩, trivial, fun st1 ha => ?_⟩
              · rw [← Option.some.inj h]; unfold eff; simp only [effC_app]; rfl
              · have hp : appP st.n base (.row e (l ++ m) sh) c' = some y' := hp
                unfold appP at hp
                cases hb : Nat.beq c' st.n with
                | true => exact .inr ⟨_, List.mem_cons_self .., Nat.le_of_eq (Nat.eq_of_beq_eq_true hb).symm⟩
                | false =>
                  rw [hb] at hp
                  cases base with
                  | none => cases hp
                  | some c0 =>
                    simp only [cond_false] at hp
                    cases hb2 : Nat.beq c' c0 with
                    | false => rw [hb2] at hp; cases hp
                    | true =>
                      refine .inl (List.mem_cons_of_mem _ ?_)
                      rw [hxs, appBase_some hab, Nat.eq_of_beq_eq_true hb2]
                      exact rowIts_mem (List.mem_cons_self ..) (by simp [rowIt])
              · have hn := ha.n ⟨_, List.mem_cons_self ..⟩
                have e1 := Array.map_opv (xs := c.args) fun x hx => ha.op x (mem_args hx)
                simp only [evOp]
                rw [hc, e1, hxs, ht]
                simp only [he, he', Bool.cond_eq_ite]
                rw [if_neg hz, appBase_local (st := st) (x := x) fun it hi => ha.look it (by rw [hxs]; exact rowIts_mem (List.mem_cons_self ..) hi),
                  appMore_local (st := st) (x := y) fun it hi => ha.look it (by rw [hxs]; exact rowIts_mem (List.mem_cons_of_mem _ (List.mem_cons_self ..)) hi), hab, ham]
                simp only
                rw [if_pos hf]
                unfold eff
                simp only [effC_app, hn]
                rfl
            · cases h
          · cases h
      · cases h
    · rename_i f hc
      split at h
      · rename_i f' caps hf
        have hfp0 := hfp
        simp only [fpOf, hc, hf] at hfp
        rw [Bool.cond_eq_ite] at h hfp
        split at h
        · rename_i hp
          rw [if_pos hp] at hfp
          split at h
          · rename_i sp hs
            simp only [bind] at h
            obtain ⟨ρ, hρ, h⟩ := Option.bind_eq_some_iff.1 h
            rw [Bool.cond_eq_ite] at h
            split at h
            · rename_i hb
              obtain rfl := Option.some.inj h
              have run : ∀ st1 : St E.S, Agree st1 st { dst := dst, op := .call c, type := ty, pos := pos, after := after, guard := guard } fp → (∀ it ∈ rowIts (c.args.toList.map (opv (E := E) st)), Look st1.b st.b it) →
                  evOp spec wr st1 { dst := dst, op := .call c, type := ty, pos := pos, after := after, guard := guard } some = some { s := putO st1 dst (shiftV st1.n (sp.av ρ)), b := boxed st1.b st1.n (sp.bx ρ), n := st1.n + (sp.bx ρ).length, z := st1.z } := by
                intro st1 ha hl
                have e1 := Array.map_opv (xs := c.args) fun x hx => ha.op x (mem_args hx)
                have e2 := ha.op f (by simp [Op.operands, Call.operands, hc])
                have e3 := args_local (scalarRes E.P f') hl
                simp only [evOp]
                rw [hc, e1]
                simp only [e2, hf]
                rw [e3, hp, hs]
                simp only [cond_true, bind, hρ, Option.bind_some, hb]
              rw [Bool.cond_eq_ite] at hfp
              refine ⟨⟨shiftV st.n (sp.av ρ), none, boxP st.n (sp.bx ρ), (sp.bx ρ).length⟩, ?_, ?_⟩
              · unfold eff; simp only [effC_boxed]
              · split at hfp
                · rename_i hn
                  have hbx : sp.bx ρ = [] := by
                    have : st.n + (sp.bx ρ).length = st.n := Nat.eq_of_beq_eq_true hn
                    exact List.length_eq_zero_iff.1 (by omega)
                  rw [Bool.cond_eq_ite] at hfp
                  split at hfp
                  · rename_i hpu
                    obtain rfl := Option.some.inj hfp
                    refine ⟨⟨fun _ _ _ h => (by cases h), fun c' y' hp' => (by rw [hbx] at hp'; cases hp'), fun _ => by rw [hbx]; rfl⟩, trivial, fun st1 ha => ?_⟩
                    rw [run st1 ha ha.look]
                    have hput : putO st1 dst (shiftV st1.n (sp.av ρ)) = putO st1 dst (shiftV st.n (sp.av ρ)) := by
                      cases dst with
                      | none => rfl
                      | some d =>
                        simp only [pureAt, putO, putS, upd_same] at hpu
                        cases hz : Nat.blt d st.z with
                        | false => rw [hz] at hpu; simp [pureV] at hpu
                        | true =>
                          rw [hz] at hpu
                          simp only [cond_true] at hpu
                          rw [shiftP_V (k := st.n) (k' := st1.n) _ hpu]
                    rw [hput]
                    unfold eff
                    simp only [effC_boxed, hbx]
                    rfl
                  · cases hfp
                · obtain rfl := Option.some.inj hfp
                  refine ⟨⟨fun _ _ _ h => (by cases h), fun c' y' hp' => .inr ⟨_, List.mem_singleton.2 rfl, boxP_some hp'⟩, fun hk => absurd ⟨_, List.mem_singleton.2 rfl⟩ hk⟩, trivial, fun st1 ha => ?_⟩
                  rw [run st1 ha ha.look]
                  have hn := ha.n ⟨_, List.mem_singleton.2 rfl⟩
                  unfold eff
                  simp only [effC_boxed, hn]
            · cases h
          · cases h
        · rename_i hp
          rw [if_neg hp] at hfp
          obtain rfl := Option.some.inj hfp
          split at h
          · cases h
          · rename_i bs hbs
            rw [Bool.cond_eq_ite] at h
            split at h
            · cases h
            · rename_i hpos
              split at h
              · rename_i sp hs
                rw [Bool.cond_eq_ite] at h
                split at h
                · cases h
                · rename_i hk
                  simp only [bind] at h
                  obtain ⟨ρ, hρ, h⟩ := Option.bind_eq_some_iff.1 h
                  refine ⟨⟨mapV (backNo st (handed st (List.map (argOf' st.b false) (List.map (opv st) c.args.toList) ++ caps)) (handedK st (handed st (List.map (argOf' st.b false) (List.map (opv st) c.args.toList) ++ caps)))) (sp.av ρ), none,
                    backP st.n (handed st (List.map (argOf' st.b false) (List.map (opv st) c.args.toList) ++ caps)) (handedK st (handed st (List.map (argOf' st.b false) (List.map (opv st) c.args.toList) ++ caps))) (backNo st (handed st (List.map (argOf' st.b false) (List.map (opv st) c.args.toList) ++ caps)) (handedK st (handed st (List.map (argOf' st.b false) (List.map (opv st) c.args.toList) ++ caps)))) (sp.bx ρ),
                    (sp.bx ρ).length - handedK st (handed st (List.map (argOf' st.b false) (List.map (opv st) c.args.toList) ++ caps))⟩, ?_, ⟨fun _ _ _ h => (by cases h), fun c' y' hp' => ?_, fun hk => absurd ⟨_, List.mem_cons_self ..⟩ hk⟩, trivial, fun st1 ha => ?_⟩
                  · rw [← Option.some.inj h]; unfold eff; simp only [effC_back]
                  · rcases backP_some hp' with h1 | h1
                    · exact .inr ⟨_, List.mem_cons_self .., h1⟩
                    · exact .inl (List.mem_cons_of_mem _ (List.mem_map.2 ⟨_, handed_sub h1, rfl⟩))
                  · have hn := ha.n ⟨_, List.mem_cons_self ..⟩
                    have hrow : ∀ it ∈ rowIts (c.args.toList.map (opv (E := E) st)), Look st1.b st.b it := fun it hi => ha.look it (List.mem_append_left _ hi)
                    have hall : ∀ c' ∈ reach st.b 100 (idsL (List.map (argOf' st.b false) (List.map (opv st) c.args.toList) ++ caps)) [], st1.b c' = st.b c' := fun c' hc' => ha.look (.all c') (List.mem_append_right _ (List.mem_map.2 ⟨_, hc', rfl⟩))
                    have e1 := Array.map_opv (xs := c.args) fun x hx => ha.op x (mem_args hx)
                    have e2 := ha.op f (by simp [Op.operands, Call.operands, hc])
                    have e3 := args_local (scalarRes E.P f') hrow
                    have e4 := args_local false hrow
                    have e5 := handed_local (st := st) (st1 := st1) hn hall
                    have hm : ∀ c' ∈ handed st (List.map (argOf' st.b false) (List.map (opv st) c.args.toList) ++ caps), st1.b c' = st.b c' := fun c' hc' => hall c' (handed_sub hc')
                    have e6 := handedK_local hm
                    have e7 : ∀ (ρ' : Nat → Option Nat), ((handed st (List.map (argOf' st.b false) (List.map (opv st) c.args.toList) ++ caps)).map fun c => (st1.b c).map (mapB ρ')) = (handed st (List.map (argOf' st.b false) (List.map (opv st) c.args.toList) ++ caps)).map fun c => (st.b c).map (mapB ρ') := fun ρ' => List.map_congr_left fun c' hc' => by rw [hm c' hc']
                    have e8 : ∀ m k, backNo st1 m k = backNo st m k := fun m k => by unfold backNo; rw [hn]
                    simp only [evOp]
                    rw [hc, e1]
                    simp only [e2, hf, e3, e4, Bool.cond_eq_ite]
                    rw [if_neg hp, e5, e6, e7, hbs]
                    simp only
                    rw [if_neg hpos, hs]
                    simp only [bind, hρ, Option.bind_some]
                    rw [if_neg hk, e8]
                    unfold eff
                    rw [← e8, ← hn, effC_back]
              · cases h
      · cases h
    · rename_i hna hnv
      refine rd rfl h fun st1 ha => ?_
      have e1 := Array.map_opv (xs := c.args) fun x hx => ha.op x (mem_args hx)
      simp only [evOp]
      rw [e1]
      split
      · rename_i x y t t' hc hxs ht
        exact (hnv _ _ _ _ hc hxs ht).elim
      · rename_i f hc
        exact absurd hc (hna f)
      · rfl
  all_goals
    obtain ⟨y, h1, h2⟩ := evIdx_local (spec := spec) hfp h
    exact ⟨ef y, h1, .ef _ _, trivial, h2⟩


/-- the same to an operation and its guard -/
structure AgreeG (ops : Array Oper) (st1 st : St E.S) (o : Oper) (fp : Fp) : Prop where
  slots : ∀ d ∈ o.looksAt ops, st1.s d = st.s d
  n : (∃ n, It.ge n ∈ fp.wr) → st1.n = st.n
  z : st1.z = st.z
  look : ∀ it ∈ fp.look, Look st1.b st.b it

theorem AgreeG.symm {ops : Array Oper} {st1 st : St E.S} {o : Oper} {fp : Fp} (h : AgreeG ops st1 st o fp) : AgreeG ops st st1 o fp :=
  ⟨fun d hd => (h.slots d hd).symm, fun hn => (h.n hn).symm, h.z.symm, fun it hi => (h.look it hi).symm⟩
theorem AgreeG.trans {ops : Array Oper} {st1 st2 st : St E.S} {o : Oper} {fp : Fp} (h : AgreeG ops st2 st1 o fp) (k : AgreeG ops st1 st o fp) : AgreeG ops st2 st o fp :=
  ⟨fun d hd => (h.slots d hd).trans (k.slots d hd), fun hn => (h.n hn).trans (k.n hn), h.z.trans k.z, fun it hi => (h.look it hi).trans (k.look it hi)⟩
theorem AgreeG.agree {ops : Array Oper} {st1 st : St E.S} {o : Oper} {fp : Fp} (h : AgreeG ops st1 st o fp) : Agree st1 st o fp := by
  refine ⟨fun x hx => ?_, h.n, h.z, h.look⟩
  cases x with
  | tmp t => exact h.slots t (List.mem_append_left _ (List.mem_filterMap.2 ⟨.tmp t, by simpa using hx, rfl⟩))
  | _ => rfl

structure Does (spec : Spec E.S) (wr : Nat → Bool) (ops : Array Oper) (o : Oper) (fp : Fp) (st : St E.S) (e : Ef E) : Prop where
  fits : Fits st.b e.w
  cov : Covers fp e
  step : ∀ st1, AgreeG ops st1 st o fp → StepG spec wr ops o st1 (eff st1 o.dst e)

theorem AgreeG.refl (ops : Array Oper) (st : St E.S) (o : Oper) (fp : Fp) : AgreeG ops st st o fp := ⟨fun _ _ => rfl, fun _ => rfl, rfl, fun _ _ => .refl _ _⟩

theorem Does.move {spec : Spec E.S} {wr : Nat → Bool} {ops : Array Oper} {o : Oper} {fp : Fp} {st st1 : St E.S} {e : Ef E} (h : Does spec wr ops o fp st e) (ha : AgreeG ops st1 st o fp) : Does spec wr ops o fp st1 e :=
  ⟨h.fits.look h.cov ha.look, h.cov, fun st2 h2 => h.step st2 (h2.trans ha)⟩

theorem beq_swap (c c' : Nat) : Nat.beq c' c = Nat.beq c c' := by rw [Bool.eq_iff_iff, Nat.beq_eq, Nat.beq_eq, eq_comm]
theorem It.off_comm (x y : It) : x.off y = y.off x := by
  cases x <;> cases y <;> simp only [It.off] <;> first | rfl | (rw [beq_swap]; done) | (rw [beq_swap, Bool.or_comm])
theorem offL_spec {x y : List It} (h : offL x y = true) {i j : It} (hi : i ∈ x) (hj : j ∈ y) : i.off j = true := List.all_eq_true.1 (List.all_eq_true.1 h i hi) j hj
theorem offL_comm {x y : List It} (h : offL x y = true) : offL y x = true := List.all_eq_true.2 fun i hi => List.all_eq_true.2 fun j hj => by rw [It.off_comm]; exact offL_spec h hj hi

/-- box c as a whole is written -/
def Whole (fp : Fp) (c : Nat) : Prop := It.all c ∈ fp.wr ∨ ∃ n, It.ge n ∈ fp.wr ∧ n ≤ c

theorem blt_not {c n : Nat} (h : n ≤ c) : Nat.blt c n = false := by
  cases hb : Nat.blt c n with
  | false => rfl
  | true => have : c < n := Nat.le_of_ble_eq_true hb; omega

/-- what is off it does not touch box c -/
theorem whole_off {fp : Fp} {c : Nat} (hw : Whole fp c) {it : It} (hit : it = .all c ∨ (∃ i j, it = .part c i j) ∨ ∃ n, it = .ge n ∧ n ≤ c) (h : ∀ jt ∈ fp.wr, it.off jt = true) : False := by
  rcases hw with hw | ⟨n, hw, hn⟩
  · have h1 := h _ hw
    rcases hit with rfl | ⟨i, j, rfl⟩ | ⟨m, rfl, hm⟩
    · simp [It.off] at h1
    · simp [It.off] at h1
    · simp only [It.off, blt_not hm] at h1; cases h1
  · have h1 := h _ hw
    rcases hit with rfl | ⟨i, j, rfl⟩ | ⟨m, rfl, hm⟩
    · simp only [It.off, blt_not hn] at h1; cases h1
    · simp only [It.off, blt_not hn] at h1; cases h1
    · simp [It.off] at h1

theorem writeC_ne {w : Option (Nat × Nat × List (AV E.S))} {c : Nat} {x : Option (Box E.S)} (h : ∀ off new, w ≠ some (c, off, new)) : writeC w c x = x := by
  cases w with
  | none => rfl
  | some w =>
    obtain ⟨c', off, new⟩ := w
    unfold writeC
    cases hb : Nat.beq c c' with
    | false => simp [hb]
    | true => exact absurd (by rw [Nat.eq_of_beq_eq_true hb]) (h off new)
theorem writeC_eq {c off t : Nat} {cs new : List (AV E.S)} : writeC (some (c, off, new)) c (some (.var t cs)) = some (.var t (setCells cs off new)) := by
  unfold writeC; simp

/-- What an operation does leaves what is off it. -/
theorem look_eff {fp : Fp} {st : St E.S} {d : Option Nat} {e : Ef E} (hf : Fits st.b e.w) (hc : Covers fp e) {it : It} (h : ∀ jt ∈ fp.wr, it.off jt = true) : Look (eff st d e).b st.b it := by
  have nop : ∀ c, (it = .all c ∨ (∃ i j, it = .part c i j) ∨ ∃ n, it = .ge n ∧ n ≤ c) → (eff st d e).b c = writeC e.w c (st.b c) := by
    intro c hit
    show effC e c (st.b c) = _
    unfold effC
    cases hp : e.p c with
    | none => rfl
    | some y => exact (whole_off (hc.p c y hp) hit h).elim
  cases it with
  | part c i j =>
    have e1 := nop c (.inr (.inl ⟨i, j, rfl⟩))
    simp only [Look]
    rw [e1]
    by_cases hw : ∃ off new, e.w = some (c, off, new)
    · obtain ⟨off, new, hw⟩ := hw
      rw [hw] at hf ⊢
      obtain ⟨t, cs, h3, h4⟩ := hf
      rw [h3, writeC_eq]
      refine ⟨.var t _ _ (setCells_length _ _ _ h4), fun k h1 h2 => ?_⟩
      have ho := h _ (hc.w c off new hw).1
      simp only [It.off, Nat.beq_refl, cond_true, Bool.or_eq_true] at ho
      have : k < off ∨ off + new.length ≤ k := by
        rcases ho with h | h
        · have := Nat.le_of_ble_eq_true h; omega
        · have := Nat.le_of_ble_eq_true h; omega
      simp only [boxCells]
      rw [setCells_get _ _ _ h4]
      split
      · rfl
      · rw [if_neg (by omega)]
    · rw [writeC_ne fun off new he => hw ⟨off, new, he⟩]
      exact ⟨.refl _, fun _ _ _ => rfl⟩
  | all c =>
    show (eff st d e).b c = st.b c
    rw [nop c (.inl rfl)]
    refine writeC_ne fun off new hw => ?_
    have := h _ (hc.w c off new hw).1
    simp [It.off] at this
  | ge n =>
    intro c hn
    rw [nop c (.inr (.inr ⟨n, rfl, hn⟩))]
    refine writeC_ne fun off new hw => ?_
    have := h _ (hc.w c off new hw).1
    simp only [It.off, blt_not hn] at this
    cases this

theorem putO_s {st : St E.S} {d : Option Nat} {x : AV E.S} {t : Nat} (h : ∀ k, d = some k → k ≠ t) : putO st d x t = st.s t := by
  cases d with
  | none => rfl
  | some k => exact upd_ne _ _ (fun e => h k rfl e.symm)

theorem agree_eff {ops : Array Oper} {oi oj : Oper} {fi fj : Fp} {st : St E.S} {ei : Ef E} (hi : Fits st.b ei.w) (hw : Covers fi ei) (hap : ∀ d, oi.dst = some d → d ∉ oj.looksAt ops) (ho : offL fj.look fi.wr = true) (hww : offL fj.wr fi.wr = true) : AgreeG ops (eff st oi.dst ei) st oj fj := by
  refine ⟨fun d hd => putO_s fun k hk e => hap k hk (e ▸ hd), fun ⟨n, hn⟩ => ?_, rfl, fun it hit => look_eff hi hw fun jt hj => offL_spec ho hit hj⟩
  show st.n + ei.k = st.n
  rw [hw.k fun ⟨m, hm⟩ => ?_]
  · rfl
  · have := offL_spec hww hn hm
    simp [It.off] at this

theorem upd_comm {α : Type} (f : Nat → α) {i j : Nat} (x y : α) (h : i ≠ j) : upd (upd f i x) j y = upd (upd f j y) i x := by
  funext k
  unfold upd
  cases h1 : Nat.beq k i with
  | false => cases Nat.beq k j <;> rfl
  | true =>
    obtain rfl := Nat.eq_of_beq_eq_true h1
    have : Nat.beq k j = false := by
      cases h2 : Nat.beq k j with
      | false => rfl
      | true => exact absurd (Nat.eq_of_beq_eq_true h2) h
    rw [this]; rfl

theorem setCells_comm {α : Type} {cs : List α} {o1 o2 : Nat} {n1 n2 : List α} (h1 : o1 + n1.length ≤ cs.length) (h2 : o2 + n2.length ≤ cs.length) (h : o1 + n1.length ≤ o2 ∨ o2 + n2.length ≤ o1) :
    setCells (setCells cs o1 n1) o2 n2 = setCells (setCells cs o2 n2) o1 n1 := by
  apply List.ext_getElem?
  intro k
  rw [setCells_get (setCells cs o1 n1) o2 n2 (by rw [setCells_length _ _ _ h1]; exact h2), setCells_get (setCells cs o2 n2) o1 n1 (by rw [setCells_length _ _ _ h2]; exact h1), setCells_get cs o1 n1 h1, setCells_get cs o2 n2 h2]
  repeat' split
  all_goals first | rfl | omega | skip

/-- Two operations on one box. -/
theorem effC_comm {b : Nat → Option (Box E.S)} {e1 e2 : Ef E} (h1 : Fits b e1.w) (h2 : Fits b e2.w) {f1 f2 : Fp} (k1 : Covers f1 e1) (k2 : Covers f2 e2) (ho : offL f1.wr f2.wr = true) (c : Nat) : effC e2 c (effC e1 c (b c)) = effC e1 c (effC e2 c (b c)) := by
  have side : ∀ {e1 e2 : Ef E} {f1 f2 : Fp}, Covers f1 e1 → Covers f2 e2 → offL f1.wr f2.wr = true → ∀ y, e1.p c = some y → e2.p c = none ∧ ∀ off new, e2.w ≠ some (c, off, new) := by
    intro e1 e2 f1 f2 k1 k2 ho y hy
    have hw : Whole f1 c := k1.p c y hy
    constructor
    · cases hp : e2.p c with
      | none => rfl
      | some z =>
        have hw2 : Whole f2 c := k2.p c z hp
        rcases hw with hw | ⟨n, hw, hn⟩
        · exact (whole_off hw2 (.inl rfl) fun jt hj => offL_spec ho hw hj).elim
        · exact (whole_off hw2 (.inr (.inr ⟨n, rfl, hn⟩)) fun jt hj => offL_spec ho hw hj).elim
    · intro off new he
      exact whole_off hw (.inr (.inl ⟨_, _, rfl⟩)) fun jt hj => by rw [It.off_comm]; exact offL_spec ho hj (k2.w c off new he).1
  cases hp1 : e1.p c with
  | some y =>
    obtain ⟨h3, h4⟩ := side k1 k2 ho y hp1
    unfold effC
    simp only [hp1, h3]
    exact writeC_ne h4
  | none =>
    cases hp2 : e2.p c with
    | some y =>
      obtain ⟨h3, h4⟩ := side k2 k1 (offL_comm ho) y hp2
      unfold effC
      simp only [hp1, hp2]
      exact (writeC_ne h4).symm
    | none =>
      unfold effC
      simp only [hp1, hp2]
      by_cases hw1 : ∃ off new, e1.w = some (c, off, new)
      · by_cases hw2 : ∃ off new, e2.w = some (c, off, new)
        · obtain ⟨o1, n1, hw1⟩ := hw1
          obtain ⟨o2, n2, hw2⟩ := hw2
          have h3 := offL_spec ho (k1.w c o1 n1 hw1).1 (k2.w c o2 n2 hw2).1
          rw [hw1] at h1 ⊢
          rw [hw2] at h2 ⊢
          obtain ⟨t1, cs1, hb1, hl1⟩ := h1
          obtain ⟨t2, cs2, hb2, hl2⟩ := h2
          rw [hb1] at hb2
          obtain ⟨rfl, rfl⟩ := Box.var.inj (Option.some.inj hb2)
          simp only [It.off, Nat.beq_refl, cond_true, Bool.or_eq_true] at h3
          have : o1 + n1.length ≤ o2 ∨ o2 + n2.length ≤ o1 := by
            rcases h3 with h | h
            · exact .inl (Nat.le_of_ble_eq_true h)
            · exact .inr (Nat.le_of_ble_eq_true h)
          rw [hb1, writeC_eq, writeC_eq, writeC_eq, writeC_eq, setCells_comm hl1 hl2 this]
        · have : ∀ x, writeC e2.w c x = x := fun x => writeC_ne fun off new he => hw2 ⟨off, new, he⟩
          rw [this, this]
      · have : ∀ x, writeC e1.w c x = x := fun x => writeC_ne fun off new he => hw1 ⟨off, new, he⟩
        rw [this, this]

theorem eff_comm {st : St E.S} {d1 d2 : Option Nat} {e1 e2 : Ef E} (h1 : Fits st.b e1.w) (h2 : Fits st.b e2.w) {f1 f2 : Fp} (k1 : Covers f1 e1) (k2 : Covers f2 e2) (ho : offL f1.wr f2.wr = true) (hd : ∀ d, d1 = some d → d2 ≠ some d) : eff (eff st d1 e1) d2 e2 = eff (eff st d2 e2) d1 e1 := by
  unfold eff
  simp only [effC_comm h1 h2 k1 k2 ho, Nat.add_right_comm st.n e1.k e2.k]
  congr 1
  cases d1 with
  | none => rfl
  | some i =>
    cases d2 with
    | none => rfl
    | some j =>
      unfold putO putS
      exact upd_comm _ _ _ (fun e => hd i rfl (by rw [e]))

/-- Two operations that are apart may change places. -/
theorem Does.swap {spec : Spec E.S} {wr : Nat → Bool} {ops : Array Oper} {oi oj : Oper} {fi fj : Fp} {st : St E.S} {ei ej : Ef E} (hap : oi.apart ops oj = true) (ho : fi.off fj = true) (hi : Does spec wr ops oi fi st ei) (hj : Does spec wr ops oj fj (eff st oi.dst ei) ej) :
    Does spec wr ops oj fj st ej ∧ Does spec wr ops oi fi (eff st oj.dst ej) ei ∧ eff (eff st oj.dst ej) oi.dst ei = eff (eff st oi.dst ei) oj.dst ej := by
  obtain ⟨h1, h2, h3⟩ := Oper.apart_spec hap
  unfold Fp.off at ho
  simp only [Bool.and_eq_true] at ho
  obtain ⟨ho1, ho2, ho3⟩ := ho
  have a1 : AgreeG ops (eff st oi.dst ei) st oj fj := agree_eff hi.fits hi.cov h1 (offL_comm ho3) (offL_comm ho1)
  have j1 := hj.move a1.symm
  have a2 : AgreeG ops (eff st oj.dst ej) st oi fi := agree_eff j1.fits j1.cov h3 ho2 ho1
  exact ⟨j1, hi.move a2, (eff_comm hi.fits j1.fits hi.cov j1.cov ho1 h2).symm⟩

/-- Whatever order is picked from here on. -/
def AnyA (spec : Spec E.S) (wr : Nat → Bool) (ops : Array Oper) (fps : List Fp) (Q : St E.S → Prop) : Nat → Array Bool → St E.S → Prop
  | 0, listed, st => Region.ready .any ops listed = [] ∧ Q st
  | fuel + 1, listed, st => (Region.ready .any ops listed = [] → Q st) ∧
    ∀ i ∈ Region.ready .any ops listed, ∃ o fp e, ops[i]? = some o ∧ fps[i]? = some fp ∧ Does spec wr ops o fp st e ∧ AnyA spec wr ops fps Q fuel (listed.setIfInBounds i true) (eff st o.dst e)

theorem anyA_first {spec : Spec E.S} {wr : Nat → Bool} {ops : Array Oper} {fps : List Fp} {Q : St E.S → Prop} {i : Nat} {oi : Oper} {fi : Fp} (hi : ops[i]? = some oi) (hfi : fps[i]? = some fi) {e : Ef E} {dp : Nat → Prop}
    (hdp : ∀ j, dp j → ∃ o, ops[j]? = some o ∧ ∃ e ∈ o.after, Region.binds .any e = true ∧ (e.on = i ∨ dp e.on)) :
    ∀ (fuel : Nat) (listed : Array Bool) (st : St E.S), (∀ j, dp j → listed.getD j true = false) →
      (∀ j oj fj, ops[j]? = some oj → fps[j]? = some fj → j ≠ i → listed.getD j true = false → (∀ e ∈ oj.after, Region.binds .any e = true → e.on ≠ i) → ¬ dp j → oi.apart ops oj = true ∧ fi.off fj = true) →
      i ∈ Region.ready .any ops listed → Does spec wr ops oi fi st e →
      AnyA spec wr ops fps Q fuel (listed.setIfInBounds i true) (eff st oi.dst e) → AnyA spec wr ops fps Q (fuel + 1) listed st := by
  intro fuel
  induction fuel with
  | zero =>
    intro listed st _ _ hr hy H
    refine ⟨fun h => (by rw [h] at hr; cases hr), fun j hj => ?_⟩
    by_cases hji : j = i
    · subst hji; exact ⟨oi, fi, e, hi, hfi, hy, H⟩
    · have := ready_mono hj hji
      rw [H.1] at this
      cases this
  | succ fuel ih =>
    intro listed st hun0 hfree hr hy H
    refine ⟨fun h => (by rw [h] at hr; cases hr), fun j hj => ?_⟩
    by_cases hji : j = i
    · subst hji; exact ⟨oi, fi, e, hi, hfi, hy, H⟩
    · obtain ⟨oj, fj, ej, hoj, hfj, hdj, hK⟩ := H.2 j (ready_mono hj hji)
      obtain ⟨hjun, oj', hoj', hall⟩ := mem_ready.1 hj
      rw [hoj] at hoj'
      obtain rfl := Option.some.inj hoj'
      have clash : ∀ k, listed.getD k true = false → listed.getD k false = true → False := fun k h0 h1 => by
        rcases Nat.lt_or_ge k listed.size with h' | h'
        · simp [h'] at h0 h1; rw [h0] at h1; cases h1
        · simp [Array.getElem?_eq_none h'] at h1
      have hnot : ∀ e ∈ oj.after, Region.binds .any e = true → e.on ≠ i := fun e he hb heq => clash i (mem_ready.1 hr).1 (heq ▸ hall e he hb)
      have hndp : ¬ dp j := fun hd => by
        obtain ⟨o, ho, e', he', hb, h⟩ := hdp j hd
        rw [hoj] at ho
        obtain rfl := Option.some.inj ho
        rcases h with h | h
        · exact hnot e' he' hb h
        · exact clash e'.on (hun0 _ h) (hall e' he' hb)
      obtain ⟨hap, hof⟩ := hfree j oj fj hoj hfj hji hjun hnot hndp
      obtain ⟨k1, k2, k3⟩ := Does.swap hap hof hy hdj
      have hfree' : ∀ k ok fk, ops[k]? = some ok → fps[k]? = some fk → k ≠ i → (listed.setIfInBounds j true).getD k true = false →
          (∀ e ∈ ok.after, Region.binds .any e = true → e.on ≠ i) → ¬ dp k → oi.apart ops ok = true ∧ fi.off fk = true := fun k ok fk hk hfk hki hun hno hnd => by
        refine hfree k ok fk hk hfk hki ?_ hno hnd
        by_cases hjk : j = k
        · subst hjk; exact hjun
        · rw [getD_set_ne true hjk] at hun; exact hun
      refine ⟨oj, fj, ej, hoj, hfj, k1, ih (listed.setIfInBounds j true) _ (fun k hk => ?_) hfree' (ready_mono hr (Ne.symm hji)) k2 ?_⟩
      · rw [getD_set_ne true (i := j) (j := k) fun hjk => hndp (by rw [hjk]; exact hk)]; exact hun0 k hk
      · rw [Array.setIfInBounds_comm _ _ hji, k3]
        exact hK

/-- The walk in the text's order. -/
inductive Walk (spec : Spec E.S) (wr : Nat → Bool) (ops : Array Oper) : List Oper → List Fp → St E.S → St E.S → Prop
 | nil (st : St E.S) : Walk spec wr ops [] [] st st
 | cons (o : Oper) (fp : Fp) (l : List Oper) (fps : List Fp) (st st' : St E.S) (e : Ef E) (h : Does spec wr ops o fp st e) (k : Walk spec wr ops l fps (eff st o.dst e) st') : Walk spec wr ops (o :: l) (fp :: fps) st st'

theorem waits_spec {is : List Nat} {o : Oper} (h : waits is o = true) : ∃ e ∈ o.after, Region.binds .any e = true ∧ e.on ∈ is := by
  unfold waits at h
  obtain ⟨e, he, h⟩ := List.any_eq_true.1 h
  simp only [Bool.and_eq_true] at h
  exact ⟨e, by simpa using he, h.1, mem_true h.2⟩

theorem offAll_spec : ∀ {ops : List Oper} {fps : List Fp} {is : List Nat} {x : Fp} {k : Nat}, offAll is x k ops fps = true →
    ∃ dp : Nat → Prop, (∀ j, dp j → k ≤ j ∧ ∃ o, ops[j - k]? = some o ∧ ∃ e ∈ o.after, Region.binds .any e = true ∧ (e.on ∈ is ∨ dp e.on)) ∧ ∀ (j : Nat) o fp, ops[j]? = some o → fps[j]? = some fp → dp (k + j) ∨ x.off fp = true
 | [], _, _, _, _, _ => ⟨fun _ => False, fun _ h => h.elim, fun j o fp h => by simp at h⟩
 | o :: ops, [], _, _, _, _ => ⟨fun _ => False, fun _ h => h.elim, fun j o fp _ h => by simp at h⟩
 | o :: ops, f :: fps, is, x, k, h => by
   unfold offAll at h
   rw [Bool.cond_eq_ite] at h
   split at h
   · rename_i hw
     obtain ⟨dp, h1, h2⟩ := offAll_spec h
     obtain ⟨e0, he0, hb0, ho0⟩ := waits_spec hw
     refine ⟨fun j => j = k ∨ dp j, fun j hj => ?_, fun j o' fp h3 h4 => ?_⟩
     · rcases hj with rfl | hj
       · exact ⟨Nat.le_refl _, o, by simp, e0, he0, hb0, .inl ho0⟩
       · obtain ⟨h3, o', h4, e, he, hb, h5⟩ := h1 j hj
         refine ⟨by omega, o', by rw [show j - k = (j - (k + 1)) + 1 by omega]; simpa using h4, e, he, hb, ?_⟩
         rcases h5 with h5 | h5
         · rcases List.mem_cons.1 h5 with h5 | h5
           · exact .inr (.inl h5)
           · exact .inl h5
         · exact .inr (.inr h5)
     · cases j with
       | zero => exact .inl (.inl rfl)
       | succ j =>
         rcases h2 j o' fp (by simpa using h3) (by simpa using h4) with h | h
         · exact .inl (.inr (by rwa [show k + (j + 1) = k + 1 + j by omega]))
         · exact .inr h
   · simp only [Bool.and_eq_true] at h
     obtain ⟨dp, h1, h2⟩ := offAll_spec h.2
     refine ⟨dp, fun j hj => ?_, fun j o' fp h3 h4 => ?_⟩
     · obtain ⟨h3, o', h4, h5⟩ := h1 j hj
       exact ⟨by omega, o', by rw [show j - k = (j - (k + 1)) + 1 by omega]; simpa using h4, h5⟩
     · cases j with
       | zero =>
         simp at h3 h4
         subst h4
         exact .inr h.1
       | succ j =>
         rcases h2 j o' fp (by simpa using h3) (by simpa using h4) with h | h
         · exact .inl (by rwa [show k + (j + 1) = k + 1 + j by omega])
         · exact .inr h

theorem offs_spec : ∀ {ops : List Oper} {fps : List Fp} {k : Nat}, offs k ops fps = true → ∀ (i : Nat) fi, i < ops.length → fps[i]? = some fi →
    offAll [k + i] fi (k + i + 1) (ops.drop (i + 1)) (fps.drop (i + 1)) = true
 | [], _, _, _, i, fi, h, _ => by simp at h
 | _ :: _, [], _, _, i, fi, _, h => by simp at h
 | o :: ops, f :: fps, k, h, i, fi, h1, h2 => by
   unfold offs at h
   simp only [Bool.and_eq_true] at h
   cases i with
   | zero =>
     simp at h2
     subst h2
     simpa using h.1
   | succ i =>
     have := offs_spec h.2 i fi (by simpa using h1) (by simpa using h2)
     rw [show k + 1 + i = k + (i + 1) by omega] at this
     simpa using this

theorem anyA_lex {spec : Spec E.S} {wr : Nat → Bool} {ops : Array Oper} {fps : List Fp} {Q : St E.S → Prop} (hof : offs 0 ops.toList fps = true) : ∀ (l : List Oper) (fl : List Fp) (k : Nat) (listed : Array Bool) (st st' : St E.S), (∀ j, l[j]? = ops[k + j]?) → (∀ j, fl[j]? = fps[k + j]?) → (∀ j, j < k → listed.getD j true = true) → (∀ j, k ≤ j → j < listed.size → listed.getD j true = false) → listed.size = ops.size →
    Region.lexFrom .any ops l.length k listed = true → Walk spec wr ops l fl st st' → Q st' → AnyA spec wr ops fps Q l.length listed st
 | [], _, k, listed, st, st', _, _, _, _, _, hB, hw, hQ => by
   cases hw
   exact ⟨by simpa [Region.lexFrom] using hB, hQ⟩
 | o :: l, _, k, listed, st, st', hl, hfl, hls, hun, hsz, hB, hw, hQ => by
   cases hw with
   | cons _ fp _ fl _ _ e hd hk =>
     have h0 : ops[k]? = some o := by simpa using (hl 0).symm
     have h1 : fps[k]? = some fp := by simpa using (hfl 0).symm
     simp only [List.length_cons, Region.lexFrom, Bool.and_eq_true] at hB
     obtain ⟨⟨hr, hf⟩, hB'⟩ := hB
     have hko : k < ops.size := (Array.getElem?_eq_some_iff.1 h0).1
     have hkl : k < listed.size := by rw [hsz]; exact hko
     obtain ⟨dp, hdp, hoff⟩ := offAll_spec (offs_spec hof k fp (by simpa using hko) h1)
     have hdp' : ∀ j, dp j → k < j ∧ ∃ o, ops[j]? = some o ∧ ∃ e ∈ o.after, Region.binds .any e = true ∧ (e.on = k ∨ dp e.on) := fun j hj => by
       obtain ⟨h3, o', h4, e, he, hb, h5⟩ := hdp j hj
       refine ⟨by omega, o', ?_, e, he, hb, ?_⟩
       · rw [List.getElem?_drop, show k + 1 + (j - (0 + k + 1)) = j by omega] at h4
         simpa using h4
       · rcases h5 with h5 | h5
         · exact .inl (by simpa using h5)
         · exact .inr h5
     refine anyA_first h0 h1 (dp := dp) (fun j hj => (hdp' j hj).2) l.length listed st (fun j hj => ?_) (fun j oj fj hj hfj hne hun hno hnd => ⟨Region.free_spec h0 hf j oj hj hne hun hno, ?_⟩) (by simpa using hr) hd ?_
     · obtain ⟨h3, o', h4, _⟩ := hdp' j hj
       exact hun j (by omega) (by rw [hsz]; exact (Array.getElem?_eq_some_iff.1 h4).1)
     · have hkj : k < j := by
         rcases Nat.lt_or_ge j k with h' | h'
         · rw [hls j h'] at hun; cases hun
         · omega
       have := hoff (j - (k + 1)) oj fj (by rw [List.getElem?_drop, show k + 1 + (j - (k + 1)) = j by omega]; simpa using hj) (by rw [List.getElem?_drop, show k + 1 + (j - (k + 1)) = j by omega]; exact hfj)
       rw [show 0 + k + 1 + (j - (k + 1)) = j by omega] at this
       exact this.resolve_left hnd
     · refine anyA_lex hof l fl (k + 1) _ _ st' (fun j => ?_) (fun j => ?_) (fun j hj => ?_) (fun j hj hj' => ?_) (by simpa using hsz) hB' hk hQ
       · have := hl (j + 1); simpa [Nat.add_assoc, Nat.add_comm 1 j] using this
       · have := hfl (j + 1); simpa [Nat.add_assoc, Nat.add_comm 1 j] using this
       · by_cases hjk : k = j
         · subst hjk
           simp [hkl]
         · rw [getD_set_ne true hjk]; exact hls j (by omega)
       · rw [getD_set_ne true (by omega)]; exact hun j (by omega) (by simpa using hj')

theorem anyA_wp (hE : E.Ok) {spec : Spec E.S} (hS : SpecOk E spec) {wr : Nat → Bool} {w0 : World} {G0 : Org} {ops : Array Oper} {fps : List Fp} {κ : St E.S → Option R} {r : R} {Q : Exit → Act → World → Prop} (hQ : ∀ a w, Nxt E w0 G0 κ r a w → Q .normal a w) :
    ∀ (fuel : Nat) (listed : Array Bool) (st : St E.S) (a : Act) (w : World), (∃ G L, Inv E w0 G0 st a w G L) → AnyA spec wr ops fps (fun st => κ st = some r) fuel listed st → wpAny E.P .any ops Q fuel listed a w
 | 0, listed, st, a, w, ⟨G, L, hI⟩, h => ⟨h.1, hQ a w ⟨st, G, L, h.2, hI⟩⟩
 | fuel + 1, listed, st, a, w, ⟨G, L, hI⟩, h => ⟨fun h0 => hQ a w ⟨st, G, L, h.1 h0, hI⟩, fun i hi => by
   obtain ⟨o, fp, e, ho, hfp, hd, hk⟩ := h.2 i hi
   exact step_wpOp hE hS hI ho (hd.step st (.refl ..)) fun a' w' hI' => anyA_wp hE hS hQ fuel _ _ a' w' hI' hk⟩

theorem does_of {spec : Spec E.S} {wr : Nat → Bool} {ops : Array Oper} {o : Oper} {fp : Fp} {st st' : St E.S} (hg : o.guard = none ∨ ∃ i b k, o.guard = some (i, b) ∧ guardSlot ops i = some k ∧ st.s k = .v (.bool b)) (hfp : fpOf st o st' = some fp) (h : evOp spec wr st o some = some st') : ∃ e : Ef E, st' = eff st o.dst e ∧ Does spec wr ops o fp st e := by
  obtain ⟨e, h1, h2, h3, h4⟩ := evOp_local hfp h
  refine ⟨e, h1, h3, h2, fun st1 ha => ?_⟩
  have h5 := h4 st1 ha.agree
  unfold StepG
  rcases hg with hg | ⟨i, b, k, hg, hk, hs⟩
  · rw [hg]; exact h5
  · rw [hg]
    refine ⟨k, hk, .inl ⟨b, ?_, by rw [if_pos rfl]; exact h5⟩⟩
    rw [ha.slots k (List.mem_append_right _ ?_)]
    · exact hs
    · rw [hg]
      unfold guardSlot at hk
      cases ho : ops[i]? with
      | none => rw [ho] at hk; cases hk
      | some o' => rw [ho] at hk; simp only [Option.bind_some, ho]; simp [hk]

theorem does_skip {spec : Spec E.S} {wr : Nat → Bool} {ops : Array Oper} {o : Oper} {st : St E.S} {i k : Nat} {b g : Bool} (hg : o.guard = some (i, b)) (hk : guardSlot ops i = some k) (hs : st.s k = .v (.bool g)) (hne : g ≠ b) : Does spec wr ops o ⟨[], []⟩ st (ef (.tup [])) := by
  refine ⟨trivial, .ef _ _, fun st1 ha => ?_⟩
  unfold StepG
  rw [hg]
  refine ⟨k, hk, .inl ⟨g, ?_, by rw [if_neg hne]; exact (put_eff _ _ _).symm⟩⟩
  rw [ha.slots k (List.mem_append_right _ ?_)]
  · exact hs
  · rw [hg]
    unfold guardSlot at hk
    cases ho : ops[i]? with
    | none => rw [ho] at hk; cases hk
    | some o' => rw [ho] at hk; simp only [Option.bind_some, ho]; simp [hk]

theorem does_skip2 {spec : Spec E.S} {wr : Nat → Bool} {ops : Array Oper} {o : Oper} {st : St E.S} {i k : Nat} {b : Bool} (hg : o.guard = some (i, b)) (hk : guardSlot ops i = some k) (hs : st.s k = .tup []) : Does spec wr ops o ⟨[], []⟩ st (ef (.tup [])) := by
  refine ⟨trivial, .ef _ _, fun st1 ha => ?_⟩
  unfold StepG
  rw [hg]
  refine ⟨k, hk, .inr ⟨?_, (put_eff _ _ _).symm⟩⟩
  rw [ha.slots k (List.mem_append_right _ ?_)]
  · exact hs
  · rw [hg]
    unfold guardSlot at hk
    cases ho : ops[i]? with
    | none => rw [ho] at hk; cases hk
    | some o' => rw [ho] at hk; simp only [Option.bind_some, ho]; simp [hk]

theorem evDraw_walk {spec : Spec E.S} {wr : Nat → Bool} {ops : Array Oper} {κ : St E.S → Option R} {r : R} : ∀ (l : List Oper) (acc : List Fp) (st : St E.S), evDraw spec wr ops κ l acc st = some r →
    ∃ fl st', offs 0 ops.toList (acc.reverse ++ fl) = true ∧ Walk spec wr ops l fl st st' ∧ κ st' = some r
 | [], acc, st, h => by
   unfold evDraw at h
   rw [Bool.cond_eq_ite] at h
   split at h
   · rename_i hc; exact ⟨[], st, by simpa using hc, .nil _, h⟩
   · cases h
 | o :: l, acc, st, h => by
   have fin : (o.guard = none ∨ ∃ i b k, o.guard = some (i, b) ∧ guardSlot ops i = some k ∧ st.s k = .v (.bool b)) → evOp spec wr st o (fun st' => match fpOf st o st' with | some fp => evDraw spec wr ops κ l (fp :: acc) st' | none => none) = some r →
       ∃ fl st', offs 0 ops.toList (acc.reverse ++ fl) = true ∧ Walk spec wr ops (o :: l) fl st st' ∧ κ st' = some r := by
     intro hg hev
     obtain ⟨st1, h1, h2⟩ := evOp_some hev
     split at h2
     · rename_i fp hfp
       obtain ⟨e, rfl, hd⟩ := does_of (ops := ops) hg hfp h1
       obtain ⟨fl, st2, h3, h4, h5⟩ := evDraw_walk l _ _ h2
       exact ⟨fp :: fl, st2, by simpa using h3, .cons _ _ _ _ _ _ _ hd h4, h5⟩
     · cases h2
   have skip : ∀ {i k : Nat} {b g : Bool}, o.guard = some (i, b) → guardSlot ops i = some k → st.s k = .v (.bool g) → g ≠ b → evDraw spec wr ops κ l (⟨[], []⟩ :: acc) (put st o.dst (.tup [])) = some r →
       ∃ fl st', offs 0 ops.toList (acc.reverse ++ fl) = true ∧ Walk spec wr ops (o :: l) fl st st' ∧ κ st' = some r := by
     intro i k b g hg hk hs hne h2
     obtain ⟨fl, st2, h3, h4, h5⟩ := evDraw_walk l _ _ h2
     rw [put_eff] at h4
     exact ⟨⟨[], []⟩ :: fl, st2, by simpa using h3, .cons _ _ _ _ _ _ _ (does_skip hg hk hs hne) h4, h5⟩
   unfold evDraw at h
   split at h
   · rename_i hg
     exact fin (.inl hg) h
   · rename_i i b hg
     split at h
     · cases h
     · rename_i k hk
       split at h
       · rename_i g hs
         split at h
         · rename_i hgt
           subst hgt
           rw [st_self st k _ hs] at h
           split at h
           · exact fin (.inr ⟨i, true, k, hg, hk, hs⟩) h
           · exact skip hg hk hs (by simp) h
         · rename_i hgt
           obtain rfl : g = false := by simpa using hgt
           rw [st_self st k _ hs] at h
           split at h
           · exact fin (.inr ⟨i, false, k, hg, hk, hs⟩) h
           · exact skip hg hk hs (by simp) h
       · rename_i hs
         obtain ⟨fl, st2, h3, h4, h5⟩ := evDraw_walk l _ _ h
         rw [put_eff] at h4
         exact ⟨⟨[], []⟩ :: fl, st2, by simpa using h3, .cons _ _ _ _ _ _ _ (does_skip2 hg hk hs) h4, h5⟩
       · cases h

theorem Inv.drawn {w0 w : World} {G0 : Org} {G : Gh} {L : Nat → Value} {st : St E.S} {a : Act} (h : Inv E w0 G0 st a w G L) : Inv E w0 G0 st a { w with drawn := w.drawn + 1 } G L := by
  have hb : Below w.heap.size w { w with drawn := w.drawn + 1 } := ⟨rfl, rfl, rfl, Nat.le_refl _, fun _ _ => rfl⟩
  exact ⟨h.st.keep hb, h.fr.trans (.below hb), h.df, h.kp⟩

/-- A region, the text's order or any. -/
theorem region_wp (hE : E.Ok) {spec : Spec E.S} (hS : SpecOk E spec) {wr : Nat → Bool} {w0 w : World} {G0 : Org} {G : Gh} {L : Nat → Value} {st : St E.S} {a : Act} (h : Inv E w0 G0 st a w G L) {id : Nat} {ops : Array Oper} {draw : Bool} {κ : St E.S → Option R} {r : R} {Q : Exit → Act → World → Prop} (hQ : ∀ a w, Nxt E w0 G0 κ r a w → Q .normal a w)
    (hr : (bif draw then (bif Region.lexB .any ops then evDraw spec wr ops κ ops.toList [] st else none) else evOps spec wr ops κ ops.toList st) = some r) : (Code.region id ops draw).wp E.P Q a w := by
  cases draw with
  | false =>
    simp only [cond_false] at hr
    have := evOps_wp hE hS hQ ops.toList 0 h (by simp) hr
    refine wp_region ?_
    rwa [Array.length_toList, ← List.range_eq_range'] at this
  | true =>
    simp only [cond_true] at hr
    rw [Bool.cond_eq_ite] at hr
    split at hr
    · rename_i hB
      obtain ⟨fl, st', h1, h2, h3⟩ := evDraw_walk _ _ _ hr
      simp only [Region.lexB, Bool.and_eq_true] at hB
      refine wp_region_any hE.mixed (anyA_wp (wr := wr) hE hS hQ _ _ st _ _ ⟨G, L, h.drawn⟩ (fps := fl) ?_)
      have := anyA_lex (Q := fun st => κ st = some r) (by simpa using h1) ops.toList fl 0 (Array.replicate ops.size false) st st' (by simp) (by simp) (fun j hj => by omega) (fun j _ hj => by simp at hj ⊢; simp [hj]) (by simp) (by simpa using hB.2) h2 h3
      simpa using this
    · cases hr
end Go.Proofs.YtcgkjbglijganaaDoor.Ev
