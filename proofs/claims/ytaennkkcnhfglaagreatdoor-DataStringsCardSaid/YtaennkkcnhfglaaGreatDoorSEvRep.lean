/- A part of the proof. -/
import Derived.Test.YtaennkkcnhfglaaGreatDoorSEvDef
import Derived.Below
import Derived.Deep.AppendSrc
import Derived.Deep.MidRow
set_option linter.unusedVariables false
namespace Go.Proofs.YtaennkkcnhfglaaGreatDoor.Ev
variable {E : Env}
abbrev Gh := Nat → Option (Option Nat × Nat)
def Imm (G : Gh) (b o : Nat) : Prop := ∀ c u, G b = some (c, u) → o < u
theorem Imm.none {G : Gh} {b o : Nat} (h : G b = Option.none) : Imm G b o := fun c u h' => by rw [h] at h'; cases h'
def isSl : Value → Bool
 | .slice _ _ _ => true
 | .map _ => true
 | _ => false
def obj : Obj → Bool
 | .stringIter _ _ => true
 | .map _ _ => true
 | _ => false
inductive Rep (E : Env) (w : World) (G : Gh) (L : Nat → Value) (n : Nat) : AV E.S → Value → Prop
 | v (x : Value) (h : x.oneCell' = true) : Rep E w G L n (.v x) x
 | nl : Rep E w G L n .nl (.slice none 0 0)
 | sn (e : Nat) (f : Bool) : Rep E w G L n (.sl e [] f) (.slice none 0 0)
 | se (e : Nat) (a : Addr) (f : Bool) : Rep E w G L n (.sl e [] f) (.slice (some a) 0 0)
 | sl (e : Nat) (l : List (E.S e)) (f : Bool) (b off cap : Nat) (vals : Nat → Value) (hc : l.length ≤ cap) (hf : f = true → cap = l.length)
    (h1 : ∀ i x j c, l[i]? = some x → (E.cells e x)[j]? = some c → Imm G b (off + i * E.P.cellsOf e + j) ∧ w.cell? ⟨b, off + i * E.P.cellsOf e + j, none⟩ = some (vals (off + i * E.P.cellsOf e + j)))
    (h2 : ∀ i x j c, l[i]? = some x → (E.cells e x)[j]? = some c → Rep E w G L n c (vals (off + i * E.P.cellsOf e + j))) :
    Rep E w G L n (.sl e l f) (.slice (some ⟨b, off, none⟩) l.length cap)
 | el (e : Nat) (x : E.S e) (o b off : Nat) (vals : Nat → Value)
    (h1 : ∀ j c, (E.cells e x)[j]? = some c → Imm G b (off + j) ∧ w.cell? ⟨b, off + j, none⟩ = some (vals (off + j)))
    (h2 : ∀ j c, (E.cells e x)[j]? = some c → Rep E w G L n c (vals (off + j))) :
    Rep E w G L n (.el e x o) (.pointer (some ⟨b, off + o, none⟩))
 | ar (e : Nat) (l : List (E.S e)) (b off : Nat) (h : Rep E w G L n (.sl e l false) (.slice (some ⟨b, off, none⟩) l.length l.length)) : Rep E w G L n (.ar e l) (.pointer (some ⟨b, off, none⟩))
 | bp (c o b : Nat) (hc : c < n) (h : L c = .pointer (some ⟨b, 0, none⟩)) : Rep E w G L n (.bp c o) (.pointer (some ⟨b, o, none⟩))
 | rw (c : Nat) (hc : c < n) (h : isSl (L c) = true) : Rep E w G L n (.rw c) (L c)
 | rp (c e : Nat) (i : Int) (o b off m cap : Nat) (hc : c < n) (h : L c = .slice (some ⟨b, off, none⟩) m cap) : Rep E w G L n (.rp c e i o) (.pointer (some ⟨b, off + i.toNat * E.P.cellsOf e + o, none⟩))
 | ws (c e lo hi b off m cap k : Nat) (hc : c < n) (h : L c = .slice (some ⟨b, off, none⟩) m cap) : Rep E w G L n (.ws c e (lo, hi)) (.slice (some ⟨b, off + lo * E.P.cellsOf e, none⟩) (hi - lo) k)
 | ws0 (c e lo k : Nat) (a : Option Addr) (hc : c < n) (h : isSl (L c) = true) : Rep E w G L n (.ws c e (lo, lo)) (.slice a 0 k)
 | fn (f : Nat) (cs : List (AV E.S)) (vs : List Value) (hl : cs.length = vs.length) (h : ∀ (i : Nat) (x : AV E.S) (y : Value), cs[i]? = some x → vs[i]? = some y → Rep E w G L n x y) : Rep E w G L n (.fn f cs) (.func (.func f) #[] vs.toArray)
 | agg (cs : List (AV E.S)) (vs : List Value) (hl : cs.length = vs.length) (h : ∀ (i : Nat) (x : AV E.S) (y : Value), cs[i]? = some x → vs[i]? = some y → Rep E w G L n x y) (h1 : ∀ y ∈ vs, y.oneCell' = true) : Rep E w G L n (.agg cs) (.agg vs.toArray)
 | tup (cs : List (AV E.S)) (vs : List Value) (hl : cs.length = vs.length) (h : ∀ (i : Nat) (x : AV E.S) (y : Value), cs[i]? = some x → vs[i]? = some y → Rep E w G L n x y) : Rep E w G L n (.tup cs) (.tuple vs.toArray)
 | er0 : Rep E w G L n (.er false) .nilIface
 | er1 (t : Nat) (x : Value) : Rep E w G L n (.er true) (.iface t x)
 | op0 (e : Nat) : Rep E w G L n (.op e none) (.pointer none)
 | op1 (e : Nat) (x : E.S e) (v : Value) (h : Rep E w G L n (.el e x 0) v) : Rep E w G L n (.op e (some x)) v
 | so0 (e : Nat) : Rep E w G L n (.so e none) (.slice none 0 0)
 | so1 (e : Nat) (l : List (E.S e)) (v : Value) (h : Rep E w G L n (.sl e l false) v) : Rep E w G L n (.so e (some l)) v
 | dead (x : Value) : Rep E w G L n .dead x
theorem Rep.mono {w w' : World} {G G' : Gh} {L L' : Nat → Value} {n n' : Nat}
    (hw : ∀ b o v, Imm G b o → w.cell? ⟨b, o, none⟩ = some v → Imm G' b o ∧ w'.cell? ⟨b, o, none⟩ = some v) (hL : ∀ c, c < n → L' c = L c) (hn : n ≤ n')
    {x : AV E.S} {v : Value} (h : Rep E w G L n x v) : Rep E w' G' L' n' x v := by
  induction h with
  | v x h => exact .v x h
  | nl => exact .nl
  | sn e f => exact .sn e f
  | se e a f => exact .se e a f
  | sl e l f b off cap vals hc hf h1 h2 ih => exact .sl e l f b off cap vals hc hf (fun i x j c hi hj => hw _ _ _ (h1 i x j c hi hj).1 (h1 i x j c hi hj).2) ih
  | el e x o b off vals h1 h2 ih => exact .el e x o b off vals (fun j c hj => hw _ _ _ (h1 j c hj).1 (h1 j c hj).2) ih
  | ar e l b off h ih => exact .ar e l b off ih
  | bp c o b hc h => exact .bp c o b (by omega) (by rw [hL c hc]; exact h)
  | rw c hc h => rw [← hL c hc]; exact .rw c (by omega) (by rw [hL c hc]; exact h)
  | rp c e i o b off m cap hc h => exact .rp c e i o b off m cap (by omega) (by rw [hL c hc]; exact h)
  | ws c e lo hi b off m cap k hc h => exact .ws c e lo hi b off m cap k (by omega) (by rw [hL c hc]; exact h)
  | ws0 c e lo k a hc h => exact .ws0 c e lo k a (by omega) (by rw [hL c hc]; exact h)
  | fn f cs vs hl h ih => exact .fn f cs vs hl ih
  | agg cs vs hl h h1 ih => exact .agg cs vs hl ih h1
  | tup cs vs hl h ih => exact .tup cs vs hl ih
  | er0 => exact .er0
  | er1 t x => exact .er1 t x
  | op0 e => exact .op0 e
  | op1 e x v h ih => exact .op1 e x v ih
  | so0 e => exact .so0 e
  | so1 e l v h ih => exact .so1 e l v ih
  | dead x => exact .dead x
def AV.isCell {S : Nat → Type} : AV S → Bool
 | .agg _ | .tup _ | .dead => false
 | _ => true
theorem Rep.oneCell {w : World} {G : Gh} {L : Nat → Value} {n : Nat} (hL : ∀ c, c < n → (L c).oneCell' = true) {x : AV E.S} {v : Value} (h : Rep E w G L n x v) (hx : x.isCell = true) : v.oneCell' = true := by
  cases h <;> first | rfl | assumption | (simp [AV.isCell] at hx; done) | skip
  case rw c hc h => exact hL c hc
  case op1 h => cases h; rfl
  case so1 h => cases h <;> rfl
inductive Weak {S : Nat → Type} : AV S → AV S → Prop
 | refl (x : AV S) : Weak x x
 | full (e : Nat) (l : List (S e)) (f : Bool) : Weak (.sl e l f) (.sl e l false)
 | nil (e : Nat) : Weak .nl (.sl e [] false)
 | op0 (e : Nat) : Weak (.v (.pointer none)) (.op e none)
 | op1 (e : Nat) (x : S e) : Weak (.el e x 0) (.op e (some x))
 | so0 (e : Nat) : Weak .nl (.so e none)
 | so1 (e : Nat) (l : List (S e)) (f : Bool) : Weak (.sl e l f) (.so e (some l))
 | so2 (e : Nat) (o : Option (List (S e))) : Weak (.so e o) (.sl e (o.getD []) false)
theorem Rep.full_ {w : World} {G : Gh} {L : Nat → Value} {n e : Nat} {l : List (E.S e)} {v : Value} (f : Bool) (h : Rep E w G L n (.sl e l f) v) : Rep E w G L n (.sl e l false) v := by
  cases h with
  | sn => exact .sn e false
  | se _ a _ => exact .se e a false
  | sl _ _ _ b off cap vals hc hf h1 h2 => exact .sl e l false b off cap vals hc (fun h => by cases h) h1 h2
theorem Rep.zero {w : World} {G : Gh} {L : Nat → Value} {n e : Nat} {f : Bool} (o : Option Addr) : Rep E w G L n (.sl e [] f) (.slice o 0 0) := by
  cases o with
  | none => exact .sn e f
  | some a => exact .se e a f
theorem Rep.so_inv {w : World} {G : Gh} {L : Nat → Value} {n e : Nat} {o : Option (List (E.S e))} {v : Value} (h : Rep E w G L n (.so e o) v) : Rep E w G L n (.sl e (o.getD []) false) v := by
  cases h with
  | so0 => exact .sn e false
  | so1 _ l _ h => exact h
theorem Rep.weak {w : World} {G : Gh} {L : Nat → Value} {n : Nat} {x y : AV E.S} {v : Value} (h : Rep E w G L n x v) (hxy : Weak x y) : Rep E w G L n y v := by
  cases hxy with
  | refl => exact h
  | full e l f =>
    cases h with
    | sn => exact .sn e false
    | se _ a _ => exact .se e a false
    | sl _ _ _ b off cap vals hc hf h1 h2 => exact .sl e l false b off cap vals hc (fun h => by cases h) h1 h2
  | nil e => cases h; exact .sn e false
  | op0 e => cases h; exact .op0 e
  | op1 e x => exact .op1 e x v h
  | so0 e => cases h; exact .so0 e
  | so1 e l f => exact .so1 e l v (h.full_ f)
  | so2 e o => exact h.so_inv
structure Env.Ok (E : Env) : Prop where
  len : ∀ e x, (E.cells e x).length = E.P.cellsOf e
  cell : ∀ e x c, c ∈ E.cells e x → c.isCell = true ∧ idsV c = []
  pack : ∀ e cs x, E.pack e cs = some x → cs.length = (E.cells e x).length ∧ ∀ (j : Nat) c c', cs[j]? = some c → (E.cells e x)[j]? = some c' → Weak c c'
  mixed : E.P.follows .mixedOrders = true
  glob : ∀ g x, E.glob g = some x → idsV x = []
  byt : ∀ e s l, E.byt e s = some l → E.P.underlying e = some (.int .u8) ∧ E.P.cellsOf e = 1 ∧ l.length = s.size ∧ ∀ i x, l[i]? = some x → E.cells e x = [.v (.int .u8 ((s.data.toList.getD i 0).toNat : Int))]
  nums : ∀ e l xs, E.nums e l = some xs → E.P.underlying e = some (.int .u8) ∧ xs.length = l.length ∧ ∀ (i : Nat) x n, l[i]? = some x → xs[i]? = some n → E.cells e x = [.v (.int .u8 n)]
  plain : ∀ t, E.plain t = true → E.P.stoodInHeld t = false ∧ E.P.eqGuardType E.P.depth t = false
  flat : ∀ e, E.flat e = true → ∀ x, (E.cells e x).all isV = true
  lk : ∀ e j e1, E.lk e j = some e1 → ∀ y l, (E.pack e ((E.cells e y).set j (.sl e1 l false))).isSome = true
structure ui4 (E : Env) (w : World) (G : Gh) (L : Nat → Value) (n : Nat) (c e : Nat) (l : List (E.S e)) (sh : Bool) (b off cap : Nat) : Prop where
  loc : L c = .slice (some ⟨b, off, none⟩) l.length cap
  le : l.length ≤ cap
  cells : ∀ i x j cc, l[i]? = some x → (E.cells e x)[j]? = some cc → ∃ v, w.cell? ⟨b, off + i * E.P.cellsOf e + j, none⟩ = some v ∧ Rep E w G L n cc v
  own : (cap = l.length ∧ (sh = true ∨ l = []) ∧ ∀ o, off ≤ o → o < off + l.length * E.P.cellsOf e → Imm G b o) ∨
    (∃ u, G b = some (some c, u) ∧ (sh = true → u = off + l.length * E.P.cellsOf e) ∧ (sh = false → u = 0) ∧ ∀ o, off ≤ o → o < off + cap * E.P.cellsOf e → (w.cell? ⟨b, o, none⟩).isSome = true ∧ w.frozen? ⟨b, o, none⟩ = false)
inductive ui3 (E : Env) (w : World) (G : Gh) (L : Nat → Value) (n : Nat) (c : Nat) (k : PK) (e : Nat) (l : List (k.T × E.S e)) : Prop
 | mk (l0 : List (k.T × E.S e)) (b : Nat) (es : Array MapEntry) (clock : Nat) (hl : L c = .map (some b)) (hg : G b = some (some c, 0)) (hh : w.heap[b]? = some (.map es clock)) (he : es.toList.map (·.key) = l0.map fun p => k.val p.1) (hv : ∀ (i : Nat) p en X, l0[i]? = some p → es.toList[i]? = some en → vm5 E e p.2 = some X → Rep E w G L n X en.val) (hq : ∀ x, aget k.eqb l0 x = aget k.eqb l x) : ui3 E w G L n c k e l
inductive ub2 (E : Env) (w : World) (G : Gh) (L : Nat → Value) (n : Nat) (c : Nat) : Box E.S → Prop
 | var (t : Nat) (cs : List (AV E.S)) (b : Nat) (hl : L c = .pointer (some ⟨b, 0, none⟩)) (hg : G b = some (some c, 0))
    (h : ∀ (j : Nat) x, cs[j]? = some x → w.frozen? ⟨b, j, none⟩ = false ∧ ∃ v, w.cell? ⟨b, j, none⟩ = some v ∧ v.oneCell' = true ∧ Rep E w G L n x v) : ub2 E w G L n c (.var t cs)
 | nil (e : Nat) (sh : Bool) (o : Option Addr) (hl : L c = .slice o 0 0) : ub2 E w G L n c (.row e [] sh)
 | row (e : Nat) (l : List (E.S e)) (sh : Bool) (b off cap : Nat) (h : ui4 E w G L n c e l sh b off cap) : ub2 E w G L n c (.row e l sh)
 | un (hl : L c = .bool false) : ub2 E w G L n c .un
 | mp (k : PK) (e : Nat) (l : List (k.T × E.S e)) (h : ui3 E w G L n c k e l) : ub2 E w G L n c (.mp k e l)
 | mv (k : IntKind) (e : Nat) (cs : List (AV E.S)) (hc : ∀ x ∈ cs, ∃ o, x = .op e o) (h : ui3 E w G L n c (.int k) e (uj7 e 0 cs)) : ub2 E w G L n c (.mv k e cs)
 | iter (s : ByteArray) (pos b : Nat) (hl : L c = .pointer (some ⟨b, 0, none⟩)) (hg : G b = some (some c, 0)) (hh : w.heap[b]? = some (.stringIter s pos)) : ub2 E w G L n c (.iter s pos)
 | lk (e : Nat) (l : List (E.S e)) (i j : Nat) (x : AV E.S) (b off cap : Nat) (hl : L c = .slice (some ⟨b, off, none⟩) l.length cap) (hle : l.length ≤ cap) (hij : ∃ y, l[i]? = some y ∧ j < (E.cells e y).length) (hg : G b = some (some c, 0))
    (hc : ∀ k y o cc, l[k]? = some y → (uj1 E e i j x k y)[o]? = some cc → ∃ v, w.cell? ⟨b, off + k * E.P.cellsOf e + o, none⟩ = some v ∧ v.oneCell' = true ∧ Rep E w G L n cc v)
    (hw : ∀ o, off ≤ o → o < off + cap * E.P.cellsOf e → (w.cell? ⟨b, o, none⟩).isSome = true ∧ w.frozen? ⟨b, o, none⟩ = false) : ub2 E w G L n c (.lk e l i j x)
structure ue7 (E : Env) (w : World) (G : Gh) (L : Nat → Value) (st : St E.S) (tmps : Array Value) : Prop where
  slots : ∀ i, Rep E w G L st.n (st.s i) (tmps.getD i undef)
  size : st.z ≤ tmps.size
  boxes : ∀ c bx, st.b c = some bx → c < st.n ∧ ub2 E w G L st.n c bx
  own : ∀ b c u, G b = some (c, u) → b < w.heap.size ∧ ∀ k, c = some k → k < st.n
  one : ∀ c, c < st.n → (L c).oneCell' = true
  glob : ∀ g x, E.glob g = some x → Rep E w G L st.n x (.pointer (some ⟨g, 0, none⟩))
end Go.Proofs.YtaennkkcnhfglaaGreatDoor.Ev
