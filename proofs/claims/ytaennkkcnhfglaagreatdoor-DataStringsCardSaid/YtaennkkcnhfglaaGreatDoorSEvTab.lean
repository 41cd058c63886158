/- A part of the proof. -/
import Derived.Test.YtaennkkcnhfglaaGreatDoorSEvCon
set_option linter.unusedVariables false
set_option linter.unusedSimpArgs false
namespace Go.Proofs.YtaennkkcnhfglaaGreatDoor.Ev
def uT1 {S : Nat → Type} (xs ys : List (AV S)) : Prop := xs.length = ys.length ∧ ∀ (i : Nat) x y, xs[i]? = some x → ys[i]? = some y → Weak x y
theorem uT1.nil {S : Nat → Type} : uT1 ([] : List (AV S)) [] := ⟨rfl, fun i x y h => by simp at h⟩
theorem uT1.one {S : Nat → Type} {x y : AV S} (h : Weak x y) : uT1 [x] [y] := ⟨rfl, fun i a b ha hb => by
  cases i with
  | zero => simp at ha hb; subst ha hb; exact h
  | succ i => simp at ha⟩
theorem uT1.app {S : Nat → Type} {xs ys xs' ys' : List (AV S)} (h : uT1 xs ys) (k : uT1 xs' ys') : uT1 (xs ++ xs') (ys ++ ys') := by
  refine ⟨by simp [h.1, k.1], fun i a b ha hb => ?_⟩
  rw [List.getElem?_append] at ha hb
  by_cases hi : i < xs.length
  · rw [if_pos hi] at ha
    rw [if_pos (h.1 ▸ hi)] at hb
    exact h.2 i a b ha hb
  · rw [if_neg hi] at ha
    rw [if_neg (h.1 ▸ hi), ← h.1] at hb
    exact k.2 _ a b ha hb
structure Pk (S : Nat → Type) (α : Type) where
  len : Nat
  rd : List (AV S) → Option α
  wt : α → List (AV S)
  hlen : ∀ a, (wt a).length = len
  cell : ∀ a c, c ∈ wt a → c.isCell = true ∧ idsV c = []
  ok : ∀ x a, rd x = some a → uT1 x (wt a)
variable {S : Nat → Type}
def Pk.int (k : IntKind) : Pk S Int := ⟨1, fun l => match l with | [.v (.int k' n)] => bif decide (k' = k) then some n else none | _ => none, fun n => [.v (.int k n)], fun _ => rfl, fun a c hc => by
  obtain rfl := List.mem_singleton.1 hc
  exact ⟨rfl, rfl⟩, fun x a h => by
  split at h
  · rw [Bool.cond_eq_ite] at h
    split at h
    · rename_i hd
      rw [of_decide_eq_true hd, Option.some.inj h]
      exact .one (.refl _)
    · cases h
  · cases h⟩
def Pk.bool : Pk S Bool := ⟨1, fun l => match l with | [.v (.bool b)] => some b | _ => none, fun n => [.v (.bool n)], fun _ => rfl, fun a c hc => by
  obtain rfl := List.mem_singleton.1 hc
  exact ⟨rfl, rfl⟩, fun x a h => by
  split at h
  · rw [Option.some.inj h]; exact .one (.refl _)
  · cases h⟩
def Pk.err : Pk S Bool := ⟨1, fun l => match l with | [.er b] => some b | _ => none, fun n => [.er n], fun _ => rfl, fun a c hc => by
  obtain rfl := List.mem_singleton.1 hc
  exact ⟨rfl, rfl⟩, fun x a h => by
  split at h
  · rw [Option.some.inj h]; exact .one (.refl _)
  · cases h⟩
def Pk.str : Pk S ByteArray := ⟨1, fun l => match l with | [.v (.string b)] => some b | _ => none, fun n => [.v (.string n)], fun _ => rfl, fun a c hc => by
  obtain rfl := List.mem_singleton.1 hc
  exact ⟨rfl, rfl⟩, fun x a h => by
  split at h
  · rw [Option.some.inj h]; exact .one (.refl _)
  · cases h⟩
def Pk.sl (e : Nat) : Pk S (List (S e)) := ⟨1, fun l => match l with | [.nl] => some [] | [.sl e' l f'] => if h : e' = e then some (h ▸ l) else none | _ => none, fun l => [.sl e l false], fun _ => rfl, fun a c hc => by
  obtain rfl := List.mem_singleton.1 hc
  exact ⟨rfl, rfl⟩, fun x a h => by
  split at h
  · rw [← Option.some.inj h]; exact .one (.nil e)
  · split at h
    · rename_i he
      subst he
      rw [← Option.some.inj h]
      exact .one (.full _ _ _)
    · cases h
  · cases h⟩
def Pk.op (e : Nat) : Pk S (Option (S e)) := ⟨1, fun l => match l with | [.op e' o] => (if h : e' = e then some (h ▸ o) else none) | [.el e' y 0] => (if h : e' = e then some (some (h ▸ y)) else none) | [.v (.pointer none)] => some none | _ => none, fun o => [.op e o], fun _ => rfl, fun a c hc => by
  obtain rfl := List.mem_singleton.1 hc
  exact ⟨rfl, rfl⟩, fun x a h => by
  split at h
  · split at h
    · rename_i he
      subst he
      rw [← Option.some.inj h]
      exact .one (.refl _)
    · cases h
  · split at h
    · rename_i he
      subst he
      rw [← Option.some.inj h]
      exact .one (.op1 _ _)
    · cases h
  · rw [← Option.some.inj h]; exact .one (.op0 e)
  · cases h⟩
def Pk.so (e : Nat) : Pk S (Option (List (S e))) := ⟨1, fun l => match l with | [.nl] => some none | [.sl e' l f'] => (if h : e' = e then some (some (h ▸ l)) else none) | [.so e' o] => (if h : e' = e then some (h ▸ o) else none) | _ => none, fun o => [.so e o], fun _ => rfl, fun a c hc => by
  obtain rfl := List.mem_singleton.1 hc
  exact ⟨rfl, rfl⟩, fun x a h => by
  split at h
  · rw [← Option.some.inj h]; exact .one (.so0 e)
  · split at h
    · rename_i he
      subst he
      rw [← Option.some.inj h]
      exact .one (.so1 _ _ _)
    · cases h
  · split at h
    · rename_i he
      subst he
      rw [← Option.some.inj h]
      exact .one (.refl _)
    · cases h
  · cases h⟩
def Pk.unit : Pk S Unit := ⟨0, fun l => match l with | [] => some () | _ => none, fun _ => [], fun _ => rfl, fun a c hc => by simp at hc, fun x a h => by
  split at h
  · exact .nil
  · cases h⟩
def Pk.cons {α β : Type} (p : Pk S α) (q : Pk S β) : Pk S (α × β) := ⟨p.len + q.len, fun l => match p.rd (l.take p.len), q.rd (l.drop p.len) with | some a, some b => some (a, b) | _, _ => none, fun x => p.wt x.1 ++ q.wt x.2, fun a => by rw [List.length_append, p.hlen, q.hlen], fun a c hc => by
  rcases List.mem_append.1 hc with h | h
  · exact p.cell _ c h
  · exact q.cell _ c h, fun x a h => by
  split at h
  · rename_i h1 h2
    rw [← Option.some.inj h, ← List.take_append_drop p.len x]
    exact (p.ok _ _ h1).app (q.ok _ _ h2)
  · cases h⟩
def Pk.iso {α β : Type} (p : Pk S α) (f : α → β) (g : β → α) (h : ∀ a, g (f a) = a) : Pk S β := ⟨p.len, fun l => (p.rd l).map f, fun x => p.wt (g x), fun a => p.hlen _, fun a c hc => p.cell _ c hc, fun x a hx => by
  obtain ⟨y, h1, rfl⟩ := Option.map_eq_some_iff.1 hx
  rw [h]; exact p.ok _ _ h1⟩
def Pk.no (n : Nat) {α : Type} : Pk S α := ⟨n, fun _ => none, fun _ => List.replicate n .nl, fun _ => List.length_replicate, fun a c hc => by
  obtain rfl := (List.mem_replicate.1 hc).2
  exact ⟨rfl, rfl⟩, fun x a h => by cases h⟩
theorem Pk.no_len (n : Nat) {α : Type} : (Pk.no n : Pk S α).len = n := rfl
@[reducible] def vY0 (P : Program) (S : Nat → Type) (pk : (e : Nat) → Pk S (S e)) (glob : Nat → Option (AV S)) (plain : Nat → Bool) (byt : (e : Nat) → ByteArray → Option (List (S e)) := fun _ _ => none) (nums : (e : Nat) → List (S e) → Option (List Int) := fun _ _ => none) (held : Nat → Option (String × Array Value) := fun _ => none) (ro : Nat → Bool := fun _ => false) (rc : Nat → List Nat := fun _ => []) (fr flat : Nat → Bool := fun _ => false) (lk : Nat → Nat → Option Nat := fun _ _ => none) : Env :=
  { P := P, S := S, cells := fun e x => (pk e).wt x, pack := fun e l => (pk e).rd l, glob := glob, held := held, plain := plain, byt := byt, nums := nums, ro := ro, rc := rc, fr := fr, flat := flat, lk := lk }
theorem vD9 {P : Program} {S : Nat → Type} {pk : (e : Nat) → Pk S (S e)} {glob : Nat → Option (AV S)} {plain : Nat → Bool} {byt : (e : Nat) → ByteArray → Option (List (S e))} {nums : (e : Nat) → List (S e) → Option (List Int)} {held : Nat → Option (String × Array Value)} {ro : Nat → Bool} {rc : Nat → List Nat} {fr flat : Nat → Bool} {lk : Nat → Nat → Option Nat} (hlen : ∀ e, (pk e).len = P.cellsOf e) (hm : P.follows .mixedOrders = true) (hg : ∀ g x, glob g = some x → idsV x = [])
    (hp : ∀ t, plain t = true → P.stoodInHeld t = false ∧ P.eqGuardType P.depth t = false)
    (hb : ∀ e s l, byt e s = some l → P.underlying e = some (.int .u8) ∧ P.cellsOf e = 1 ∧ l.length = s.size ∧ ∀ i x, l[i]? = some x → (pk e).wt x = [.v (.int .u8 ((s.data.toList.getD i 0).toNat : Int))])
    (hn : ∀ e l xs, nums e l = some xs → P.underlying e = some (.int .u8) ∧ xs.length = l.length ∧ ∀ (i : Nat) x n, l[i]? = some x → xs[i]? = some n → (pk e).wt x = [.v (.int .u8 n)])
    (hf : ∀ e, flat e = true → ∀ x, ((pk e).wt x).all isV = true) (hk : ∀ e j e1, lk e j = some e1 → ∀ y l, ((pk e).rd (((pk e).wt y).set j (.sl e1 l false))).isSome = true := by exact fun _ _ _ h => by cases h) : (vY0 P S pk glob plain byt nums held ro rc fr flat lk).Ok where
  len e x := ((pk e).hlen x).trans (hlen e)
  cell e x c hc := (pk e).cell x c hc
  pack e cs x h := by
    obtain ⟨h1, h2⟩ := (pk e).ok cs x h
    exact ⟨h1, h2⟩
  mixed := hm
  glob := hg
  plain := hp
  byt := hb
  nums := hn
  flat := hf
  lk := hk
theorem uO6 (s : ByteArray) : (ua7 s).length = s.size ∧ ∀ i x, (ua7 s)[i]? = some x → x = ((s.data.toList.getD i 0).toNat : Int) := by
  refine ⟨by unfold ua7; rw [List.length_map, Array.length_toList]; rfl, fun i x h => ?_⟩
  unfold ua7 at h
  rw [List.getElem?_map] at h
  obtain ⟨c, h1, rfl⟩ := Option.map_eq_some_iff.1 h
  simp [List.getD, h1]
end Go.Proofs.YtaennkkcnhfglaaGreatDoor.Ev
