/- A part of the proof. -/
import Derived.Test.YtaennkkcnhfglaaGreatDoorSEvCode
set_option linter.unusedVariables false
set_option linter.unusedSimpArgs false
namespace Go.Proofs.YtaennkkcnhfglaaGreatDoor.Ev
open Go.RowKit
variable {E : Env} {R : Type}
structure Rd (E : Env) (α : Type) where
  rd : AV E.S → Option α
  wt : α → AV E.S
  ok : ∀ x a, rd x = some a → x = wt a
structure RdL (E : Env) (α : Type) where
  rd : List (AV E.S) → Option α
  wt : α → List (AV E.S)
  ok : ∀ x a, rd x = some a → x = wt a
structure RdB (E : Env) (α : Type) where
  rd : Option (Box E.S) → Option α
  wt : α → Box E.S
  ok : ∀ x a, rd x = some a → x = some (wt a)
structure RdBL (E : Env) (α : Type) where
  rd : List (Option (Box E.S)) → Option α
  wt : α → List (Box E.S)
  ok : ∀ x a, rd x = some a → x = (wt a).map some
def Rd.int (k : IntKind) : Rd E Int := ⟨fun x => match x with | .v (.int k' n) => bif decide (k' = k) then some n else none | _ => none, fun n => .v (.int k n), fun x a h => by
  split at h
  · rw [Bool.cond_eq_ite] at h
    split at h
    · rename_i hd
      rw [of_decide_eq_true hd, Option.some.inj h]
    · cases h
  · cases h⟩
def Rd.bool : Rd E Bool := ⟨fun x => match x with | .v (.bool b) => some b | _ => none, fun b => .v (.bool b), fun x a h => by split at h <;> first | (rw [Option.some.inj h]; done) | cases h⟩
def Rd.str : Rd E ByteArray := ⟨fun x => match x with | .v (.string b) => some b | _ => none, fun b => .v (.string b), fun x a h => by split at h <;> first | (rw [Option.some.inj h]; done) | cases h⟩
def Rd.er : Rd E Bool := ⟨fun x => match x with | .er b => some b | _ => none, fun b => .er b, fun x a h => by split at h <;> first | (rw [Option.some.inj h]; done) | cases h⟩
def Rd.nl : Rd E Unit := ⟨fun x => match x with | .nl => some () | _ => none, fun _ => .nl, fun x a h => by split at h <;> first | rfl | cases h⟩
def Rd.sl (e : Nat) (f : Bool) : Rd E (List (E.S e)) := ⟨fun x => match x with | .sl e' l f' => if h : e' = e then (bif decide (f' = f) then some (h ▸ l) else none) else none | _ => none, fun l => .sl e l f, fun x a h => by
  split at h
  · split at h
    · rename_i he
      subst he
      rw [Bool.cond_eq_ite] at h
      split at h
      · rename_i hd
        rw [← Option.some.inj h, of_decide_eq_true hd]
      · cases h
    · cases h
  · cases h⟩
def Rd.el (e off : Nat) : Rd E (E.S e) := ⟨fun x => match x with | .el e' y off' => if h : e' = e then (bif Nat.beq off' off then some (h ▸ y) else none) else none | _ => none, fun y => .el e y off, fun x a h => by
  split at h
  · split at h
    · rename_i he
      subst he
      rw [Bool.cond_eq_ite] at h
      split at h
      · rename_i hd
        rw [← Option.some.inj h, Nat.eq_of_beq_eq_true hd]
      · cases h
    · cases h
  · cases h⟩
def Rd.ar (e : Nat) : Rd E (List (E.S e)) := ⟨fun x => match x with | .ar e' l => if h : e' = e then some (h ▸ l) else none | _ => none, fun l => .ar e l, fun x a h => by
  split at h
  · split at h
    · rename_i he
      subst he
      rw [← Option.some.inj h]
    · cases h
  · cases h⟩
def Rd.op (e : Nat) : Rd E (Option (E.S e)) := ⟨fun x => match x with | .op e' o => if h : e' = e then some (h ▸ o) else none | _ => none, fun o => .op e o, fun x a h => by
  split at h
  · split at h
    · rename_i he
      subst he
      rw [← Option.some.inj h]
    · cases h
  · cases h⟩
def Rd.so (e : Nat) : Rd E (Option (List (E.S e))) := ⟨fun x => match x with | .so e' o => if h : e' = e then some (h ▸ o) else none | _ => none, fun o => .so e o, fun x a h => by
  split at h
  · split at h
    · rename_i he
      subst he
      rw [← Option.some.inj h]
    · cases h
  · cases h⟩
def Rd.bp (c off : Nat) : Rd E Unit := ⟨fun x => match x with | .bp c' off' => bif Nat.beq c' c && Nat.beq off' off then some () else none | _ => none, fun _ => .bp c off, fun x a h => by
  split at h
  · rw [Bool.cond_eq_ite] at h
    split at h
    · rename_i hd
      rw [Bool.and_eq_true] at hd
      rw [Nat.eq_of_beq_eq_true hd.1, Nat.eq_of_beq_eq_true hd.2]
    · cases h
  · cases h⟩
def Rd.rp (c e off : Nat) : Rd E Int := ⟨fun x => match x with | .rp c' e' k off' => bif Nat.beq c' c && (Nat.beq e' e && Nat.beq off' off) then some k else none | _ => none, fun k => .rp c e k off, fun x a h => by
  split at h
  · rw [Bool.cond_eq_ite] at h
    split at h
    · rename_i hd
      simp only [Bool.and_eq_true] at hd
      rw [Nat.eq_of_beq_eq_true hd.1, Nat.eq_of_beq_eq_true hd.2.1, Nat.eq_of_beq_eq_true hd.2.2, Option.some.inj h]
    · cases h
  · cases h⟩
def Rd.rw (c : Nat) : Rd E Unit := ⟨fun x => match x with | .rw c' => bif Nat.beq c' c then some () else none | _ => none, fun _ => .rw c, fun x a h => by
  split at h
  · rw [Bool.cond_eq_ite] at h
    split at h
    · rename_i hd
      rw [Nat.eq_of_beq_eq_true hd]
    · cases h
  · cases h⟩
def Rd.ws (c e : Nat) : Rd E (Nat × Nat) := ⟨fun x => match x with | .ws c' e' p => bif Nat.beq c' c && Nat.beq e' e then some p else none | _ => none, fun p => .ws c e p, fun x a h => by
  split at h
  · rw [Bool.cond_eq_ite] at h
    split at h
    · rename_i hd
      rw [Bool.and_eq_true] at hd
      obtain rfl := Option.some.inj h
      rw [Nat.eq_of_beq_eq_true hd.1, Nat.eq_of_beq_eq_true hd.2]
    · cases h
  · cases h⟩
def Rd.fn {α : Type} (f : Nat) (r : RdL E α) : Rd E α := ⟨fun x => match x with | .fn f' cs => bif Nat.beq f' f then r.rd cs else none | _ => none, fun a => .fn f (r.wt a), fun x a h => by
  split at h
  · rw [Bool.cond_eq_ite] at h
    split at h
    · rename_i hd
      rw [Nat.eq_of_beq_eq_true hd, r.ok _ _ h]
    · cases h
  · cases h⟩
def Rd.agg {α : Type} (r : RdL E α) : Rd E α := ⟨fun x => match x with | .agg cs => r.rd cs | _ => none, fun a => .agg (r.wt a), fun x a h => by
  split at h
  · rw [r.ok _ _ h]
  · cases h⟩
def RdL.nil : RdL E Unit := ⟨fun l => match l with | [] => some () | _ => none, fun _ => [], fun x a h => by split at h <;> first | rfl | cases h⟩
def RdL.cons {α β : Type} (r : Rd E α) (l : RdL E β) : RdL E (α × β) := ⟨fun x => match x with | y :: ys => (match r.rd y, l.rd ys with | some a, some b => some (a, b) | _, _ => none) | _ => none, fun p => r.wt p.1 :: l.wt p.2, fun x a h => by
  split at h
  · split at h
    · rename_i h1 h2
      rw [← Option.some.inj h, r.ok _ _ h1, l.ok _ _ h2]
    · cases h
  · cases h⟩
def RdB.var {α : Type} (t : Nat) (r : RdL E α) : RdB E α := ⟨fun x => match x with | some (.var t' cs) => bif Nat.beq t' t then r.rd cs else none | _ => none, fun a => .var t (r.wt a), fun x a h => by
  split at h
  · rw [Bool.cond_eq_ite] at h
    split at h
    · rename_i hd
      rw [Nat.eq_of_beq_eq_true hd, r.ok _ _ h]
    · cases h
  · cases h⟩
def RdB.row (e : Nat) (sh : Bool) : RdB E (List (E.S e)) := ⟨fun x => match x with | some (.row e' l sh') => if h : e' = e then (bif decide (sh' = sh) then some (h ▸ l) else none) else none | _ => none, fun l => .row e l sh, fun x a h => by
  split at h
  · split at h
    · rename_i he
      subst he
      rw [Bool.cond_eq_ite] at h
      split at h
      · rename_i hd
        rw [← Option.some.inj h, of_decide_eq_true hd]
      · cases h
    · cases h
  · cases h⟩
def RdB.iter : RdB E (ByteArray × (Nat × Unit)) := ⟨fun x => match x with | some (.iter s p) => some (s, p, ()) | _ => none, fun a => .iter a.1 a.2.1, fun x a h => by
  split at h
  · obtain rfl := Option.some.inj h; rfl
  · cases h⟩
def PK.dec : (a b : PK) → Option (PLift (a = b))
 | .int a, .int b => if h : a = b then some ⟨by rw [h]⟩ else none
 | .str, .str => some ⟨rfl⟩
 | .bool, .bool => some ⟨rfl⟩
 | _, _ => none
def RdB.lk (e j m : Nat) : RdB E (List (E.S e) × Nat) := ⟨fun x => match x with | some (.lk e' l i j' (.rw m')) => if h : e' = e then (bif Nat.beq j' j && Nat.beq m' m then some (h ▸ l, i) else none) else none | _ => none, fun p => .lk e p.1 p.2 j (.rw m), fun x a h => by
  split at h
  · split at h
    · rename_i he
      subst he
      rw [Bool.cond_eq_ite] at h
      split at h
      · rename_i hd
        simp only [Bool.and_eq_true] at hd
        rw [← Option.some.inj h, Nat.eq_of_beq_eq_true hd.1, Nat.eq_of_beq_eq_true hd.2]
      · cases h
    · cases h
  · cases h⟩
def RdB.mp (k : PK) (e : Nat) : RdB E (List (k.T × E.S e)) := ⟨fun x => match x with | some (.mp k' e' l) => (match PK.dec k' k with | some ⟨h1⟩ => if h2 : e' = e then some (h1 ▸ h2 ▸ l) else none | _ => none) | _ => none, fun l => .mp k e l, fun x a h => by
  split at h
  · rename_i k' v' l
    split at h
    · rename_i h1 _
      split at h
      · rename_i h2
        subst h1 h2
        rw [← Option.some.inj h]
      · cases h
    · cases h
  · cases h⟩
def RdBL.nil : RdBL E Unit := ⟨fun l => match l with | [] => some () | _ => none, fun _ => [], fun x a h => by split at h <;> first | rfl | cases h⟩
def RdBL.cons {α β : Type} (r : RdB E α) (l : RdBL E β) : RdBL E (α × β) := ⟨fun x => match x with | y :: ys => (match r.rd y, l.rd ys with | some a, some b => some (a, b) | _, _ => none) | _ => none, fun p => r.wt p.1 :: l.wt p.2, fun x a h => by
  split at h
  · split at h
    · rename_i h1 h2
      rw [← Option.some.inj h, r.ok _ _ h1, l.ok _ _ h2]
      rfl
    · cases h
  · cases h⟩
def u44 {S : Nat → Type} (i : Nat) : List Nat → List (AV S) → AV S
 | j :: js, x :: xs => bif Nat.beq i j then x else u44 i js xs
 | _, _ => .dead
def mkSt (z : Nat) (slots : List Nat) (xs : List (AV E.S)) (bs : List (Box E.S)) : St E.S := { s := fun i => u44 i slots xs, b := fun k => bs[k]?, n := bs.length, z := z }
def ut4 (b : Nat → Option (Box E.S)) : Nat → List (Option (Box E.S))
 | 0 => []
 | n + 1 => b 0 :: ut4 (fun k => b (k + 1)) n
theorem ux6 {b : Nat → Option (Box E.S)} : ∀ {n : Nat} {l : List (Box E.S)}, ut4 b n = l.map some → l.length = n ∧ ∀ k bx, l[k]? = some bx → b k = some bx
 | 0, l, h => by
   have : l = [] := by simpa [ut4] using h.symm
   subst this
   exact ⟨rfl, fun k bx h => by simp at h⟩
 | n + 1, [], h => by simp [ut4] at h
 | n + 1, y :: l, h => by
   simp only [ut4, List.map_cons, List.cons.injEq] at h
   obtain ⟨h1, h2⟩ := ux6 h.2
   refine ⟨by simp [h1], fun k bx hk => ?_⟩
   cases k with
   | zero => simp at hk; rw [h.1, hk]
   | succ k => exact h2 k bx (by simpa using hk)
theorem uS5 {S : Nat → Type} (s : Nat → AV S) (i : Nat) : ∀ (js : List Nat), u44 i js (js.map s) = .dead ∨ u44 i js (js.map s) = s i
 | [] => .inl rfl
 | j :: js => by
   simp only [List.map_cons, u44]
   cases hb : Nat.beq i j with
   | true => exact .inr (by rw [Nat.eq_of_beq_eq_true hb]; rfl)
   | false => exact uS5 s i js
structure Plc (E : Env) (Pt : Type) where
  q : Nat
  live : Live
  {α β : Type}
  rl : RdL E α
  rb : RdBL E β
  to : α → β → Pt
def decq : Nat → Nat → List Bool
 | 0, _ => []
 | f + 1, q => bif Nat.ble q 1 then [] else Nat.beq (q % 2) 1 :: decq f (q / 2)
def Plc.rs {Pt : Type} (p : Plc E Pt) : List Bool := decq 500 p.q
def Plc.J {Pt : Type} (z : Nat) (p : Plc E Pt) (run : Pt → Option R) (st : St E.S) : Option R :=
  bif !Nat.beq st.z z then none else
  match p.rl.rd (p.live.slots.map st.s), p.rb.rd (ut4 st.b st.n) with
  | some a, some b => run (p.to a b)
  | _, _ => none
theorem Plc.read {Pt : Type} {p : Plc E Pt} {run : Pt → Option R} {z : Nat} {st : St E.S} {r : R} (h : p.J z run st = some r) : ∃ a b, run (p.to a b) = some r ∧ Less (mkSt z p.live.slots (p.rl.wt a) (p.rb.wt b)) st := by
  unfold Plc.J at h
  rw [Bool.cond_eq_ite] at h
  split at h
  · cases h
  rename_i hz
  have hz : st.z = z := Nat.eq_of_beq_eq_true (by simpa using hz)
  split at h
  · rename_i a b h1 h2
    refine ⟨a, b, h, ?_⟩
    have e1 := p.rl.ok _ _ h1
    obtain ⟨e2, e3⟩ := ux6 (p.rb.ok _ _ h2)
    refine ⟨fun i => ?_, fun c bx hc => e3 c bx hc, e2, hz.symm⟩
    simp only [mkSt]
    rw [← e1]
    exact uS5 st.s i _
  · cases h
def vC9 {Pt : Type} : List (Plc E Pt) → Nat → Option (Plc E Pt)
 | [], _ => none
 | p :: l, q => bif Nat.beq p.q q then some p else vC9 l q
theorem uR0 {Pt : Type} : ∀ {l : List (Plc E Pt)} {q : Nat} {p : Plc E Pt}, vC9 l q = some p → p ∈ l ∧ p.q = q
 | [], _, _, h => by cases h
 | p :: l, q, p', h => by
   unfold vC9 at h
   rw [Bool.cond_eq_ite] at h
   split at h
   · rename_i hb
     obtain rfl := Option.some.inj h
     exact ⟨List.mem_cons_self .., Nat.eq_of_beq_eq_true hb⟩
   · obtain ⟨h1, h2⟩ := uR0 h
     exact ⟨List.mem_cons_of_mem _ h1, h2⟩
def tbOf {Pt : Type} (z : Nat) (l : List (Plc E Pt)) (run : Pt → Option R) : Tb E R := fun q => match vC9 l q with | some p => some ⟨p.live, p.J z run⟩ | none => none
def vR0 (st : St E.S) : ResultVar → Option (AV E.S)
 | .tmp t => some (st.s t)
 | .cell a t => match st.s a with | .bp c off => ue8 E t (boxCells (st.b c)) off | _ => none
def resL (st : St E.S) : List ResultVar → Option (List (AV E.S))
 | [] => some []
 | v :: l => match vR0 st v, resL st l with | some x, some xs => some (x :: xs) | _, _ => none
def one {S : Nat → Type} : List (AV S) → AV S
 | [x] => x
 | l => .tup l
structure Res (E : Env) (α β : Type) where
  rows : List (Nat × Nat) := []
  flat : List (Nat × Nat) := []
  keep : Nat := 0
  deep : List (Bool × Nat × Nat × Nat) := []
  up : List (Bool × Nat × Nat × Nat) := []
  done : List Nat := []
  ptrs : List (Nat × Nat) := []
  rl : RdL E α
  rb : RdBL E β
def Res.fin {α β : Type} (p : Res E α β) (rv : Array ResultVar) : Ex → St E.S → Option (α × β)
 | .exit _, _ => none
 | _, st =>
   match resL st rv.toList with
   | none => none
   | some xs =>
     let st' := canon ⟨upTo 0 xs.length, p.rows, p.flat, p.keep, p.deep, p.up, p.done, p.ptrs, []⟩ { s := fun i => xs.getD i .dead, b := st.b, n := st.n, z := xs.length }
     match p.rl.rd ((upTo 0 xs.length).map st'.s), p.rb.rd (ut4 st'.b st'.n) with
     | some a, some b => some (a, b)
     | _, _ => none
def Res.av {α β : Type} (p : Res E α β) (r : α × β) : AV E.S := one (p.rl.wt r.1)
def Res.bx {α β : Type} (p : Res E α β) (r : α × β) : List (Box E.S) := p.rb.wt r.2
theorem vj3 {w : World} {G : Gh} {L : Nat → Value} {st : St E.S} {ts : Array Value} (h : ue7 E w G L st ts) {c b : Nat} (hL : L c = .pointer (some ⟨b, 0, none⟩)) : uD6 E w G L st.n b 0 (boxCells (st.b c)) := by
  cases hb : st.b c with
  | none => intro j x hj; simp [boxCells] at hj
  | some bx =>
    obtain ⟨_, hbx⟩ := h.boxes c bx hb
    cases hbx with
    | var t cs b' hl hg hcs =>
      rw [hL] at hl
      obtain rfl : b = b' := by simpa using hl
      intro j x hj
      obtain ⟨_, v, h1, h2, h3⟩ := hcs j x hj
      exact ⟨v, by rw [Nat.zero_add]; exact h1, h2, h3⟩
    | nil e sh o hl => intro j x hj; simp [boxCells] at hj
    | un hl => intro j x hj; simp [boxCells] at hj
    | iter s pos b' hl hg hh => intro j x hj; simp [boxCells] at hj
    | mp k v l h => intro j x hj; simp [boxCells] at hj
    | mv k v cs hc h => intro j x hj; simp [boxCells] at hj
    | row e l sh b' off cap hr => intro j x hj; simp [boxCells] at hj
    | lk => intro j x hj; simp [boxCells] at hj
def vg2 (ts : Array Value) (v : ResultVar) : Sem Value := match v with | .tmp t => pure (ts.getD t undef) | .cell a t => do loadVar t (← asAddr (ts.getD a undef))
theorem vl6 (fn : Func) (ts : Array Value) : results fn ts = (do let vs ← fn.results.mapM (vg2 ts); pure (if h : vs.size = 1 then vs[0] else .tuple vs)) := rfl
theorem u80 {w : World} {G : Gh} {L : Nat → Value} {st : St E.S} {ts : Array Value} (h : ue7 E w G L st ts) {v : ResultVar} {x : AV E.S} (hx : vR0 st v = some x) :
    ∃ u, (vg2 ts v).run E.P w = .ok u w ∧ Rep E w G L st.n x u := by
  cases v with
  | tmp t =>
    obtain rfl := Option.some.inj hx
    exact ⟨_, rfl, h.slots t⟩
  | cell a t =>
    simp only [vR0] at hx
    split at hx
    · rename_i c off ha
      have hs := h.slots a
      rw [ha] at hs
      obtain ⟨b, hv, hL⟩ : ∃ b, ts.getD a undef = .pointer (some ⟨b, off, none⟩) ∧ L c = .pointer (some ⟨b, 0, none⟩) := by
        generalize ts.getD a undef = u at hs
        cases hs with
        | bp _ _ b hc h => exact ⟨b, rfl, h⟩
      obtain ⟨u, h1, h2⟩ := u23 (vj3 h hL) hx
      rw [Nat.zero_add] at h1
      refine ⟨u, ?_, h2⟩
      simp only [vg2, hv]
      simpa [Instr.loadAt, Instr.sureAddr, asAddr] using h1
    · cases hx
theorem uR8 {w : World} {G : Gh} {L : Nat → Value} {st : St E.S} {ts : Array Value} (h : ue7 E w G L st ts) : ∀ (l : List ResultVar) {xs : List (AV E.S)}, resL st l = some xs →
    ∃ us : List Value, (l.mapM (vg2 ts)).run E.P w = .ok us w ∧ xs.length = us.length ∧ ∀ (i : Nat) x u, xs[i]? = some x → us[i]? = some u → Rep E w G L st.n x u
 | [], xs, hx => by
   obtain rfl := Option.some.inj hx
   exact ⟨[], by simp, rfl, fun i x u h => by simp at h⟩
 | v :: l, xs, hx => by
   unfold resL at hx
   split at hx
   · rename_i x xs' h1 h2
     obtain rfl := Option.some.inj hx
     obtain ⟨u, h3, h4⟩ := u80 h h1
     obtain ⟨us, h5, h6, h7⟩ := uR8 h l h2
     refine ⟨u :: us, ?_, by simp [h6], fun i y z hi hj => ?_⟩
     · rw [List.mapM_cons]
       simp only [Sem.run_bind, h3, Result.andThen_ok, h5, Sem.run_pure]
     · cases i with
       | zero => simp at hi hj; subst hi hj; exact h4
       | succ i => exact h7 i y z (by simpa using hi) (by simpa using hj)
   · cases hx
theorem u81 {w : World} {G : Gh} {L : Nat → Value} {st : St E.S} {ts : Array Value} (h : ue7 E w G L st ts) (fn : Func) {xs : List (AV E.S)} (hx : resL st fn.results.toList = some xs) :
    ∃ us : List Value, (results fn ts).run E.P w = .ok (match us with | [u] => u | us => .tuple us.toArray) w ∧ xs.length = us.length ∧ ∀ (i : Nat) x u, xs[i]? = some x → us[i]? = some u → Rep E w G L st.n x u := by
  obtain ⟨us, h1, h2, h3⟩ := uR8 h _ hx
  refine ⟨us, ?_, h2, h3⟩
  rw [vl6, Array.mapM_eq_mapM_toList]
  simp only [map_eq_pure_bind, Sem.run_bind, Sem.run_pure]
  rw [h1]
  simp only [Result.andThen_ok, Sem.run_pure]
  match us with
  | [] => rfl
  | [u] => rfl
  | u :: v :: us => rfl
def Post (E : Env) (fn : Func) (w0 : World) (G0 : Org) (y : AV E.S) (bx : List (Box E.S)) : Exit → Act → World → Prop :=
  bodyPost E.P fn fun e w' => ∃ v, e = .returned v ∧ ∃ G' L, uA4 E w0 G0.g y bx v w' G' L ∧ G0.k ≤ bx.length ∧ ∀ i, i < G0.k → L i = G0.l i
theorem vX4 (hE : E.Ok) {w0 : World} {G0 : Org} {α β : Type} (p : Res E α β) (hk0 : p.keep = G0.k) (fn : Func) (r : α × β) : KOk E w0 G0 r (p.fin fn.results) (Post E fn w0 G0 (p.av r) (p.bx r)) := by
  intro ex st a w hk hI
  have key : (match resL st fn.results.toList with
   | none => none
   | some xs =>
     match p.rl.rd ((upTo 0 xs.length).map (canon ⟨upTo 0 xs.length, p.rows, p.flat, p.keep, p.deep, p.up, p.done, p.ptrs, []⟩ { s := fun i => xs.getD i .dead, b := st.b, n := st.n, z := xs.length }).s), p.rb.rd (ut4 (canon ⟨upTo 0 xs.length, p.rows, p.flat, p.keep, p.deep, p.up, p.done, p.ptrs, []⟩ { s := fun i => xs.getD i .dead, b := st.b, n := st.n, z := xs.length }).b (canon ⟨upTo 0 xs.length, p.rows, p.flat, p.keep, p.deep, p.up, p.done, p.ptrs, []⟩ { s := fun i => xs.getD i .dead, b := st.b, n := st.n, z := xs.length }).n) with
     | some a, some b => some (a, b)
     | _, _ => none) = some r → a.defers = [] ∧ ∃ v, (results fn a.tmps).run E.P w = .ok v w ∧ ∃ v', Ending.returned v = .returned v' ∧ ∃ G' L, uA4 E w0 G0.g (p.av r) (p.bx r) v' w G' L ∧ G0.k ≤ (p.bx r).length ∧ ∀ i, i < G0.k → L i = G0.l i := by
    clear hk
    intro hk
    obtain ⟨G, L, hI⟩ := hI
    split at hk
    · cases hk
    · rename_i xs hxs
      split at hk
      · rename_i ra rb h1 h2
        obtain rfl := Option.some.inj hk
        obtain ⟨us, h3, h4, h5⟩ := u81 hI.st fn hxs
        refine ⟨hI.df, _, h3, _, rfl, ?_⟩
        have hI1 : Inv E w0 G0 { s := fun i => xs.getD i .dead, b := st.b, n := st.n, z := xs.length } { tmps := us.toArray, defers := [] } w G L := by
          refine ⟨⟨fun i => ?_, by simp [h4], hI.st.boxes, hI.st.own, hI.st.one, hI.st.glob⟩, hI.fr, rfl, hI.kp⟩
          simp only
          by_cases hi : i < xs.length
          · have e1 : xs.getD i .dead = xs[i] := by simp [List.getD, hi]
            have e2 : us.toArray.getD i undef = us[i]'(by omega) := by simp [Array.getD, show i < us.length by omega]
            rw [e1, e2]
            exact h5 i _ _ (List.getElem?_eq_getElem hi) (List.getElem?_eq_getElem (by omega))
          · have e1 : xs.getD i .dead = .dead := by simp [List.getD, hi]
            rw [e1]; exact .dead _
        obtain ⟨G2, L2, hI2⟩ := uJ7 hE hI1 ⟨upTo 0 xs.length, p.rows, p.flat, p.keep, p.deep, p.up, p.done, p.ptrs, []⟩ hk0
        generalize canon ⟨upTo 0 xs.length, p.rows, p.flat, p.keep, p.deep, p.up, p.done, p.ptrs, []⟩ { s := fun i => xs.getD i .dead, b := st.b, n := st.n, z := xs.length } = st2 at h1 h2 hI2
        have e1 := p.rl.ok _ _ h1
        obtain ⟨e2, e3⟩ := ux6 (p.rb.ok _ _ h2)
        refine ⟨G2, L2, ⟨hI2.fr, fun b c u hg => ?_, ?_, fun k x hk => ?_, fun k hk => ?_⟩, by unfold Res.bx; rw [e2]; exact hI2.kp.1, hI2.kp.2.1⟩
        · obtain ⟨k1, k2⟩ := hI2.st.own b c u hg
          exact ⟨k1, fun k hk => by unfold Res.bx; rw [e2]; exact k2 k hk⟩
        ·
          unfold Res.av Res.bx
          simp only
          rw [e2, ← e1]
          have hrep : ∀ (i : Nat) x u, ((upTo 0 xs.length).map st2.s)[i]? = some x → us[i]? = some u → Rep E w G2 L2 st2.n x u := by
            intro i x u hx hu
            rw [List.getElem?_map] at hx
            have hil : i < us.length := (List.getElem?_eq_some_iff.1 hu).1
            rw [uD5 _ _ _ (by omega)] at hx
            simp only [Option.map_some, Nat.zero_add, Option.some.injEq] at hx
            have := hI2.st.slots i
            have e4 : us.toArray.getD i undef = u := by
              have := (List.getElem?_eq_some_iff.1 hu).2
              simp [Array.getD, hil, this]
            simp only at this
            rw [e4, hx] at this
            exact this
          have hlen : ((upTo 0 xs.length).map st2.s).length = us.length := by rw [List.length_map, vh3, h4]
          match hys : (upTo 0 xs.length).map st2.s, us, hlen, hrep with
          | [], [], _, _ => exact .tup [] [] rfl (fun i x y h => by simp at h)
          | [x], [u], _, hr => exact hr 0 x u rfl rfl
          | x :: y :: l, u :: v :: vs, hl, hr => exact .tup _ (u :: v :: vs) hl hr
        · unfold Res.bx
          rw [e2]
          exact (hI2.st.boxes k x (e3 k x hk)).2
        · unfold Res.bx at hk
          rw [e2] at hk
          exact hI2.st.one k hk
      · cases hk
  cases ex with
  | norm => exact key hk
  | ret => exact key hk
  | exit id => cases hk
def Good (E : Env) (fn : Func) (code : Code) (k : Nat) (y : AV E.S) (bx : List (Box E.S)) (rs : List Bool) (st : St E.S) : Prop :=
  ∀ w0 G0, G0.k = k → ∀ c' Q', Sub E.P code (Post E fn w0 G0 y bx) rs c' Q' → ∀ a w, uT0 E w0 G0 st a w → c'.wp E.P Q' a w
theorem vP2 (hE : E.Ok) {Pt α β : Type} {fn : Func} {code : Code} {z k : Nat} {l : List (Plc E Pt)} {p : Res E α β} (hk : p.keep = k) {spec : Spec E.S} (hS : ul9 E spec) {wr : Wr} {run' : Pt → Option (α × β)} (hl : ∀ q ∈ l, enc q.rs = q.q ∧ q.live.keep = k)
    (ih : ∀ q ∈ l, ∀ x y r, run' (q.to x y) = some r → Good E fn code k (p.av r) (p.bx r) q.rs (mkSt z q.live.slots (q.rl.wt x) (q.rb.wt y))) {rs0 : List Bool} {st0 : St E.S} {r : α × β} (h : vg3 spec wr (tbOf z l run') code (p.fin fn.results) rs0 st0 = some r) : Good E fn code k (p.av r) (p.bx r) rs0 st0 := by
  intro w0 G0 hG0 c' Q' hs a w hI
  refine vt3 hE hS (tb := tbOf z l run') (Q0 := Post E fn w0 G0 (p.av r) (p.bx r)) ?_ (vX4 hE p (hk.trans hG0.symm) fn r) hs h hI
  intro rs c hc
  unfold tbOf at hc
  split at hc
  · rename_i pl hf
    obtain rfl := Option.some.inj hc
    obtain ⟨hm, hq⟩ := uR0 hf
    refine ⟨(hl pl hm).2.trans hG0.symm, fun st hj a w hI c' Q' hs => ?_⟩
    have hrs : pl.rs = rs := u62 (by rw [(hl pl hm).1, hq])
    obtain ⟨x, y, h1, h2⟩ := Plc.read hj
    have := ih pl hm _ _ _ h1 w0 G0 hG0 c' Q'
    rw [hrs] at this
    refine this hs a w ?_
    obtain ⟨G, L, hI⟩ := hI
    exact ⟨G, L, hI.less h2⟩
  · cases hc
theorem v82 (hE : E.Ok) {f : Nat} {fn : Func} {code : Code} (hf : E.P.funcs[f]? = some fn) (hb : fn.body = some code) (hnm : (fn.name == "runtime.NumGoroutine") = false) {xs : List (AV E.S)} {bs : List (Box E.S)} {k : Nat} (hk : k ≤ bs.length) {y : AV E.S} {bx : List (Box E.S)} (h : Good E fn code k y bx [] (st0 fn.ntmps xs bs)) : FnOk E f xs bs k y bx := by
  intro w G L0 vs hg
  refine ⟨.enter f vs.toArray, w, ?_, .inl ⟨rfl, ?_⟩⟩
  · unfold callFunc
    have hnm' : ¬ fn.name = "runtime.NumGoroutine" := by simpa using hnm
    simp [hf, hnm', hb]
  · refine calls_of_wp hf hb (h w ⟨G, L0, k⟩ rfl code _ .root _ _ ⟨G, L0, ⟨⟨fun i => ?_, ?_, fun c bx hc => ?_, hg.own, hg.one, hg.glob⟩, .refl _ _, rfl, ⟨hk, fun _ _ => rfl, hg.held⟩⟩⟩)
    · simp only [st0]
      by_cases hi : i < xs.length
      · have hi2 : i < vs.length := by rw [← hg.args.len]; exact hi
        have e1 : xs.getD i .dead = xs[i] := by simp [List.getD, hi]
        have e2 : (vs.toArray ++ Array.replicate (fn.ntmps - vs.toArray.size) undef).getD i undef = vs[i] := by
          rw [Array.getD_eq_getD_getElem?, Array.getElem?_append_left (by simpa using hi2)]
          simp [hi2]
        rw [e1, e2]
        exact hg.args.rep i _ _ (List.getElem?_eq_getElem hi) (List.getElem?_eq_getElem hi2)
      · have e1 : xs.getD i .dead = .dead := by simp [List.getD, hi]
        rw [e1]; exact .dead _
    · simp only [st0, Array.size_append, Array.size_replicate]; omega
    · exact ⟨(List.getElem?_eq_some_iff.1 hc).1, hg.box c bx hc⟩
end Go.Proofs.YtaennkkcnhfglaaGreatDoor.Ev
