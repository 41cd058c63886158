/- A part of the proof. -/
import Derived.Calls
import Derived.Still
import Derived.KernelRfl
import Derived.ChangeKeysEq
import Derived.Laws.Strings
set_option linter.unusedVariables false
namespace Go.Proofs.YtaennkkcnhfglaaGreatDoor.Ev
noncomputable section
inductive AV (S : Nat → Type) : Type
 | v (x : Value)
 | nl
 | sl (e : Nat) (l : List (S e)) (full : Bool)
 | el (e : Nat) (x : S e) (off : Nat)
 | ar (e : Nat) (l : List (S e))
 | bp (c off : Nat)
 | rw (c : Nat)
 | rp (c e : Nat) (i : Int) (off : Nat)
 | ws (c e : Nat) (p : Nat × Nat)
 | fn (f : Nat) (cap : List (AV S))
 | agg (cs : List (AV S))
 | tup (vs : List (AV S))
 | er (some : Bool)
 | op (e : Nat) (o : Option (S e))
 | so (e : Nat) (o : Option (List (S e)))
 | dead
inductive PK | int (k : IntKind) | str | bool
def PK.T : PK → Type
 | .int _ => Int
 | .str => ByteArray
 | .bool => Bool
inductive Box (S : Nat → Type) : Type
 | var (t : Nat) (cs : List (AV S))
 | row (e : Nat) (l : List (S e)) (sh : Bool)
 | un
 | iter (s : ByteArray) (pos : Nat)
 | mp (k : PK) (e : Nat) (l : List (k.T × S e))
 | lk (e : Nat) (l : List (S e)) (i j : Nat) (x : AV S)
 | mv (k : IntKind) (e : Nat) (cs : List (AV S))
structure St (S : Nat → Type) where
  s : Nat → AV S
  b : Nat → Option (Box S)
  n : Nat
  z : Nat
structure Env where
  P : Program
  S : Nat → Type
  cells : (e : Nat) → S e → List (AV S)
  pack : (e : Nat) → List (AV S) → Option (S e)
  glob : Nat → Option (AV S)
  held : Nat → Option (String × Array Value)
  plain : Nat → Bool
  byt : (e : Nat) → ByteArray → Option (List (S e))
  nums : (e : Nat) → List (S e) → Option (List Int)
  ro : Nat → Bool := fun _ => false
  rc : Nat → List Nat := fun _ => []
  fr : Nat → Bool := fun _ => false
  flat : Nat → Bool := fun _ => false
  lk : Nat → Nat → Option Nat := fun _ _ => none
structure Sp (S : Nat → Type) where
  ρ : Type
  k : Nat
  run : Option ρ
  av : ρ → AV S
  bx : ρ → List (Box S)
abbrev Spec (S : Nat → Type) := Nat → List (AV S) → List (Box S) → Option (Sp S)
inductive Out (S : Nat → Type)
 | val (x : AV S)
 | chk (ok : Bool) (x : AV S)
 | run (ρ : Type) (r : Option ρ) (x : ρ → Option (AV S))
 | bad
inductive Ex | norm | ret | exit (id : Nat)
variable {E : Env} {R : Type}
def upd {α : Type} (f : Nat → α) (i : Nat) (x : α) : Nat → α := fun j => bif Nat.beq j i then x else f j
def constCell {S : Nat → Type} : Value → AV S
 | .slice none 0 0 => .nl
 | .int k n => .v (.int k n)
 | .bool b => .v (.bool b)
 | .string s => .v (.string s)
 | .nilIface => .v .nilIface
 | .nilFunc => .v .nilFunc
 | .pointer none => .v (.pointer none)
 | .map none => .v (.map none)
 | _ => .dead
def vP7 : Value → Bool
 | .agg _ | .tuple _ => false
 | _ => true
def constAV {S : Nat → Type} : Value → AV S
 | .agg cs => bif cs.toList.all vP7 then .agg (cs.toList.map constCell) else .dead
 | v => constCell v
def opv (st : St E.S) : Operand → AV E.S
 | .tmp i => st.s i
 | .const v => constAV v
 | .func f => .fn f []
 | .global g => (E.glob g).getD .dead
def u57 (op : BinOp) (k : IntKind) (x y : Int) : Int :=
  match op with
  | .and => k.wrap ((BitVec.ofInt k.bits x &&& BitVec.ofInt k.bits y).toNat)
  | .or => k.wrap ((BitVec.ofInt k.bits x ||| BitVec.ofInt k.bits y).toNat)
  | .xor => k.wrap ((BitVec.ofInt k.bits x ^^^ BitVec.ofInt k.bits y).toNat)
  | _ => k.wrap ((BitVec.ofInt k.bits x &&& ~~~(BitVec.ofInt k.bits y)).toNat)
def bits (op : BinOp) (k : IntKind) : Int → Int → Int
 | .ofNat a, .ofNat b => u57 op k (.ofNat a) (.ofNat b)
 | .ofNat a, .negSucc b => u57 op k (.ofNat a) (.negSucc b)
 | .negSucc a, .ofNat b => u57 op k (.negSucc a) (.ofNat b)
 | .negSucc a, .negSucc b => u57 op k (.negSucc a) (.negSucc b)
theorem vp1 (op : BinOp) (k : IntKind) (x y : Int) : bits op k x y = u57 op k x y := by cases x <;> cases y <;> rfl
def shl (k : IntKind) (x y : Int) : Int := k.wrap (x * 2 ^ min y.toNat k.bits)
def shr (k : IntKind) (x y : Int) : Int := x.fdiv (2 ^ min y.toNat k.bits)
def seq : ByteArray → ByteArray → Bool
 | ⟨a⟩, ⟨b⟩ => a.toList == b.toList
def slt : ByteArray → ByteArray → Bool
 | ⟨a⟩, ⟨b⟩ => Op.bytesLess a.toList b.toList
theorem vI1 (x y : ByteArray) : seq x y = (x.toList == y.toList) := by rw [ByteArray.toList_eq, ByteArray.toList_eq]; rfl
theorem v01 (x y : ByteArray) : slt x y = Op.bytesLess x.toList y.toList := by rw [ByteArray.toList_eq, ByteArray.toList_eq]; rfl
def u18 (op : BinOp) (k : IntKind) (a b : Int) : Out E.S :=
  match op with
  | .add => .val (.v (.int k (k.wrap (a + b))))
  | .sub => .val (.v (.int k (k.wrap (a - b))))
  | .mul => .val (.v (.int k (k.wrap (a * b))))
  | .quo => .chk (!(b == 0)) (.v (.int k (k.wrap (a.tdiv b))))
  | .rem => .chk (!(b == 0)) (.v (.int k (a.tmod b)))
  | .and | .or | .xor | .andNot => .val (.v (.int k (bits op k a b)))
  | .shl => .chk (decide (0 ≤ b)) (.v (.int k (shl k a b)))
  | .shr => .chk (decide (0 ≤ b)) (.v (.int k (shr k a b)))
  | .eql => .val (.v (.bool (a == b)))
  | .neq => .val (.v (.bool (a != b)))
  | .lss => .val (.v (.bool (decide (a < b))))
  | .leq => .val (.v (.bool (decide (a ≤ b))))
  | .gtr => .val (.v (.bool (decide (a > b))))
  | .geq => .val (.v (.bool (decide (a ≥ b))))
def vu2 (op : BinOp) (a b : ByteArray) : Out E.S :=
  match op with
  | .add => .chk (Nat.ble (a.size + b.size) 9223372036854775807) (.v (.string (a ++ b)))
  | .eql => .val (.v (.bool (seq a b)))
  | .neq => .val (.v (.bool (!seq a b)))
  | .lss => .val (.v (.bool (slt a b)))
  | .leq => .val (.v (.bool (slt a b || seq a b)))
  | .gtr => .val (.v (.bool (!(slt a b || seq a b))))
  | .geq => .val (.v (.bool (!slt a b)))
  | _ => .bad
def ue8 (E : Env) (t : Nat) (cs : List (AV E.S)) (off : Nat) : Option (AV E.S) :=
  match E.P.underlying t with
  | some (.struct _) | some (.array _ _) => bif Nat.beq ((cs.drop off).take (E.P.cellsOf t)).length (E.P.cellsOf t) then some (.agg ((cs.drop off).take (E.P.cellsOf t))) else none
  | some _ => cs[off]?
  | none => none
def eqFs (E : Env) (eq : Nat → AV E.S → AV E.S → Option Bool) (xs ys : List (AV E.S)) : List Field → Option Bool
 | [] => some true
 | f :: fs =>
   bif f.name == "_" then none else
   match ue8 E f.type xs f.offset, ue8 E f.type ys f.offset with
   | some p, some q => match eq f.type p q, eqFs E eq xs ys fs with | some u, some r => some (u && r) | _, _ => none
   | _, _ => none
def vC6 (E : Env) (eq : Nat → AV E.S → AV E.S → Option Bool) (xs ys : List (AV E.S)) (e : Nat) : List Nat → Option Bool
 | [] => some true
 | i :: is =>
   match ue8 E e xs (i * E.P.cellsOf e), ue8 E e ys (i * E.P.cellsOf e) with
   | some p, some q => match eq e p q, vC6 E eq xs ys e is with | some u, some r => some (u && r) | _, _ => none
   | _, _ => none
def eqAV (E : Env) : Nat → Nat → AV E.S → AV E.S → Option Bool
 | 0, _, _, _ => none
 | d + 1, t, x, y =>
   match E.P.underlying t, x, y with
   | some .bool, .v (.bool a), .v (.bool b) => some (a == b)
   | some (.int _), .v (.int k a), .v (.int k' b) => bif decide (k = k') then some (a == b) else none
   | some .string, .v (.string a), .v (.string b) => some (seq a b)
   | some (.struct fs), .agg xs, .agg ys => bif E.plain t then eqFs E (eqAV E d) xs ys fs.toList else none
   | some (.array n e), .agg xs, .agg ys => bif E.plain t && (E.P.info? e).isSome then vC6 E (eqAV E d) xs ys e (List.range n) else none
   | _, _, _ => none
def u04 (E : Env) (op : BinOp) (t : Nat) (x y : AV E.S) : Out E.S :=
  match x, y with
  | .v (.int k a), .v (.int k' b) =>
    match op with
    | .shl | .shr => u18 op k a b
    | _ => bif decide (k = k') then u18 op k a b else .bad
  | .v (.string a), .v (.string b) => vu2 op a b
  | .v (.bool a), .v (.bool b) =>
    match op with
    | .eql => match eqAV E 20 t (.v (.bool a)) (.v (.bool b)) with | some b => .val (.v (.bool b)) | none => .bad
    | .neq => match eqAV E 20 t (.v (.bool a)) (.v (.bool b)) with | some b => .val (.v (.bool (!b))) | none => .bad
    | _ => .bad
  | .agg xs, .agg ys =>
    bif !E.plain t then .bad else
    match op with
    | .eql => match eqAV E 20 t (.agg xs) (.agg ys) with | some b => .val (.v (.bool b)) | none => .bad
    | .neq => match eqAV E 20 t (.agg xs) (.agg ys) with | some b => .val (.v (.bool (!b))) | none => .bad
    | _ => .bad
  | _, _ => .bad
def vS2 (op : UnOp) : AV E.S → Out E.S
 | .v (.int k n) => match op with | .neg => .val (.v (.int k (k.wrap (0 - n)))) | .xor => .val (.v (.int k (bits .xor k (if k.signed then -1 else k.max) n))) | _ => .bad
 | .v (.bool b) => match op with | .not => .val (.v (.bool (!b))) | _ => .bad
 | _ => .bad
def idx {α : Type} (l : List α) (i : Int) : Option α := if 0 ≤ i then l[i.toNat]? else none
def sidx (s : ByteArray) (i : Int) : Option Int := if 0 ≤ i then (s.data.toList[i.toNat]?).map fun c => (c.toNat : Int) else none
def span (n : Nat) (lo hi : Int) : Option (Nat × Nat) := if 0 ≤ lo ∧ lo ≤ hi ∧ hi ≤ (n : Int) then some (lo.toNat, hi.toNat) else none
def cut {α : Type} (l : List α) (p : Nat × Nat) : List α := (l.take p.2).drop p.1
def ua7 (s : ByteArray) : List Int := s.data.toList.map fun c => (c.toNat : Int)
def ug2 (l : List Int) : ByteArray := ⟨(l.map fun n => UInt8.ofNat n.toNat).toArray⟩
def uj1 (E : Env) (e i j : Nat) (x : AV E.S) (k : Nat) (y : E.S e) : List (AV E.S) := bif Nat.beq k i then (E.cells e y).set j x else E.cells e y
def boxCells : Option (Box E.S) → List (AV E.S)
 | some (.var _ cs) => cs
 | _ => []
structure Sl (S : Nat → Type) where
  e : Nat
  l : List (S e)
def uO1 (b : Nat → Option (Box E.S)) : AV E.S → Option (Sl E.S)
 | .sl e l _ => some ⟨e, l⟩
 | .rw c => match b c with | some (.row e l true) => some ⟨e, l⟩ | _ => none
 | _ => none
def uv2 (b : Nat → Option (Box E.S)) (e : Nat) : AV E.S → Option (Sl E.S)
 | .nl => some ⟨e, []⟩
 | x => uO1 b x
def ul4 (b : Nat → Option (Box E.S)) : AV E.S → AV E.S
 | .rw c => match b c with | some (.row e l true) => .sl e l false | _ => .rw c
 | x => x
def uh6 (b : Nat → Option (Box E.S)) : AV E.S → AV E.S
 | .agg cs => .agg (cs.map (ul4 b))
 | x => ul4 b x
def vm2 (b : Nat → Option (Box E.S)) : AV E.S → Option (Sl E.S)
 | .sl e l _ => some ⟨e, l⟩
 | .rw c => match b c with | some (.row e l _) => some ⟨e, l⟩ | _ => none
 | _ => none
def vm3 (b : Nat → Option (Box E.S)) : AV E.S → Option (Nat × Sl E.S)
 | .rw c => match b c with | some (.row e l false) => some (c, ⟨e, l⟩) | _ => none
 | _ => none
def ve6 (E : Env) (e : Nat) : Option (Sl E.S) → Out E.S
 | some ⟨e', l⟩ => bif Nat.beq e' e then (match E.nums e' l with | some xs => .val (.v (.string (ug2 xs))) | none => .bad) else .bad
 | none => .bad
def uL3 (E : Env) (b : Nat → Option (Box E.S)) (t : Nat) : AV E.S → Out E.S
 | .bp c off => match ue8 E t (boxCells (b c)) off with | some x => .val x | none => .bad
 | .el e x off => match ue8 E t (E.cells e x) off with | some x => .val x | none => .bad
 | .rp c e i off =>
   match b c with
   | some (.row e' l _) => bif Nat.beq e e' then .run (E.S e') (idx l i) fun x => ue8 E t (E.cells e' x) off else .bad
   | some (.lk e' l i' j z) => bif Nat.beq e e' then .run (E.S e') (if i = (i' : Int) then l[i']? else none) fun x => ue8 E t ((E.cells e' x).set j z) off else .bad
   | _ => .bad
 | _ => .bad
def setCells {α : Type} (cs : List α) (off : Nat) (new : List α) : List α := cs.take off ++ new ++ cs.drop (off + new.length)
def cellsOf {S : Nat → Type} : AV S → List (AV S)
 | .agg cs => cs
 | x => [x]
def okC {S : Nat → Type} : AV S → Bool
 | .tup _ | .dead => false
 | _ => true
def uL9 (E : Env) (e : Nat) : List (AV E.S) → Option (List (E.S e))
 | [] => some []
 | x :: l => match E.pack e (cellsOf x), uL9 E e l with | some y, some ys => some (y :: ys) | _, _ => none
def zeroCells (E : Env) (t : Nat) : Option (List (AV E.S)) :=
  match E.P.info? t with
  | some i => match i.zero with | some z => bif okC (constAV (S := E.S) z) then some (cellsOf (constAV z)) else none | none => none
  | none => none
def uo6 : List (AV E.S) → List (Option (Nat × Nat) × AV E.S) → Option (List (AV E.S))
 | cs, [] => some cs
 | cs, (some (off, size), x) :: l => bif okC x && Nat.beq (cellsOf x).length size then (bif Nat.ble (off + size) cs.length then uo6 (setCells cs off (cellsOf x)) l else none) else none
 | _, (none, _) :: _ => none
def uy3 : Nat → List (Nat × Operand) → Bool
 | _, [] => true
 | k, (i, _) :: l => bif Nat.beq i k then uy3 (k + 1) l else false
def vQ3 (E : Env) (t : Nat) (y : Operand) (x : AV E.S) : Option Bool :=
  match E.P.underlying t, y, x with
  | some (.interface _), .const .nilIface, .v .nilIface => some true
  | some (.pointer _), .const (.pointer none), .v (.pointer none) => some true
  | some (.pointer _), .const (.pointer none), .bp _ _ => some false
  | some (.pointer _), .const (.pointer none), .el _ _ _ => some false
  | some (.func _ _ _), .const .nilFunc, .v .nilFunc => some true
  | some (.func _ _ _), .const .nilFunc, .fn _ _ => some false
  | some (.slice _), .const (.slice none 0 0), .nl => some true
  | some (.interface _), .const .nilIface, .er b => some (!b)
  | some (.pointer _), .const (.pointer none), .op _ o => some o.isNone
  | _, _, _ => none
def vS0 {α : Type} : Option (List α) → Option Bool
 | none => some true
 | some (_ :: _) => some false
 | some [] => none
def vF9 (E : Env) (t : Nat) (y : Operand) : AV E.S → Option Bool
 | .sl e l f => match E.P.underlying t, y with | some (.slice _), .const (.slice none 0 0) => some (!l.isEmpty) | _, _ => none
 | _ => none
def vG1 (E : Env) (t : Nat) (y : Operand) : AV E.S → Option (Option Bool)
 | .so e o => match E.P.underlying t, y with | some (.slice _), .const (.slice none 0 0) => some (vS0 o) | _, _ => none
 | _ => none
def u56 (E : Env) (op : BinOp) (t : Nat) (y : Operand) (vx vy : AV E.S) : Out E.S :=
  match op, vQ3 E t y vx with
  | .eql, some b => .val (.v (.bool b))
  | .neq, some b => .val (.v (.bool (!b)))
  | .eql, none => match vG1 E t y vx with | some r => .run Bool r (fun b => some (.v (.bool b))) | none => match vF9 E t y vx with | some b => .chk b (.v (.bool false)) | none => u04 E .eql t vx vy
  | .neq, none => match vG1 E t y vx with | some r => .run Bool r (fun b => some (.v (.bool (!b)))) | none => match vF9 E t y vx with | some b => .chk b (.v (.bool true)) | none => u04 E .neq t vx vy
  | op, _ => u04 E op t vx vy
def uQ3 (E : Env) (t : Nat) : Option (Nat × Nat) :=
  match E.P.underlying t with
  | some (.array len e) => bif Nat.blt 16 len && (Nat.beq (E.P.cellsOf e) 1 && (E.P.info? e).isSome) then some (len, e) else none
  | _ => none
def uO8 (E : Env) (b : Nat → Option (Box E.S)) (e : Nat) : AV E.S → Out E.S
 | .ws c e1 p =>
   match b c with
   | some (.row e2 l _) =>
     bif Nat.beq e1 e2 && Nat.beq e2 e then (match E.nums e2 (cut l p) with | some xs => .chk (Nat.ble p.2 l.length) (.v (.string (ug2 xs))) | none => .bad) else .bad
   | _ => .bad
 | _ => .bad
def ue4 (E : Env) (spec : Spec E.S) (st : St E.S) (o : Oper) : Out E.S :=
  let ρ := opv (E := E) st
  match o.op with
  | .move x | .assign x => .val (ρ x)
  | .pick c a b => match ρ c with | .v (.bool true) => .val (ρ a) | .v (.bool false) => .val (ρ b) | _ => .bad
  | .binOp op t x y _ => u56 E op t y (ρ x) (ρ y)
  | .unOp op _ x => vS2 op (ρ x)
  | .nilCheck x => match ρ x with | .el e y off => .val (.el e y off) | .ar e l => .val (.ar e l) | .bp c off => .val (.bp c off) | .rp c e i off => .val (.rp c e i off) | .op e o => .run (E.S e) o fun y => some (.el e y 0) | _ => .bad
  | .load t a => uL3 E st.b t (ρ a)
  | .build t parts =>
    match zeroCells E t, E.P.underlying t with
    | some z, some (.struct fs) =>
      match fs.toList.mapM (fun f => (E.P.info? f.type).map fun i => (f.offset, i.size)) with
      | some places => match uo6 z ((parts.toList.map fun p => (p.1, ρ p.2)).map fun p => (places.toArray[p.1]?, p.2)) with | some cs => .val (.agg cs) | none => .bad
      | none => .bad
    | some z, some (.array _ e) => bif !(E.P.info? e).isSome then .bad else match uo6 z ((parts.toList.map fun p => (p.1, ρ p.2)).map fun p => (some (p.1 * E.P.cellsOf e, E.P.cellsOf e), p.2)) with | some cs => .val (.agg cs) | none => .bad
    | _, _ => .bad
  | .buildSlice t n parts =>
    match E.P.underlying t with
    | some (.slice e) => bif (zeroCells E e).isSome && (uy3 0 parts.toList && Nat.beq parts.toList.length n && Nat.ble (n * E.P.cellsOf e) 16777216) then (match uL9 E e (parts.toList.map fun p => uh6 st.b (ρ p.2)) with | some l => .val (.sl e l true) | none => .bad) else .bad
    | _ => .bad
  | .fieldAddr s x f =>
    match E.P.underlying s with
    | some (.struct fs) =>
      match fs[f]? with
      | some fd =>
        bif Nat.beq (E.P.cellsOf fd.type) 0 then .bad else
        match ρ x with
        | .bp c off => .val (.bp c (off + fd.offset))
        | .el e y off => .val (.el e y (off + fd.offset))
        | .rp c e i off => .val (.rp c e i (off + fd.offset))
        | _ => .bad
      | none => .bad
    | _ => .bad
  | .field t x f =>
    match E.P.underlying t, ρ x with
    | some (.struct fs), .agg cs => match fs[f]? with | some fd => (match ue8 E fd.type cs fd.offset with | some y => .val y | none => .bad) | none => .bad
    | _, _ => .bad
  | .indexAddr t x i =>
    match E.P.underlying t, ρ x, ρ i with
    | some (.slice e'), .sl e l _, .v (.int _ n) => bif Nat.beq e' e && (E.P.info? e).isSome then .run (E.S e) (idx l n) fun y => some (.el e y 0) else .bad
    | some (.slice e'), .so e o, .v (.int _ n) => bif Nat.beq e' e && (E.P.info? e).isSome then .run (E.S e) (idx (o.getD []) n) fun y => some (.el e y 0) else .bad
    | some (.slice e'), .ws c e p, .v (.int _ n) => bif Nat.beq e' e && (E.P.info? e).isSome then .chk (decide (0 ≤ n) && decide (n < ((p.2 - p.1 : Nat) : Int))) (.rp c e ((p.1 : Int) + n) 0) else .bad
    | some (.slice e'), .rw c, .v (.int _ n) => match st.b c with | some (.row e l _) => bif Nat.beq e' e && (E.P.info? e).isSome then .chk (decide (0 ≤ n) && decide (n < (l.length : Int))) (.rp c e n 0) else .bad | _ => .bad
    | some (.array len e'), .ar e l, .v (.int _ n) => bif Nat.beq e' e && (Nat.beq len l.length && (E.P.info? e).isSome) then .run (E.S e) (idx l n) fun y => some (.el e y 0) else .bad
    | some (.array len e'), .rp c e k off, .v (.int _ n) => bif Nat.beq e' e && ((E.P.info? e).isSome && (decide (k = 0) && Nat.beq off 0)) then .chk (decide (0 ≤ n) && decide (n < (len : Int))) (.rp c e n 0) else .bad
    | some (.array len e), .bp c off, .v (.int _ (.ofNat n)) => bif Nat.blt n len && (E.P.info? e).isSome then .val (.bp c (off + n * E.P.cellsOf e)) else .bad
    | some (.array len e), .el e' y off, .v (.int _ (.ofNat n)) => bif Nat.blt n len && (E.P.info? e).isSome then .val (.el e' y (off + n * E.P.cellsOf e)) else .bad
    | _, _, _ => .bad
  | .index t x i =>
    match E.P.underlying t, ρ x, ρ i with
    | some .string, .v (.string s), .v (.int _ n) => .run Int (sidx s n) fun c => some (.v (.int .u8 c))
    | some (.array len e), .agg cs, .v (.int _ (.ofNat n)) => bif Nat.blt n len && (E.P.info? e).isSome then (match ue8 E e cs (n * E.P.cellsOf e) with | some y => .val y | none => .bad) else .bad
    | _, _, _ => .bad
  | .slice t x lo (some hi) (some mx) =>
    match E.P.underlying t with
    | some (.slice e') =>
      match uv2 st.b e' (ρ x), (lo.map ρ).getD (.v (.int .i64 0)), ρ hi, ρ mx with
      | some ⟨e, xs⟩, .v (.int _ l), .v (.int _ h), .v (.int _ m) =>
        bif !(Nat.beq e' e && (E.P.info? e).isSome) then .bad else .run (Nat × Nat) (bif decide (h = m) then span xs.length l h else none) fun p => some (.sl e (cut xs p) true)
      | _, _, _, _ => .bad
    | _ => .bad
  | .slice t x lo hi none =>
    match E.P.underlying t with
    | some .string =>
      match ρ x, (lo.map ρ).getD (.v (.int .i64 0)) with
      | .v (.string s), .v (.int _ l) =>
        match (hi.map ρ).getD (.v (.int .i64 (s.size : Int))) with
        | .v (.int _ h) => .run (Nat × Nat) (span s.size l h) fun p => some (.v (.string (s.extract p.1 p.2)))
        | _ => .bad
      | _, _ => .bad
    | some (.slice e') =>
      match uO1 st.b (ρ x), (lo.map ρ).getD (.v (.int .i64 0)) with
      | some ⟨e, xs⟩, .v (.int _ l) =>
        bif !(Nat.beq e' e && (E.P.info? e).isSome) then .bad else
        match (hi.map ρ).getD (.v (.int .i64 (xs.length : Int))) with
        | .v (.int _ h) => .run (Nat × Nat) (span xs.length l h) fun p => some (.sl e (cut xs p) false)
        | _ => .bad
      | _, .v (.int _ l) =>
        match vm3 st.b (ρ x) with
        | some ⟨c, ⟨e, xs⟩⟩ =>
          bif !(Nat.beq e' e && (E.P.info? e).isSome) then .bad else
          (match (hi.map ρ).getD (.v (.int .i64 (xs.length : Int))) with
          | .v (.int _ h) => .run (Nat × Nat) (span xs.length l h) fun p => some (.ws c e p)
          | _ => .bad)
        | none => .bad
      | _, _ => .bad
    | some (.array len e') =>
      match ρ x, (lo.map ρ).getD (.v (.int .i64 0)) with
      | .ar e xs, .v (.int _ l) =>
        bif !(Nat.beq e' e && (Nat.beq len xs.length && (E.P.info? e).isSome)) then .bad else
        match (hi.map ρ).getD (.v (.int .i64 (xs.length : Int))) with
        | .v (.int _ h) => .run (Nat × Nat) (span xs.length l h) fun p => some (.sl e (cut xs p) false)
        | _ => .bad
      | .rp c e k off, .v (.int _ l) =>
        bif !(Nat.beq e' e && ((E.P.info? e).isSome && (decide (k = 0) && Nat.beq off 0))) then .bad else
        match (hi.map ρ).getD (.v (.int .i64 (len : Int))) with
        | .v (.int _ h) => .run (Nat × Nat) (span len l h) fun p => some (.ws c e p)
        | _ => .bad
      | _, _ => .bad
    | _ => .bad
  | .convert src dst x =>
    match E.P.underlying src, E.P.underlying dst, ρ x with
    | some _, some (.int k), .v (.int _ n) => .val (.v (.int k (k.wrap n)))
    | some _, some .string, .v (.int _ n) => .val (.v (.string (Utf8.encode n)))
    | some (.string), some .string, .v (.string s) => .val (.v (.string s))
    | some _, some (.slice e), .v (.string s) => (match E.byt e s with | some l => .val (.sl e l false) | none => .bad)
    | some (.slice e), some .string, .ws c e1 p => uO8 E st.b e (.ws c e1 p)
    | some (.slice e), some .string, y => ve6 E e (vm2 st.b y)
    | _, _, _ => .bad
  | .extract x i => match ρ x with | .tup vs => (match vs[i]? with | some y => .val y | none => .bad) | _ => .bad
  | .makeFunc (.func f) first caps => bif Nat.beq first.toList.length 0 then .val (.fn f (caps.toList.map ρ)) else .bad
  | .call c =>
    match c.callee, c.args.toList.map ρ, c.argTypes.toList with
    | .builtin .len, [x], [t] =>
      match E.P.underlying t, x with
      | some .string, .v (.string s) => .val (.v (.int .i64 (s.size : Int)))
      | some (.slice _), .nl => .val (.v (.int .i64 0))
      | some (.slice _), .ws _ _ p => .val (.v (.int .i64 ((p.2 - p.1 : Nat) : Int)))
      | some (.slice _), .sl _ l _ => .val (.v (.int .i64 (l.length : Int)))
      | some (.slice _), .so _ o => .val (.v (.int .i64 ((o.getD []).length : Int)))
      | some (.slice _), .rw c => match st.b c with | some (.row _ l _) => .val (.v (.int .i64 (l.length : Int))) | _ => .bad
      | _, _ => .bad
    | .builtin .min, [.v (.int k a), .v (.int _ b)], _ => .val (.v (.int k (if b < a then b else a)))
    | .builtin .max, [.v (.int k a), .v (.int _ b)], _ => .val (.v (.int k (if b > a then b else a)))
    | _, _, _ => .bad
  | _ => .bad
mutual
def mapV {S : Nat → Type} (ρ : Nat → Option Nat) : AV S → AV S
 | .bp c off => match ρ c with | some d => .bp d off | none => .dead
 | .rw c => match ρ c with | some d => .rw d | none => .dead
 | .rp c e i off => match ρ c with | some d => .rp d e i off | none => .dead
 | .ws c e p => match ρ c with | some d => .ws d e p | none => .dead
 | .fn f cs => .fn f (mapL ρ cs)
 | .agg cs => .agg (mapL ρ cs)
 | .tup cs => .tup (mapL ρ cs)
 | .v x => .v x
 | .nl => .nl
 | .sl e l f => .sl e l f
 | .el e x o => .el e x o
 | .ar e l => .ar e l
 | .er b => .er b
 | .op e o => .op e o
 | .so e o => .so e o
 | .dead => .dead
def mapL {S : Nat → Type} (ρ : Nat → Option Nat) : List (AV S) → List (AV S)
 | [] => []
 | x :: l => mapV ρ x :: mapL ρ l
end
def mapB {S : Nat → Type} (ρ : Nat → Option Nat) : Box S → Box S
 | .var t cs => .var t (mapL ρ cs)
 | .row e l sh => .row e l sh
 | .un => .un
 | .iter s p => .iter s p
 | .mp k e l => .mp k e l
 | .lk e l i j x => .lk e l i j (mapV ρ x)
 | .mv k e cs => .mv k e cs
def uD3 {S : Nat → Type} (k : Nat) (x : AV S) : AV S := mapV (fun c => some (k + c)) x
def up2 {S : Nat → Type} (b : Nat → Option (Box S)) (k : Nat) (l : List (Box S)) : Nat → Option (Box S) :=
  fun i => bif Nat.blt i k then b i else match l[i - k]? with | some x => some (mapB (fun c => some (k + c)) x) | none => b i
def bytesOf (E : Env) (e : Nat) : Nat := E.P.bytesOf e
def putS (st : St E.S) (i : Nat) (x : AV E.S) : Nat → AV E.S := upd st.s i (bif Nat.blt i st.z then x else .dead)
def putO (st : St E.S) (d : Option Nat) (x : AV E.S) : Nat → AV E.S := match d with | some i => putS st i x | none => st.s
def put (st : St E.S) (d : Option Nat) (x : AV E.S) : St E.S := match d with | some i => { st with s := putS st i x } | none => st
def ui0 (st : St E.S) (d : Option Nat) (x : Out E.S) (κ : St E.S → Option R) : Option R :=
  match x with
  | .val x => κ (put st d x)
  | .chk ok x => if ok = true then κ (put st d x) else none
  | .run _ r x => r >>= fun y => match x y with | some a => κ (put st d a) | none => none
  | .bad => none
def vF5 (P : Program) (t : Nat) : Bool :=
  match P.underlying t with
  | some .bool | some (.int _) | some .string => true
  | _ => false
def vt6 (P : Program) (f : Nat) : Bool :=
  match P.funcs[f]? with
  | some fn => fn.resultTypes.toList.all (vF5 P)
  | none => false
def ud1 (E : Env) (f : Nat) : Bool := vt6 E.P f || E.fr f
def isV {S : Nat → Type} : AV S → Bool
 | .v _ => true
 | _ => false
def vD0 {S : Nat → Type} : AV S → Bool
 | .v _ | .rw _ | .nl => true
 | _ => false
def vq8 {S : Nat → Type} : AV S → Bool
 | .agg cs => cs.all vD0
 | x => vD0 x
def vq7 {S : Nat → Type} : AV S → Bool
 | .tup vs => vs.all vq8
 | x => vq8 x
def vk4 (E : Env) : Box E.S → Bool
 | .row e _ false => E.flat e
 | _ => false
def un8 (b : Nat → Option (Box E.S)) (borrow : Bool) : AV E.S → AV E.S
 | .rw c => match b c with | some (.row e l sh) => (bif sh || borrow then .sl e l false else .rw c) | _ => .rw c
 | x => x
def ub8 (b : Nat → Option (Box E.S)) (borrow : Bool) : AV E.S → AV E.S
 | .rw c => match b c with | some (.row e l sh) => (bif sh || borrow then .sl e l false else .dead) | _ => .dead
 | .agg cs => .agg (cs.map (un8 b borrow))
 | x => x
def lent (E : Env) (b : Nat → Option (Box E.S)) (f : Nat) : AV E.S → AV E.S
 | .bp c off => bif ud1 E f && E.ro f then (match b c with | some (.var t cs) => (match E.pack t (cs.map (un8 b true)) with | some y => .el t y off | none => .bp c off) | _ => .bp c off) else .bp c off
 | x => x
def argP (E : Env) (b : Nat → Option (Box E.S)) (f : Nat) (x : AV E.S) : AV E.S := lent E b f (ub8 b (ud1 E f) x)
def uT6 (E : Env) (b : Nat → Option (Box E.S)) (f : Nat) (xs caps : List (AV E.S)) : List (AV E.S) := xs.map (argP E b f) ++ caps.map (lent E b f)
mutual
def u76 {S : Nat → Type} : AV S → Bool
 | .v _ | .nl | .sl _ _ _ | .el _ _ _ | .ar _ _ | .er _ | .op _ _ | .so _ _ => true
 | .fn _ cs | .agg cs | .tup cs => pureL cs
 | _ => false
def pureL {S : Nat → Type} : List (AV S) → Bool
 | [] => true
 | x :: l => u76 x && pureL l
end
def uI9 (E : Env) (e : Nat) : Bool := match zeroCells E e with | some z => Nat.beq z.length (E.P.cellsOf e) | none => false
def un2 (E : Env) (t : Nat) : Option Nat := match E.P.underlying t with | some (.slice e) => some e | _ => none
def shOf {α : Type} (wr : Bool) (l : List α) : Bool := bif wr then (match l with | [] => false | _ :: _ => true) else true
def uo0 (st : St E.S) (e : Nat) (wr : Bool) : AV E.S → Option (Option Nat × List (E.S e) × Bool)
 | .nl => some (none, [], !wr)
 | .sl e' l true => if h : e' = e then some (none, h ▸ l, shOf wr l) else none
 | .rw c => match st.b c with | some (.row e' l sh) => if h : e' = e then some (some c, h ▸ l, sh) else none | _ => none
 | _ => none
def up3 (st : St E.S) (e : Nat) : AV E.S → Option (List (E.S e))
 | .nl => some []
 | .sl e' l _ => if h : e' = e then some (h ▸ l) else none
 | .rw c => match st.b c with | some (.row e' l _) => if h : e' = e then some (h ▸ l) else none | _ => none
 | _ => none
def boxed {S : Nat → Type} (b : Nat → Option (Box S)) (n : Nat) : List (Box S) → Nat → Option (Box S)
 | [] => b
 | x :: l => up2 b n (x :: l)
def drop (b : Nat → Option (Box E.S)) : Option Nat → Nat → Option (Box E.S)
 | some c => upd b c none
 | none => b
mutual
def idsV {S : Nat → Type} : AV S → List Nat
 | .bp c _ => [c]
 | .rw c => [c]
 | .rp c _ _ _ => [c]
 | .ws c _ _ => [c]
 | .fn _ cs | .agg cs | .tup cs => idsL cs
 | _ => []
def idsL {S : Nat → Type} : List (AV S) → List Nat
 | [] => []
 | x :: l => idsV x ++ idsL l
end
def idsB {S : Nat → Type} : Option (Box S) → List Nat
 | some (.var _ cs) => idsL cs
 | some (.lk _ _ _ _ x) => idsV x
 | _ => []
def mem (i : Nat) : List Nat → Bool
 | [] => false
 | x :: l => bif Nat.beq x i then true else mem i l
def uj8 (b : Nat → Option (Box E.S)) : Nat → List Nat → List Nat → List Nat
 | 0, _, acc => acc
 | _, [], acc => acc
 | k + 1, c :: l, acc => bif mem c acc then uj8 b k l acc else uj8 b k (l ++ idsB (b c)) (acc ++ [c])
def pos (i : Nat) : List Nat → Nat
 | [] => 0
 | x :: l => bif Nat.beq x i then 0 else pos i l + 1
def uj9 (m : List Nat) : Nat → Option Nat := fun c => bif mem c m then some (pos c m) else none
def u19 {S : Nat → Type} : Option (Box S) → Bool
 | some (.var _ _) => true
 | some (.mp _ _ _) => true
 | _ => false
def upTo : Nat → Nat → List Nat
 | _, 0 => []
 | k, n + 1 => k :: upTo (k + 1) n
def u24 : List Nat → List Nat → Bool
 | [], [] => true
 | x :: l, y :: m => bif Nat.beq x y then u24 l m else false
 | _, _ => false
def vs9 (m : List Nat) : Bool := u24 (m.map fun c => pos c m) (upTo 0 m.length)
def us6 {α : Type} : List (Option α) → Option (List α)
 | [] => some []
 | some x :: l => match us6 l with | some r => some (x :: r) | none => none
 | none :: _ => none
def ui1 (st : St E.S) (xs : List (AV E.S)) : List Nat :=
  let m := (uj8 st.b 100 (idsL xs) []).filter fun c => Nat.blt c st.n
  m.filter (fun c => u19 (st.b c)) ++ m.filter fun c => !u19 (st.b c)
def uq3 (st : St E.S) (m : List Nat) : Nat := (m.filter fun c => u19 (st.b c)).length
def uf2 (st : St E.S) (m : List Nat) (k : Nat) : Nat → Option Nat := fun i => bif Nat.blt i k then m[i]? else some (st.n + (i - k))
def vj0 (st : St E.S) (m : List Nat) (k : Nat) (bx : List (Box E.S)) : Nat → Option (Box E.S) := fun c =>
  bif Nat.blt c st.n then (bif mem c m then (bif Nat.blt (pos c m) k then (bx[pos c m]?).map (mapB (uf2 st m k)) else none) else st.b c)
  else match bx[k + (c - st.n)]? with | some x => some (mapB (uf2 st m k) x) | none => st.b c
def PK.val : (k : PK) → k.T → Value
 | .int k, n => .int k n
 | .str, s => .string s
 | .bool, b => .bool b
def PK.read : (k : PK) → Value → Option k.T
 | .int k, .int k' n => bif decide (k' = k) then some n else none
 | .str, .string s => some s
 | .bool, .bool b => some b
 | _, _ => none
def ieq : Int → Int → Bool := fun a b => a == b
def bleq : Bool → Bool → Bool := fun a b => a == b
def PK.eqb : (k : PK) → k.T → k.T → Bool
 | .int _ => ieq
 | .str => seq
 | .bool => bleq
def PK.beq : PK → PK → Bool
 | .int a, .int b => decide (a = b)
 | .str, .str => true
 | .bool, .bool => true
 | _, _ => false
def pkOf (P : Program) (t : Nat) : Option PK := match P.underlying t with | some (.int k) => some (.int k) | some .string => some .str | some .bool => some .bool | _ => none
def aget {α β : Type} (eq : α → α → Bool) : List (α × β) → α → Option β
 | [], _ => none
 | p :: l, x => if eq x p.1 = true then some p.2 else aget eq l x
def aput {α β : Type} (eq : α → α → Bool) : List (α × β) → α → β → List (α × β)
 | [], x, y => [(x, y)]
 | p :: l, x, y => if eq x p.1 = true then (x, y) :: l else p :: aput eq l x y
def u70 (E : Env) (t : Nat) : Option (PK × Nat × Nat) :=
  match E.P.underlying t with
  | some (.map kt et) => match pkOf E.P kt with | some k => some (k, kt, et) | _ => none
  | _ => none
def vk9 {S : Nat → Type} (e : Nat) : AV S → Option (S e)
 | .op e' o => if h : e' = e then h ▸ o else none
 | _ => none
def uj7 {S : Nat → Type} (e : Nat) : Nat → List (AV S) → List (Int × S e)
 | _, [] => []
 | n, x :: cs => match vk9 e x with | some v => ((n : Int), v) :: uj7 e (n + 1) cs | none => uj7 e (n + 1) cs
structure MpV (S : Nat → Type) where
  k : PK
  e : Nat
  l : List (k.T × S e)
def vs0 {S : Nat → Type} : Option (Box S) → Option (MpV S)
 | some (.mp k e l) => some ⟨k, e, l⟩
 | some (.mv k e cs) => some ⟨.int k, e, uj7 e 0 cs⟩
 | _ => none
def vY1 {S : Nat → Type} : Box S → Box S
 | .mv k e cs => .mp (.int k) e (uj7 e 0 cs)
 | x => x
def vm5 (E : Env) (e : Nat) (x : E.S e) : Option (AV E.S) := ue8 E e (E.cells e x) 0
def vh8 (E : Env) (e : Nat) : Bool := match E.P.underlying e with | some (.struct _) | some (.array _ _) => true | _ => false
def vh7 (E : Env) (e : Nat) : AV E.S → Bool
 | .agg _ => vh8 E e
 | _ => !vh8 E e
def vI4 (E : Env) (t : Nat) : Option (AV E.S) :=
  match E.P.info? t with
  | some i => match i.zero with | some z => bif okC (constAV (S := E.S) z) then some (constAV z) else none | none => none
  | none => none
def uH5 (E : Env) (st : St E.S) (t : Nat) (m x y : Operand) (κ : St E.S → Option R) : Option R :=
  match opv st m with
  | .rw c =>
    match st.b c with
    | some (.mp k e l) =>
      match u70 E t, opv st x with
      | some (k', _, et), .v a =>
        bif PK.beq k' k && (Nat.beq et e && (okC (opv st y) && vh7 E e (uh6 st.b (opv st y)))) then
          (match k.read a, E.pack e (cellsOf (uh6 st.b (opv st y))) with
           | some a', some b' => κ { s := st.s, b := upd st.b c (some (.mp k e (aput k.eqb l a' b'))), n := st.n, z := st.z }
           | _, _ => none)
        else none
      | _, _ => none
    | some (.mv ik e cs) =>
      match u70 E t, opv st x with
      | some (k', _, et), .v (.int ik' (.ofNat n)) =>
        bif PK.beq k' (.int ik) && (decide (ik' = ik) && (Nat.beq et e && (okC (opv st y) && (vh7 E e (uh6 st.b (opv st y)) && Nat.blt n cs.length)))) then
          (match E.pack e (cellsOf (uh6 st.b (opv st y))) with
           | some b' => κ { s := st.s, b := upd st.b c (some (.mv ik e (setCells cs n [.op e (some b')]))), n := st.n, z := st.z }
           | none => none)
        else none
      | _, _ => none
    | _ => none
  | _ => none
def uK1 (E : Env) (st : St E.S) (d : Option Nat) (t : Nat) (m x : Operand) (ok : Bool) (κ : St E.S → Option R) : Option R :=
  match opv st m with
  | .rw c =>
    match vs0 (st.b c) with
    | some ⟨k, e, l⟩ =>
      match u70 E t, opv st x, vI4 E e with
      | some (k', _, et), .v a, some zc =>
        bif PK.beq k' k && (Nat.beq et e && vh7 E e zc) then
          (match k.read a, E.pack e (cellsOf zc) with
           | some a', some z =>
             (match vm5 E e ((aget k.eqb l a').getD z) with
              | some y => bif ok then κ (put st d (.tup [y, .v (.bool (aget k.eqb l a').isSome)])) else κ (put st d y)
              | none => none)
           | _, _ => none)
        else none
      | _, _, _ => none
    | _ => none
  | _ => none
def fits (a b by_ : Nat) : Bool := Nat.ble ((a + b) * by_) 140737488355328
def vX5 (n m : Int) (by_ : Nat) : Bool := decide (0 ≤ n) && (decide (n ≤ m) && Nat.ble (m.toNat * by_) 140737488355328)
def uu4 : Nat → Nat → Int → (Nat → Option R) → Option R
 | 0, _, _, _ => none
 | k + 1, j, n, f => if decide (n = (j : Int)) = true then f j else uu4 k (j + 1) n f
def ve2 (E : Env) (t : Nat) : Option (Nat × Nat) := match E.P.underlying t with | some (.array len e) => bif (E.P.info? e).isSome then some (len, e) else none | _ => none
def up9 (spec : Spec E.S) (st : St E.S) (o : Oper) (κ : St E.S → Option R) : Option R :=
  match o.op with
  | .indexAddr t x i =>
    match ve2 E t, opv st x, opv st i with
    | some (len, e), .bp c off, .v (.int _ n) => uu4 len 0 n fun j => κ (put st o.dst (.bp c (off + j * E.P.cellsOf e)))
    | some (len, e), .el e' y off, .v (.int _ n) => uu4 len 0 n fun j => κ (put st o.dst (.el e' y (off + j * E.P.cellsOf e)))
    | _, _, _ => ui0 st o.dst (ue4 E spec st o) κ
  | .index t x i =>
    match ve2 E t, opv st x, opv st i with
    | some (len, e), .agg cs, .v (.int _ n) => uu4 len 0 n fun j => match ue8 E e cs (j * E.P.cellsOf e) with | some y => κ (put st o.dst y) | none => none
    | _, _, _ => ui0 st o.dst (ue4 E spec st o) κ
  | _ => ui0 st o.dst (ue4 E spec st o) κ
structure Wr where
  w : Nat → Bool
  s : Nat → List Nat := fun _ => []
  f : Nat → Bool := fun _ => false
  l : Nat → Option Nat := fun _ => none
  c : Nat → List Nat := fun _ => []
  p : Nat → List (Nat × Nat) := fun _ => []
instance : CoeFun Wr fun _ => Nat → Bool := ⟨Wr.w⟩
def vt7 : List (Nat × List Nat) → Nat → List Nat
 | [], _ => []
 | (q, l) :: r, p => bif Nat.beq q p then l else vt7 r p
def vH6 : List (Nat × Nat) → Nat → Option Nat
 | [], _ => none
 | (d, j) :: r, i => bif Nat.beq d i then some j else vH6 r i
def vH7 : List (Nat × List (Nat × Nat)) → Nat → List (Nat × Nat)
 | [], _ => []
 | (q, l) :: r, p => bif Nat.beq q p then l else vH7 r p
def mkWr (l : List Nat) (s : List (Nat × List Nat)) (f : List Nat := []) (lk : List (Nat × Nat) := []) (c : List (Nat × List Nat) := []) (p : List (Nat × List (Nat × Nat)) := []) : Wr := ⟨fun i => mem i l, vt7 s, fun i => mem i f, vH6 lk, vt7 c, vH7 p⟩
def vZ7 {S : Nat → Type} : Box S → Box S
 | .row e l false => .row e l true
 | bx => bx
def uS4 (st : St E.S) (cs : List Nat) : St E.S := { st with b := fun c => bif mem c cs then (st.b c).map vZ7 else st.b c }
def vF6 (vs : List Nat) (st : St E.S) : List Nat → St E.S
 | [] => st
 | i :: is => uS4 st (uj8 st.b 100 ((i :: is).flatMap fun i => bif Nat.ble 100000 i then (match vs[i - 100000]? with | some c => [c] | none => []) else idsV (st.s i)) [])
def over {α : Type} (l m : List α) : List α := m.take l.length ++ l.drop m.length
def uG0 (E : Env) (st : St E.S) (d : Option Nat) (t : Nat) (x y : AV E.S) (κ : St E.S → Option R) : Option R :=
  match x with
  | .rw c =>
    match st.b c with
    | some (.row e l false) =>
      match un2 E t, up3 st e y with
      | some e', some m => bif Nat.beq e' e && (Nat.beq (E.P.cellsOf e) 1 && (E.P.info? e).isSome) then κ (put { st with b := upd st.b c (some (.row e (over l m) false)) } d (.v (.int .i64 ((min l.length m.length : Nat) : Int)))) else none
      | _, _ => none
    | _ => none
  | _ => none
def evOp (spec : Spec E.S) (wr : Wr) (st : St E.S) (o : Oper) (κ : St E.S → Option R) : Option R :=
  match o.op, o.dst with
  | .range t x, some d =>
    match E.P.underlying t, opv st x with
    | some .string, .v (.string s) => κ { s := putS st d (.bp st.n 0), b := upd st.b st.n (some (.iter s 0)), n := st.n + 1, z := st.z }
    | _, _ => none
  | .next x true, d =>
    match opv st x with
    | .bp c 0 =>
      match st.b c with
      | some (.iter s pos) =>
        if decide (pos < s.size) = true then κ { s := putO st d (.tup [.v (.bool true), .v (.int .i64 (pos : Int)), .v (.int .i32 ((Utf8.decode s pos).1 : Int))]), b := upd st.b c (some (.iter s (pos + (Utf8.decode s pos).2))), n := st.n, z := st.z }
        else κ (put st d (.tup [.v (.bool false)]))
      | _ => none
    | _ => none
  | .makeMap t none, some d =>
    match u70 E t with
    | some (k, _, e) =>
      bif wr.f d then
        (match k with
         | .int ik => κ { s := putS st d (.rw st.n), b := upd st.b st.n (some (.mv ik e (List.replicate 16 (.op e none)))), n := st.n + 1, z := st.z }
         | _ => none)
      else κ { s := putS st d (.rw st.n), b := upd st.b st.n (some (.mp k e [])), n := st.n + 1, z := st.z }
    | none => none
  | .mapUpdate t m x y, none => uH5 E st t m x y κ
  | .insert t m x y, none => uH5 E st t m x y κ
  | .lookup t m x ok, d => uK1 E st d t m x ok κ
  | .alloc t, some d =>
    match uQ3 E t with
    | some (_, e) =>
      match zeroCells E t with
      | some cs => match uL9 E e cs with | some l => κ { s := putS st d (.rp st.n e 0 0), b := upd st.b st.n (some (.row e l false)), n := st.n + 1, z := st.z } | none => none
      | none => none
    | none => match zeroCells E t with | some cs => κ { s := putS st d (.bp st.n 0), b := upd st.b st.n (some (.var t cs)), n := st.n + 1, z := st.z } | none => none
  | .box t x, some d => bif !okC (opv st x) then none else κ { s := putS st d (.bp st.n 0), b := upd st.b st.n (some (.var t (cellsOf (opv st x)))), n := st.n + 1, z := st.z }
  | .store t a x, none =>
    match opv st a with
    | .bp c off =>
      match st.b c with
      | some (.var t' cs) => bif (E.P.info? t).isSome && (okC (opv st x) && (Nat.beq (cellsOf (opv st x)).length (E.P.cellsOf t) && Nat.ble (off + (cellsOf (opv st x)).length) cs.length)) then κ { st with b := upd st.b c (some (.var t' (setCells cs off (cellsOf (opv st x))))) } else none
      | _ => none
    | .rp c e' i off =>
      match st.b c with
      | some (.row e l false) =>
        bif Nat.beq e' e && ((E.P.info? t).isSome && (okC (opv st x) && (Nat.beq (cellsOf (opv st x)).length (E.P.cellsOf t) && Nat.ble (off + (cellsOf (opv st x)).length) (E.P.cellsOf e)))) then
          (idx l i) >>= fun y => (E.pack e (setCells (E.cells e y) off (cellsOf (uh6 st.b (opv st x))))) >>= fun y' => κ { st with b := upd st.b c (some (.row e (l.set i.toNat y') false)) }
        else none
      | some (.lk e l i' j z) =>
        match opv st x with
        | .rw m => bif Nat.beq e' e && (Nat.beq off j && ((E.P.info? t).isSome && Nat.beq (E.P.cellsOf t) 1)) then (if i = (i' : Int) then κ { st with b := upd st.b c (some (.lk e l i' j (.rw m))) } else none) else none
        | _ => none
      | _ => none
    | _ => none
  | .convert src dst x, some d =>
    bif wr d then
      (match E.P.underlying src, un2 E dst, opv st x with
       | some _, some e, .v (.string s) =>
         match E.byt e s with
         | some l => κ { s := putS st d (.rw st.n), b := upd st.b st.n (some (.row e l false)), n := st.n + 1, z := st.z }
         | none => none
       | _, _, _ => up9 spec st o κ)
    else up9 spec st o κ
  | .makeSlice t len cap, some d =>
    match un2 E t, opv st len, opv st cap with
    | some e, .v (.int _ n), .v (.int _ m) =>
      match zeroCells E e with
      | some zc =>
        match E.pack e zc with
        | some z =>
          bif Nat.beq (E.P.bytesOf e) 0 then none else
          if vX5 n m (E.P.bytesOf e) = true then κ { s := putS st d (.rw st.n), b := upd st.b st.n (some (.row e (List.replicate n.toNat z) (!wr d))), n := st.n + 1, z := st.z } else none
        | none => none
      | none => none
    | _, _, _ => none
  | .call c, d =>
    match c.callee, c.args.toList.map (opv (E := E) st), c.argTypes.toList with
    | .builtin .copy, [x, y], [t, _] => uG0 E st d t x y κ
    | .builtin .append, [x, y], [t, t'] =>
      match un2 E t, un2 E t', d with
      | some e, some _, some d =>
        bif Nat.beq (E.P.bytesOf e) 0 || !uI9 E e then none else
        match uo0 st e (wr d) x, up3 st e y with
        | some (c, l, sh), some m =>
          if fits l.length m.length (E.P.bytesOf e) = true then
            κ { s := putS st d (.rw st.n), b := upd (drop st.b c) st.n (some (.row e (l ++ m) sh)), n := st.n + 1, z := st.z }
          else none
        | _, _ => none
      | _, _, _ => none
    | .value f, xs, _ =>
      match opv (E := E) st f with
      | .fn f caps =>
        let bw := ud1 E f
        let xs' := uT6 E st.b f xs caps
        bif pureL xs' then
          match spec f xs' [] with
          | some sp => sp.run >>= fun r =>
            bif !bw || vq7 (sp.av r) && (sp.bx r).all (vk4 E) then κ { s := putO st d (uD3 st.n (sp.av r)), b := boxed st.b st.n (sp.bx r), n := st.n + (sp.bx r).length, z := st.z } else none
          | none => none
        else
          let xs1 := xs.map (ub8 st.b false) ++ caps
          let m := ui1 st xs1
          let k := uq3 st m
          match us6 (m.map fun c => (st.b c).map (mapB (uj9 m))) with
          | none => none
          | some bs =>
            bif !vs9 m then none else
            match spec f (mapL (uj9 m) xs1) bs with
            | some sp => bif !Nat.beq sp.k k then none else sp.run >>= fun r =>
              κ { s := putO st d (mapV (uf2 st m k) (sp.av r)), b := vj0 st m k (sp.bx r), n := st.n + ((sp.bx r).length - k), z := st.z }
            | none => none
      | _ => none
    | _, _, _ => ui0 st d (ue4 E spec st o) κ
  | _, _ => up9 spec st o κ
def ud8 (ops : Array Oper) (i : Nat) : Option Nat := match ops[i]? with | some o => o.dst | none => none
def vf8 (st : St E.S) (d j : Nat) (κ : St E.S → Option R) : Option R :=
  match st.s d with
  | .rp c e n 0 =>
    match st.b c with
    | some (.row e' l false) =>
      bif Nat.beq e e' then
        (idx l n) >>= fun y =>
          match (E.cells e' y)[j]? with
          | some (.so e1 o) => if o.isNone = true then κ { s := st.s, b := upd (upd st.b st.n (some (.row e1 [] false))) c (some (.lk e' l n.toNat j (.rw st.n))), n := st.n + 1, z := st.z } else none
          | _ => none
      else none
    | _ => none
  | _ => none
def uR7 (wr : Wr) (o : Oper) (κ : St E.S → Option R) : St E.S → Option R :=
  match o.op, o.dst with
  | .indexAddr _ _ _, some d => (match wr.l d with | some j => fun st => vf8 st d j κ | none => κ)
  | _, _ => κ
def vX2 (spec : Spec E.S) (wr : Wr) (st : St E.S) (o : Oper) (κ : St E.S → Option R) : Option R :=
  match o.op, o.dst with
  | .buildSlice t n parts, some d =>
    bif wr d then
      (match un2 E t with
       | some e =>
         bif (zeroCells E e).isSome && (uy3 0 parts.toList && Nat.beq parts.toList.length n && Nat.ble (n * E.P.cellsOf e) 16777216) then
           (match uL9 E e (parts.toList.map fun p => uh6 st.b (opv st p.2)) with
            | some l => κ { s := putS st d (.rw st.n), b := upd st.b st.n (some (.row e l false)), n := st.n + 1, z := st.z }
            | none => none)
         else none
       | none => none)
    else evOp spec wr st o κ
  | _, _ => evOp spec wr st o (uR7 wr o κ)
def uy1 (spec : Spec E.S) (wr : Wr) (ops : Array Oper) (κ : St E.S → Option R) : List Oper → St E.S → Option R
 | [], st => κ st
 | o :: l, st =>
   match o.guard with
   | none => vX2 spec wr st o (uy1 spec wr ops κ l)
   | some (i, b) =>
     match ud8 ops i with
     | none => none
     | some k =>
       match st.s k with
       | .v (.bool g) =>
         if g = true then
           (match b with
            | true => evOp spec wr { st with s := upd st.s k (.v (.bool true)) } o (uy1 spec wr ops κ l)
            | false => uy1 spec wr ops κ l (put { st with s := upd st.s k (.v (.bool true)) } o.dst (.tup [])))
         else
           (match b with
            | false => evOp spec wr { st with s := upd st.s k (.v (.bool false)) } o (uy1 spec wr ops κ l)
            | true => uy1 spec wr ops κ l (put { st with s := upd st.s k (.v (.bool false)) } o.dst (.tup [])))
       | .tup [] => uy1 spec wr ops κ l (put st o.dst (.tup []))
       | _ => none
inductive It | part (c i j : Nat) | all (c : Nat)
structure Fp where
  look : List It
  wr : List It
def wide (E : Env) (t : Nat) : Nat := match E.P.cellsOf t with | 0 => 1 | n => n
def uR9 {S : Nat → Type} : AV S → List It
 | .rw c => [.all c]
 | _ => []
def uj2 {S : Nat → Type} : AV S → List It
 | .rw c => [.all c]
 | .rp c _ _ _ => [.all c]
 | .agg cs => cs.flatMap uR9
 | _ => []
def v03 {S : Nat → Type} : AV S → List It
 | .ws c _ _ => [.all c]
 | _ => []
def ux2 {S : Nat → Type} (xs : List (AV S)) : List It := xs.flatMap uj2
def It.under (n : Nat) : It → Bool
 | .part c _ _ => Nat.blt c n
 | .all c => Nat.blt c n
def uR1 (E : Env) (b : Nat → Option (Box E.S)) (f : Nat) : AV E.S → List It
 | .bp c _ => bif ud1 E f && E.ro f then It.all c :: (match b c with | some (.var _ cs) => cs.flatMap uR9 | _ => []) else []
 | _ => []
def vE4 (st : St E.S) (m x y : Operand) : Option Fp :=
  match opv st m with
  | .rw c =>
    match st.b c with
    | some (.mv _ _ _) =>
      match opv st x with
      | .v (.int _ (.ofNat n)) => some ⟨.part c n (n + 1) :: uj2 (opv st y), [.part c n (n + 1)]⟩
      | _ => none
    | _ => some ⟨.all c :: uj2 (opv st y), [.all c]⟩
  | _ => none
def fpOf (st : St E.S) (o : Oper) : Option Fp :=
  match o.op, o.dst with
  | .load t a, _ => match opv st a with | .bp c off => some ⟨[.part c off (off + wide E t)], []⟩ | .rp c _ _ _ => some ⟨[.all c], []⟩ | _ => some ⟨[], []⟩
  | .store t a x, none =>
    match opv st a with
    | .bp c off => some ⟨[.part c off (off + (cellsOf (opv st x)).length)], [.part c off (off + (cellsOf (opv st x)).length)]⟩
    | .rp c _ _ _ => some ⟨.all c :: uj2 (opv st x), [.all c]⟩
    | _ => none
  | .store _ _ _, some _ => none
  | .alloc t, _ => bif (uQ3 E t).isSome then none else match zeroCells E t with | some cs => bif Nat.beq (idsL cs).length 0 then some ⟨[], []⟩ else none | none => none
  | .box _ x, _ => bif (idsV (opv st x)).all fun c => Nat.blt c st.n then some ⟨[], []⟩ else none
  | .makeSlice _ _ _, _ => some ⟨[], []⟩
  | .range _ _, _ | .next _ _, _ => none
  | .makeMap _ _, _ => some ⟨[], []⟩
  | .mapUpdate _ m x y, none => vE4 st m x y
  | .insert _ m x y, none => vE4 st m x y
  | .mapUpdate _ _ _ _, some _ | .insert _ _ _ _, some _ => none
  | .lookup _ m _ _, _ => match opv st m with | .rw c => some ⟨[.all c], []⟩ | _ => none
  | .convert _ _ x, _ => some ⟨v03 (opv st x) ++ uj2 (opv st x), []⟩
  | .buildSlice _ _ parts, _ => some ⟨ux2 (parts.toList.map fun p => opv (E := E) st p.2), []⟩
  | .indexAddr _ x _, _ | .slice _ x _ _ _, _ => some ⟨uj2 (opv st x), []⟩
  | .call c, _ =>
    match c.callee with
    | .builtin .copy => match c.args.toList.map (opv (E := E) st) with | [.rw c', y] => some ⟨.all c' :: uj2 y, [.all c']⟩ | _ => none
    | .builtin .append => some ⟨ux2 (c.args.toList.map (opv (E := E) st)), ux2 (c.args.toList.map (opv (E := E) st))⟩
    | .value f =>
      match opv st f with
      | .fn f caps =>
        bif pureL (uT6 E st.b f (c.args.toList.map (opv (E := E) st)) caps) then some ⟨ux2 (c.args.toList.map (opv (E := E) st)) ++ (c.args.toList.map (opv (E := E) st) ++ caps).flatMap (uR1 E st.b f), []⟩
        else
          let m := uj8 st.b 100 (idsL ((c.args.toList.map (opv (E := E) st)).map (ub8 st.b false) ++ caps)) []
          some ⟨(ux2 (c.args.toList.map (opv (E := E) st)) ++ (c.args.toList.map (opv (E := E) st) ++ caps).flatMap (uR1 E st.b f)) ++ m.map It.all, m.map It.all⟩
      | _ => none
    | _ => some ⟨ux2 (c.args.toList.map (opv (E := E) st)), []⟩
  | _, _ => some ⟨[], []⟩
def vf5 (n n' : Nat) : List It := (upTo n (n' - n)).map It.all
def vk3 (st : St E.S) (o : Oper) (st' : St E.S) : Option Fp :=
  match fpOf st o with
  | some fp => bif fp.look.all (It.under st.n) && fp.wr.all (It.under st.n) then some ⟨vf5 st.n st'.n ++ fp.look, vf5 st.n st'.n ++ fp.wr⟩ else none
  | none => none
def It.off : It → It → Bool
 | .part c i j, .part c' i' j' => bif Nat.beq c c' then Nat.ble j i' || Nat.ble j' i else true
 | .part c _ _, .all c' => !Nat.beq c c'
 | .all c, .part c' _ _ => !Nat.beq c c'
 | .all c, .all c' => !Nat.beq c c'
def offL (x y : List It) : Bool := x.all fun i => y.all fun j => i.off j
def Fp.off (x y : Fp) : Bool := offL x.wr y.wr && (offL x.look y.wr && offL x.wr y.look)
def vS4 (is : List Nat) (y : Oper) : Bool := y.after.toList.any fun e => Region.binds .any e && mem e.on is
def uR5 (is : List Nat) (x : Fp) : Nat → List Oper → List Fp → Bool
 | k, o :: ops, fp :: fps => bif vS4 is o then uR5 (k :: is) x (k + 1) ops fps else x.off fp && uR5 is x (k + 1) ops fps
 | _, _, _ => true
def offs : Nat → List Oper → List Fp → Bool
 | i, _ :: ops, fp :: fps => uR5 [i] fp (i + 1) ops fps && offs (i + 1) ops fps
 | _, _, _ => true
def cmpC {S : Nat → Type} : AV S → Bool
 | .v (.int _ _) | .v (.bool _) | .v (.string _) | .v (.pointer none) | .nl | .bp _ _ | .rw _ => true
 | _ => false
def cmpB {S : Nat → Type} : Option (Box S) → Bool
 | some (.var _ cs) => cs.all cmpC
 | _ => false
def v89 (st : St E.S) : Option (AV E.S) → Option Nat
 | some (.bp c _) => bif cmpB (st.b c) then some c else none
 | _ => none
def u39 (E : Env) (st : St E.S) (o : Oper) : List Nat :=
  match o.op with
  | .call c =>
    match c.callee with
    | .value f =>
      match opv st f with
      | .fn f caps => (E.rc f).filterMap fun i => v89 st ((c.args.toList.map (opv (E := E) st) ++ caps)[i]?)
      | _ => []
    | _ => []
  | _ => []
def vR7 {S : Nat → Type} : AV S → AV S → Bool
 | .v (.int k a), .v (.int k' b) => decide (k = k') && (a == b)
 | .v (.bool a), .v (.bool b) => a == b
 | .v (.string a), .v (.string b) => seq a b
 | .v (.pointer none), .v (.pointer none) => true
 | .nl, .nl => true
 | .bp c o, .bp c' o' => Nat.beq c c' && Nat.beq o o'
 | .rw c, .rw c' => Nat.beq c c'
 | _, _ => false
def vg7 {S : Nat → Type} : List (AV S) → List (AV S) → Bool
 | [], [] => true
 | x :: l, y :: m => vR7 x y && vg7 l m
 | _, _ => false
def vR6 {S : Nat → Type} : Option (Box S) → Option (Box S) → Bool
 | some (.var t cs), some (.var t' cs') => Nat.beq t t' && vg7 cs cs'
 | _, _ => false
def uY8 {S : Nat → Type} (b b' : Nat → Option (Box S)) : List Nat → Bool
 | [] => true
 | c :: l => vR6 (b c) (b' c) && uY8 b b' l
def u16 (c : Nat) : List It → Bool
 | [] => false
 | .all d :: l => bif Nat.beq c d then true else u16 c l
 | .part _ _ _ :: l => u16 c l
def vQ4 (cs : List Nat) : It → Bool
 | .all d => !mem d cs
 | .part _ _ _ => true
def vs8 (cs : List Nat) : It → Bool
 | .all _ => false
 | .part d _ _ => mem d cs
def roFp (st st' : St E.S) (fp : Fp) (κ : Fp → Option R) : List Nat → Option R
 | [] => κ fp
 | c :: l =>
   bif ((c :: l).all fun c => Nat.blt c st.n && u16 c fp.look) && !fp.wr.any (vs8 (c :: l)) then
     (if uY8 st.b st'.b (c :: l) = true then κ ⟨fp.look, fp.wr.filter (vQ4 (c :: l))⟩ else none)
   else none
def uo5 (spec : Spec E.S) (wr : Wr) (ops : Array Oper) (κ : St E.S → Option R) : List Oper → List Fp → St E.S → Option R
 | [], acc, st => bif offs 0 ops.toList acc.reverse then κ st else none
 | o :: l, acc, st =>
   match o.guard with
   | none => evOp spec wr st o fun st' => match vk3 st o st' with | some fp => roFp st st' fp (fun fp => uo5 spec wr ops κ l (fp :: acc) st') (u39 E st o) | none => none
   | some (i, b) =>
     match ud8 ops i with
     | none => none
     | some k =>
       match st.s k with
       | .v (.bool g) =>
         if g = true then
           (match b with
            | true => evOp spec wr { st with s := upd st.s k (.v (.bool true)) } o fun st' => match vk3 { st with s := upd st.s k (.v (.bool true)) } o st' with | some fp => roFp { st with s := upd st.s k (.v (.bool true)) } st' fp (fun fp => uo5 spec wr ops κ l (fp :: acc) st') (u39 E { st with s := upd st.s k (.v (.bool true)) } o) | none => none
            | false => uo5 spec wr ops κ l (⟨[], []⟩ :: acc) (put { st with s := upd st.s k (.v (.bool true)) } o.dst (.tup [])))
         else
           (match b with
            | false => evOp spec wr { st with s := upd st.s k (.v (.bool false)) } o fun st' => match vk3 { st with s := upd st.s k (.v (.bool false)) } o st' with | some fp => roFp { st with s := upd st.s k (.v (.bool false)) } st' fp (fun fp => uo5 spec wr ops κ l (fp :: acc) st') (u39 E { st with s := upd st.s k (.v (.bool false)) } o) | none => none
            | true => uo5 spec wr ops κ l (⟨[], []⟩ :: acc) (put { st with s := upd st.s k (.v (.bool false)) } o.dst (.tup [])))
       | .tup [] => uo5 spec wr ops κ l (⟨[], []⟩ :: acc) (put st o.dst (.tup []))
       | _ => none
def uF0 (st : St E.S) : List (Nat × Nat) → St E.S
 | [] => st
 | (i, e) :: l =>
   match st.s i with
   | .nl => uF0 { s := upd st.s i (.rw st.n), b := upd st.b st.n (some (.row e [] false)), n := st.n + 1, z := st.z } l
   | .sl e' xs true => uF0 { s := upd st.s i (.rw st.n), b := upd st.b st.n (some (.row e' xs true)), n := st.n + 1, z := st.z } l
   | _ => uF0 st l
def uF9 (st : St E.S) : List (Nat × Nat) → St E.S
 | [] => st
 | (i, e) :: l =>
   match st.s i with
   | .nl => uF9 { st with s := upd st.s i (.sl e [] false) } l
   | .sl e' xs true => uF9 { st with s := upd st.s i (.sl e' xs false) } l
   | .rw c =>
     match st.b c with
     | some (.row e' xs true) => uF9 { st with s := upd st.s i (.sl e' xs false) } l
     | _ => uF9 st l
   | _ => uF9 st l
def uB2 (st : St E.S) : List (Nat × Nat) → St E.S
 | [] => st
 | (i, e) :: l =>
   match st.s i with
   | .v (.pointer none) => uB2 { st with s := upd st.s i (.op e none) } l
   | .el e' x 0 => uB2 { st with s := upd st.s i (.op e' (some x)) } l
   | .bp c 0 =>
     match st.b c with
     | some (.var t cs) => (match E.pack t (cs.map (ul4 st.b)) with | some y => uB2 { s := upd st.s i (.op t (some y)), b := fun k => bif Nat.beq k c then none else st.b k, n := st.n, z := st.z } l | none => uB2 st l)
     | _ => uB2 st l
   | _ => uB2 st l
def vp6 (st : St E.S) (c : Nat) : St E.S :=
  match st.b c with
  | some (.lk e l i j (.rw m)) =>
    match st.b m with
    | some (.row e2 l2 _) =>
      match E.lk e j with
      | some e1 => bif Nat.beq e1 e2 then { s := st.s, b := upd (upd st.b m (some (.row e2 l2 true))) c (some (.row e (l.modify i fun y => (E.pack e ((E.cells e y).set j (.sl e2 l2 false))).getD y) false)), n := st.n, z := st.z } else st
      | none => st
    | _ => st
  | _ => st
def vp7 (st : St E.S) : List Nat → St E.S
 | [] => st
 | c :: l => vp7 (vp6 st c) l
def vH1 (st : St E.S) : List Nat → St E.S
 | [] => st
 | i :: is => vp7 st (uj8 st.b 100 ((i :: is).flatMap fun i => idsV (st.s i)) [])
def vg9 (vs : List Nat) (st : St E.S) (i j : Nat) : Option (Nat × Nat) :=
  bif Nat.ble 100000 i then (vs[i - 100000]?).map fun c => (c, j) else
  match st.s i with
  | .bp c _ => some (c, j)
  | .fn _ cs => (match cs[j / 64]? with | some (.bp c _) => some (c, j % 64) | _ => none)
  | _ => none
def u07 (vs : List Nat) (st : St E.S) (i j : Nat) : Option (AV E.S) :=
  match vg9 vs st i j with
  | some (c, k) => (boxCells (st.b c))[k]?
  | none => match st.s i with | .agg cs => cs[j]? | _ => none
def vf7 (vs : List Nat) (st : St E.S) (i j : Nat) (x : AV E.S) : St E.S :=
  match vg9 vs st i j with
  | some (c, k) => (match st.b c with | some (.var t cs) => { st with b := upd st.b c (some (.var t (cs.set k x))) } | _ => st)
  | none => match st.s i with | .agg cs => { st with s := upd st.s i (.agg (cs.set j x)) } | _ => st
def vP1 (b : Nat → Option (Box E.S)) (e : Nat) : AV E.S → AV E.S
 | .nl => .sl e [] false
 | .sl e' xs true => .sl e' xs false
 | .rw c => match b c with | some (.row e' xs true) => .sl e' xs false | _ => .rw c
 | x => x
def deep (vs : List Nat) (st : St E.S) : List (Bool × Nat × Nat × Nat) → St E.S
 | [] => st
 | (up, i, j, e) :: l =>
   match u07 vs st i j with
   | none => deep vs st l
   | some x =>
     bif up then
       (match x with
        | .nl => deep vs (vf7 vs { st with b := upd st.b st.n (some (.row e [] false)), n := st.n + 1 } i j (.rw st.n)) l
        | _ => deep vs st l)
     else deep vs (vf7 vs st i j (vP1 st.b e x)) l
structure Live where
  slots : List Nat
  rows : List (Nat × Nat) := []
  flat : List (Nat × Nat) := []
  keep : Nat := 0
  deep : List (Bool × Nat × Nat × Nat) := []
  up : List (Bool × Nat × Nat × Nat) := []
  done : List Nat := []
  ptrs : List (Nat × Nat) := []
  close : List Nat := []
def vW5 (lv : Live) (st : St E.S) : List Nat := (uj8 st.b 100 (upTo 0 lv.keep ++ lv.slots.flatMap fun i => idsV (st.s i)) []).filter fun c => Nat.blt c st.n
def uQ4 (lv : Live) (st : St E.S) (m : List Nat) : St E.S :=
  { s := fun j => bif mem j lv.slots then mapV (uj9 m) (st.s j) else .dead
    b := fun k => match m[k]? with | some c => bif Nat.beq (pos c m) k then (st.b c).map (fun x => mapB (uj9 m) (vY1 x)) else none | none => none
    n := m.length
    z := st.z }
def vH0 (lv : Live) (st : St E.S) (m : List Nat) : St E.S := bif u24 (m.take lv.keep) (upTo 0 lv.keep) then uQ4 lv st m else st
def uv4 (lv : Live) (st : St E.S) : List Nat := (uj8 st.b 100 (upTo 0 lv.keep ++ lv.slots.flatMap fun i => idsV (st.s i)) []).filter fun c => u19 (st.b c)
def vp5 (lv : Live) (st0 : St E.S) : St E.S := deep (uv4 lv st0) (uF9 (uB2 (vF6 (uv4 lv st0) (vH1 (deep (uv4 lv st0) (uF0 st0 lv.rows) lv.up) lv.close) lv.done) lv.ptrs) lv.flat) lv.deep
def canon (lv : Live) (st0 : St E.S) : St E.S := vH0 lv (vp5 lv st0) (vW5 lv (vp5 lv st0))
structure Cut (E : Env) (R : Type) where
  live : Live
  J : St E.S → Option R
abbrev Tb (E : Env) (R : Type) := Nat → Option (Cut E R)
def ev (spec : Spec E.S) (wr : Wr) (tb : Tb E R) : Nat → Code → St E.S → (Ex → St E.S → Option R) → Option R
 | _, .skip, st, κ => κ .norm st
 | p, .region _ ops draw, st, κ => bif draw then (bif Region.lexB .any ops then uo5 spec wr ops (κ .norm) ops.toList [] (vF6 [] st (wr.s p)) else none) else uy1 spec wr ops (κ .norm) ops.toList (vF6 [] st (wr.s p))
 | p, .seq a b, st, κ => ev spec wr tb (2 * p) a st fun ex st' =>
    match ex with
    | .norm => match tb (2 * p + 1) with | some c => c.J (canon c.live st') | none => ev spec wr tb (2 * p + 1) b st' κ
    | ex => κ ex st'
 | p, .cond c x y, st, κ =>
    match opv st c with
    | .v (.bool b) => if b = true then ev spec wr tb (2 * p) x st κ else ev spec wr tb (2 * p + 1) y st κ
    | _ => none
 | p, .block id body, st, κ => ev spec wr tb (2 * p) body st fun ex st' =>
    match ex with
    | .exit i => bif Nat.beq i id then κ .norm st' else κ ex st'
    | ex => κ ex st'
 | p, .loop _, st, _ => match tb (2 * p) with | some c => c.J (canon c.live st) | none => none
 | _, .exit id, st, κ => κ (.exit id) st
 | _, .ret, st, κ => κ .ret st
 | p, .scope body, st, κ => ev spec wr tb (2 * p) body st κ
 | _, .label _, st, κ => κ .norm st
 | _, _, _, _ => none
def v04 (c : Cut E R) (κ : Ex → St E.S → Option R) : Ex → St E.S → Option R
 | .norm, st => c.J (canon c.live st)
 | ex, st => κ ex st
def st0 (z : Nat) (xs : List (AV E.S)) (bs : List (Box E.S)) : St E.S := { s := fun i => xs.getD i .dead, b := fun i => bs[i]?, n := bs.length, z := z }
end
end Go.Proofs.YtaennkkcnhfglaaGreatDoor.Ev
