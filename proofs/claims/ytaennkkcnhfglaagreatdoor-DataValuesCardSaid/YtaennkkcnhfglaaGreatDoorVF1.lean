/- A part of the proof. -/
import Derived.Test.YtaennkkcnhfglaaGreatDoorVEvShelf
import Derived.Test.YtaennkkcnhfglaaGreatDoorVShelf
import Derived.Test.YtaennkkcnhfglaaGreatDoorVEvLib
import Derived.Test.YtaennkkcnhfglaaGreatDoorVEvFun
import Derived.Test.YtaennkkcnhfglaaGreatDoorVEvRun
import Derived.Test.YtaennkkcnhfglaaGreatDoorProg
set_option linter.unusedVariables false
set_option maxRecDepth 100000
namespace Go.Proofs.YtaennkkcnhfglaaGreatDoor.Ev.F
open Go.Proofs Go.Proofs.YtaennkkcnhfglaaGreatDoor.Ev
noncomputable section
structure ua3 where
 Kind : Int
 Value : Int
 Name : ByteArray
 Parts : (List ua3)
structure ua6 where
 Name : ByteArray
 Type_ : ua3
structure ua1 where
 Name : ByteArray
 Fields : (List ua6)
structure ua2 where
 Name : ByteArray
 Params : (List ByteArray)
 Constructors : (List ua1)
structure ua4 where
 Name : ByteArray
 Number : Int
 Parts : (List ua4)
structure us8 where
 list : (List ua2)
 params : (List ByteArray)
mutual
structure ua5 where
 bits : Int
 constructors : (Option (List data_variant))
structure data_variant where
 name : ByteArray
 fields : (List ua6)
 parts : (Option (List (Option ua5)))
end
structure ue6 where
 Value : ua4
 Number : Int
def S : Nat → Type
 | 5 => Int
 | 9 => ByteArray
 | 25 => ua3
 | 29 => Int
 | 37 => ua4
 | 56 => ua1
 | 58 => ua6
 | 103 => ua2
 | 105 => (Option ua5)
 | 107 => us8
 | 125 => data_variant
 | 128 => ua5
 | 188 => Int
 | _ => Unit
def pk (e : Nat) : Pk S (S e) :=
 if h : e = 5 then h ▸ ((Pk.int .u8) : Pk S Int) else
 if h : e = 9 then h ▸ (Pk.str : Pk S ByteArray) else
 if h : e = 25 then h ▸ ((Pk.iso (Pk.cons (Pk.int .i64) (Pk.cons (Pk.int .i64) (Pk.cons Pk.str (Pk.cons (Pk.sl 25) Pk.unit)))) (fun a => (⟨a.1, a.2.1, a.2.2.1, a.2.2.2.1⟩ : ua3)) (fun x => (x.Kind, x.Value, x.Name, x.Parts, ())) (fun x => by cases x; rfl)) : Pk S ua3) else
 if h : e = 29 then h ▸ ((Pk.int .i64) : Pk S Int) else
 if h : e = 37 then h ▸ ((Pk.iso (Pk.cons Pk.str (Pk.cons (Pk.int .i64) (Pk.cons (Pk.sl 37) Pk.unit))) (fun a => (⟨a.1, a.2.1, a.2.2.1⟩ : ua4)) (fun x => (x.Name, x.Number, x.Parts, ())) (fun x => by cases x; rfl)) : Pk S ua4) else
 if h : e = 56 then h ▸ ((Pk.iso (Pk.cons Pk.str (Pk.cons (Pk.sl 58) Pk.unit)) (fun a => (⟨a.1, a.2.1⟩ : ua1)) (fun x => (x.Name, x.Fields, ())) (fun _ => rfl)) : Pk S ua1) else
 if h : e = 58 then h ▸ ((Pk.iso (Pk.cons Pk.str (Pk.cons (Pk.iso (Pk.cons (Pk.int .i64) (Pk.cons (Pk.int .i64) (Pk.cons Pk.str (Pk.cons (Pk.sl 25) Pk.unit)))) (fun a => (⟨a.1, a.2.1, a.2.2.1, a.2.2.2.1⟩ : ua3)) (fun x => (x.Kind, x.Value, x.Name, x.Parts, ())) (fun x => by cases x; rfl)) Pk.unit)) (fun a => (⟨a.1, a.2.1⟩ : ua6)) (fun x => (x.Name, x.Type_, ())) (fun _ => rfl)) : Pk S ua6) else
 if h : e = 103 then h ▸ ((Pk.iso (Pk.cons Pk.str (Pk.cons (Pk.sl 9) (Pk.cons (Pk.sl 56) Pk.unit))) (fun a => (⟨a.1, a.2.1, a.2.2.1⟩ : ua2)) (fun x => (x.Name, x.Params, x.Constructors, ())) (fun _ => rfl)) : Pk S ua2) else
 if h : e = 105 then h ▸ ((Pk.op 128) : Pk S (Option ua5)) else
 if h : e = 107 then h ▸ ((Pk.iso (Pk.cons (Pk.sl 103) (Pk.cons (Pk.sl 9) Pk.unit)) (fun a => (⟨a.1, a.2.1⟩ : us8)) (fun x => (x.list, x.params, ())) (fun _ => rfl)) : Pk S us8) else
 if h : e = 125 then h ▸ ((Pk.iso (Pk.cons Pk.str (Pk.cons (Pk.sl 58) (Pk.cons (Pk.so 105) Pk.unit))) (fun a => (⟨a.1, a.2.1, a.2.2.1⟩ : data_variant)) (fun x => (x.name, x.fields, x.parts, ())) (fun x => by cases x; rfl)) : Pk S data_variant) else
 if h : e = 128 then h ▸ ((Pk.iso (Pk.cons (Pk.int .i64) (Pk.cons (Pk.so 125) Pk.unit)) (fun a => (⟨a.1, a.2.1⟩ : ua5)) (fun x => (x.bits, x.constructors, ())) (fun x => by cases x; rfl)) : Pk S ua5) else
 if h : e = 188 then h ▸ ((Pk.int .u64) : Pk S Int) else
 Pk.no (Tryz.prog.cellsOf e)
theorem wo9 (e : Nat) : (pk e).len = Tryz.prog.cellsOf e := by
  unfold pk
  by_cases h : e = 5
  · subst h; kernel_rfl
  refine (congrArg Pk.len (dif_neg h)).trans ?_; clear h
  by_cases h : e = 9
  · subst h; kernel_rfl
  refine (congrArg Pk.len (dif_neg h)).trans ?_; clear h
  by_cases h : e = 25
  · subst h; kernel_rfl
  refine (congrArg Pk.len (dif_neg h)).trans ?_; clear h
  by_cases h : e = 29
  · subst h; kernel_rfl
  refine (congrArg Pk.len (dif_neg h)).trans ?_; clear h
  by_cases h : e = 37
  · subst h; kernel_rfl
  refine (congrArg Pk.len (dif_neg h)).trans ?_; clear h
  by_cases h : e = 56
  · subst h; kernel_rfl
  refine (congrArg Pk.len (dif_neg h)).trans ?_; clear h
  by_cases h : e = 58
  · subst h; kernel_rfl
  refine (congrArg Pk.len (dif_neg h)).trans ?_; clear h
  by_cases h : e = 103
  · subst h; kernel_rfl
  refine (congrArg Pk.len (dif_neg h)).trans ?_; clear h
  by_cases h : e = 105
  · subst h; kernel_rfl
  refine (congrArg Pk.len (dif_neg h)).trans ?_; clear h
  by_cases h : e = 107
  · subst h; kernel_rfl
  refine (congrArg Pk.len (dif_neg h)).trans ?_; clear h
  by_cases h : e = 125
  · subst h; kernel_rfl
  refine (congrArg Pk.len (dif_neg h)).trans ?_; clear h
  by_cases h : e = 128
  · subst h; kernel_rfl
  refine (congrArg Pk.len (dif_neg h)).trans ?_; clear h
  by_cases h : e = 188
  · subst h; kernel_rfl
  refine (congrArg Pk.len (dif_neg h)).trans ?_; clear h
  exact Pk.no_len _
def plain : Nat → Bool := fun t => mem t []
def byt (e : Nat) (s : ByteArray) : Option (List (S e)) := if h : e = 5 then some (h ▸ (ub4 s : List Int)) else none
theorem wk2 : ∀ e s l, byt e s = some l → Tryz.prog.underlying e = some (.int .u8) ∧ Tryz.prog.cellsOf e = 1 ∧ l.length = s.size ∧ ∀ i x, l[i]? = some x → (pk e).wt x = [.v (.int .u8 ((s.data.toList.getD i 0).toNat : Int))] := by
  intro e s l h
  unfold byt at h
  split at h
  · rename_i he; subst he; obtain rfl := Option.some.inj h
    exact ⟨by kernel_rfl, by kernel_rfl, (u31 s).1, fun i x hx => by rw [(u31 s).2 i x hx]; kernel_rfl⟩
  cases h
def wn7 : List Int := [1, 10, 100, 1000, 10000, 100000, 1000000, 10000000, 100000000, 1000000000, 10000000000, 100000000000, 1000000000000, 10000000000000, 100000000000000, 1000000000000000, 10000000000000000, 100000000000000000, 1000000000000000000, 10000000000000000000]
def wn8 : List Int := [0, 1, 28, 2, 29, 14, 24, 3, 30, 22, 20, 15, 25, 17, 4, 8, 31, 27, 13, 23, 21, 19, 16, 7, 26, 12, 18, 6, 11, 5, 10, 9]
def wn9 : List Int := [0, 1, 56, 2, 57, 49, 28, 3, 61, 58, 42, 50, 38, 29, 17, 4, 62, 47, 59, 36, 45, 43, 51, 22, 53, 39, 33, 30, 24, 18, 12, 5, 63, 55, 48, 27, 60, 41, 37, 16, 46, 35, 44, 21, 52, 32, 23, 11, 54, 26, 40, 15, 34, 20, 31, 10, 25, 14, 19, 9, 13, 8, 7, 6]
def vI9 : Nat → Option (AV S)
 | 3 => some (.ar 188 wn7)
 | 4 => some (.ar 5 wn8)
 | 5 => some (.ar 5 wn9)
 | _ => none
theorem vX2 : ∀ g x, vI9 g = some x → idsV x = [] := by
 intro g x h
 unfold vI9 at h
 split at h <;> first | (cases h; done) | (obtain rfl := Option.some.inj h; rfl)
def nums : (e : Nat) → List (S e) → Option (List Int)
 | 5, l => some l
 | _, _ => none
theorem wd8 : ∀ e l xs, nums e l = some xs → Tryz.prog.underlying e = some (.int .u8) ∧ xs.length = l.length ∧ ∀ (i : Nat) x n, l[i]? = some x → xs[i]? = some n → (pk e).wt x = [.v (.int .u8 n)] := by
  intro e l xs h
  unfold nums at h
  split at h
  · obtain rfl := Option.some.inj h
    exact ⟨by kernel_rfl, rfl, fun i x n hx hn => by obtain rfl : x = n := Option.some.inj (hx.symm.trans hn); kernel_rfl⟩
  · cases h
def held : Nat → Option (String × Array Value)
 | 3 => some ("internal/strconv.uint64pow10", (Go.Lib.pow10Tab.map fun z => Value.int .u64 z).toArray)
 | _ => none
def ro : Nat → Bool := fun f => mem f [113, 123, 161, 178]
def rc : Nat → List Nat
 | _ => []
def fr : Nat → Bool := fun f => mem f []
def flat : Nat → Bool := fun e => mem e []
def lk : Nat → Nat → Option Nat
 | 125, 2 => some 105
 | 128, 1 => some 125
 | _, _ => none
theorem wx0 : ∀ e j e1, lk e j = some e1 → ∀ y l, ((pk e).rd (((pk e).wt y).set j (.sl e1 l false))).isSome = true := by
  intro e j e1 h
  unfold lk at h
  split at h
  · obtain rfl := Option.some.inj h; exact fun y l => by kernel_rfl
  · obtain rfl := Option.some.inj h; exact fun y l => by kernel_rfl
  · cases h
noncomputable abbrev E : Env := wo1 Tryz.prog S pk vI9 plain byt nums held ro rc fr flat lk
theorem E_ok : E.Ok := vX8 wo9 (by kernel_rfl) vX2 (fun t h => by cases h) wk2 wd8 (fun e h => by cases h) wx0
def uq8 : Con E := vH8 E 128
theorem uG6 : uq8.Ok := vA3 (fn := Tryz.f128) (by kernel_rfl) (by kernel_rfl) (by kernel_rfl) (g := 3) rfl (fun n w h0 h1 ht => Tryz.strconv_Itoa n h0 h1 w ht)
def u42 : ub3 E := ⟨uq8, uG6⟩
def uq9 : Con E := vH9 E 136 9 uH1
theorem uG7 : uq9.Ok := vA4 (fn := Tryz.f136) (by kernel_rfl) (by kernel_rfl) (by kernel_rfl) (fun x => x) (fun _ => rfl) (by kernel_rfl) (fun p u => congrArg (fun l => uH1 (l, p.2) u) (List.map_id' p.1).symm) (fun a c sep w => Tryz.strings_Join_none a c sep w) (fun bk o c xs sep w => Tryz.strings_Join bk o c xs sep w)
def u43 : ub3 E := ⟨uq9, uG7⟩
def ul8 : Con E := uK1 E 189
def base : Spec E.S := (Con.add ul8 (Con.add uq9 (Con.add uq8 vK3)))
inductive P_z0 where
 | start
def b_z0 : Fb E P_z0 ((List ua2) × Unit) Unit := ⟨57, Tryz.f57, .nil, .nil, fun a b => .start, { rl := (.cons (.sl 103 true) .nil), rb := .nil, done := [0] }, [], mkWr [] []⟩
def u08 : P_z0 → Option (((List ua2) × Unit) × Unit)
 | .start =>
  some ((([(⟨(⟨#[77, 97, 121, 98, 101]⟩ : ByteArray), ([(⟨#[97]⟩ : ByteArray)] : List ByteArray), ([(⟨(⟨#[78, 111, 110, 101]⟩ : ByteArray), []⟩ : ua1), (⟨(⟨#[83, 111, 109, 101]⟩ : ByteArray), ([(⟨(⟨#[118, 97, 108, 117, 101]⟩ : ByteArray), (⟨(0 : Int), (0 : Int), (⟨#[97]⟩ : ByteArray), []⟩ : ua3)⟩ : ua6)] : List ua6)⟩ : ua1)] : List ua1)⟩ : ua2), (⟨(⟨#[80, 97, 105, 114]⟩ : ByteArray), ([(⟨#[97]⟩ : ByteArray), (⟨#[98]⟩ : ByteArray)] : List ByteArray), ([(⟨(⟨#[80, 97, 105, 114]⟩ : ByteArray), ([(⟨(⟨#[108, 101, 102, 116]⟩ : ByteArray), (⟨(0 : Int), (0 : Int), (⟨#[97]⟩ : ByteArray), []⟩ : ua3)⟩ : ua6), (⟨(⟨#[114, 105, 103, 104, 116]⟩ : ByteArray), (⟨(0 : Int), (0 : Int), (⟨#[98]⟩ : ByteArray), []⟩ : ua3)⟩ : ua6)] : List ua6)⟩ : ua1)] : List ua1)⟩ : ua2), (⟨(⟨#[67, 111, 108, 111, 114]⟩ : ByteArray), [], ([(⟨(⟨#[82, 101, 100]⟩ : ByteArray), []⟩ : ua1), (⟨(⟨#[71, 114, 101, 101, 110]⟩ : ByteArray), []⟩ : ua1), (⟨(⟨#[66, 108, 117, 101]⟩ : ByteArray), []⟩ : ua1)] : List ua1)⟩ : ua2)] : List ua2), ()), ())
def c_z0 : ub3 E := b_z0.okc E_ok (run := u08) (b_z0.mk_ok E_ok [] b_z0.none)
inductive P_z1 where
 | start (n0 : Int)
def b_z1 : Fb E P_z1 ((Int × (Int × (ByteArray × (Unit × Unit)))) × Unit) Unit := ⟨101, Tryz.f101, (.cons (Rd.int .i64).w .nil), .nil, fun a b => .start a.1, { rl := (.cons (.agg (.cons (.int .i64) (.cons (.int .i64) (.cons .str (.cons Rd.nl .nil))))) .nil), rb := .nil, done := [0] }, [], mkWr [] []⟩
def vx3 : P_z1 → Option (((Int × (Int × (ByteArray × (Unit × Unit)))) × Unit) × Unit)
 | .start n0 =>
  some ((((2 : Int), (n0, ((⟨#[]⟩ : ByteArray), ((), ())))), ()), ())
def c_z1 : ub3 E := b_z1.okc E_ok (run := vx3) (b_z1.mk_ok E_ok [] b_z1.none)
inductive P_z2 where
 | start (name0 : ByteArray) (parts1 : (List ua3))
def b_z2 : Fb E P_z2 ((Int × (Int × (ByteArray × ((List ua3) × Unit)))) × Unit) Unit := ⟨58, Tryz.f58, (.cons Rd.str.w (.cons (.sl 25) .nil)), .nil, fun a b => .start a.1 a.2.1, { rl := (.cons (.agg (.cons (.int .i64) (.cons (.int .i64) (.cons .str (.cons (.sl 25 false) .nil))))) .nil), rb := .nil, done := [0] }, [], mkWr [] []⟩
def uC7 : P_z2 → Option (((Int × (Int × (ByteArray × ((List ua3) × Unit)))) × Unit) × Unit)
 | .start name0 parts1 =>
  some ((((1 : Int), ((0 : Int), (name0, (parts1, ())))), ()), ())
def c_z2 : ub3 E := b_z2.okc E_ok (run := uC7) (b_z2.mk_ok E_ok [] b_z2.none)
inductive P_z3 where
 | start (n0 : Int)
def b_z3 : Fb E P_z3 ((Int × (Int × (ByteArray × ((List ua3) × Unit)))) × Unit) Unit := ⟨59, Tryz.f59, (.cons (Rd.int .i64).w .nil), .nil, fun a b => .start a.1, { rl := (.cons (.agg (.cons (.int .i64) (.cons (.int .i64) (.cons .str (.cons (.sl 25 false) .nil))))) .nil), rb := .nil, done := [0] }, [], mkWr [] []⟩
def u81 : P_z3 → Option (((Int × (Int × (ByteArray × ((List ua3) × Unit)))) × Unit) × Unit)
 | .start n0 =>
  (vx3 (.start n0)) >>= fun t1 =>
  (uC7 (.start (⟨#[66, 105, 116]⟩ : ByteArray) ([(⟨t1.1.1.1, t1.1.1.2.1, t1.1.1.2.2.1, []⟩ : ua3)] : List ua3))) >>= fun t2 =>
  some (((t2.1.1.1, (t2.1.1.2.1, (t2.1.1.2.2.1, (t2.1.1.2.2.2.1, ())))), ()), ())
def c_z3 : ub3 E := b_z3.okc E_ok (run := u81) (b_z3.mk_ok E_ok [c_z2, c_z1] b_z3.none)
inductive P_z4 where
 | start (s0 : (List ByteArray))
def b_z4 : Fb E P_z4 ((List ByteArray) × Unit) Unit := ⟨78, Tryz.f78, (.cons (.sl 9) .nil), .nil, fun a b => .start a.1, { rl := (.cons (.sl 9 true) .nil), rb := .nil, done := [0] }, [], mkWr [] []⟩
def u15 : P_z4 → Option (((List ByteArray) × Unit) × Unit)
 | .start s0 =>
  (bif decide ((List.length s0 : Int) = (List.length s0 : Int)) then span (List.length s0) (0 : Int) (List.length s0 : Int) else none) >>= fun t1 =>
  some ((cut s0 t1, ()), ())
def c_z4 : ub3 E := b_z4.okc E_ok (run := u15) (b_z4.mk_ok E_ok [] b_z4.none)
inductive P_z5 where
 | start (n0 : Int) (lo1 : Int) (hi2 : Int)
def b_z5 : Fb E P_z5 (Bool × Unit) Unit := ⟨70, Tryz.f70, (.cons (Rd.int .i64).w (.cons (Rd.int .i64).w (.cons (Rd.int .i64).w .nil))), .nil, fun a b => .start a.1 a.2.1 a.2.2.1, { rl := (.cons .bool .nil), rb := .nil, done := [0] }, [], mkWr [] []⟩
def ul9 : P_z5 → Option ((Bool × Unit) × Unit)
 | .start n0 lo1 hi2 =>
  if (decide (lo1 ≤ n0)) = true then
   some ((decide (n0 ≤ hi2), ()), ())
  else
   some ((false, ()), ())
def c_z5 : ub3 E := b_z5.okc E_ok (run := ul9) (b_z5.mk_ok E_ok [] b_z5.none)
inductive P_z6 where
 | start (s0 : ByteArray)
 | p52 (s0 : ByteArray) (s7 : (List Int)) (s8 : Int) (s9 : Int)
 | p3379 (s0 : ByteArray) (i3 : Int) (c4 : Int) (letter5 : Bool) (s7 : (List Int)) (s8 : Int) (s9 : Int)
def b_z6 : Fb E P_z6 (Bool × Unit) Unit := ⟨129, Tryz.f129, (.cons Rd.str.w .nil), .nil, fun a b => .start a.1, { rl := (.cons .bool .nil), rb := .nil, done := [0] }, [⟨52, { slots := [0, 7, 8, 9] }, (.cons .str (.cons (.sl 5 false) (.cons (.int .i64) (.cons (.int .i64) .nil)))), .nil, fun a b => .p52 a.1 a.2.1 a.2.2.1 a.2.2.2.1⟩,
 ⟨3379, { slots := [0, 3, 4, 5, 7, 8, 9] }, (.cons .str (.cons (.int .i64) (.cons (.int .u8) (.cons .bool (.cons (.sl 5 false) (.cons (.int .i64) (.cons (.int .i64) .nil))))))), .nil, fun a b => .p3379 a.1 a.2.1 a.2.2.1 a.2.2.2.1 a.2.2.2.2.1 a.2.2.2.2.2.1 a.2.2.2.2.2.2.1⟩], mkWr [] []⟩
def uh8 : P_z6 → Option ((Bool × Unit) × Unit)
 | .start s0 =>
  uh8 (.p52 s0 (ub4 s0) (List.length (ub4 s0) : Int) (0 : Int))
 | .p52 s0 s7 s8 s9 =>
  if (decide (s9 < s8)) = true then
   (idx s7 s9) >>= fun t1 =>
   if (decide ((97 : Int) ≤ t1)) = true then
    if (decide (t1 ≤ (122 : Int))) = true then
     uh8 (.p3379 s0 s9 t1 true s7 s8 s9)
    else
     if (decide ((65 : Int) ≤ t1)) = true then
      uh8 (.p3379 s0 s9 t1 (decide (t1 ≤ (90 : Int))) s7 s8 s9)
     else
      uh8 (.p3379 s0 s9 t1 false s7 s8 s9)
   else
    if (decide ((65 : Int) ≤ t1)) = true then
     uh8 (.p3379 s0 s9 t1 (decide (t1 ≤ (90 : Int))) s7 s8 s9)
    else
     uh8 (.p3379 s0 s9 t1 false s7 s8 s9)
  else
   (ul9 (.start (s0.size : Int) (1 : Int) (16 : Int))) >>= fun t2 =>
   some ((t2.1.1, ()), ())
 | .p3379 s0 i3 c4 letter5 s7 s8 s9 =>
  if (!letter5) = true then
   if (i3 == (0 : Int)) = true then
    some ((false, ()), ())
   else
    if (c4 != (95 : Int)) = true then
     if (decide (c4 < (48 : Int))) = true then
      some ((false, ()), ())
     else
      if (decide (c4 > (57 : Int))) = true then
       some ((false, ()), ())
      else
       uh8 (.p52 s0 s7 s8 (IntKind.wrap .i64 (s9 + (1 : Int))))
    else
     uh8 (.p52 s0 s7 s8 (IntKind.wrap .i64 (s9 + (1 : Int))))
  else
   uh8 (.p52 s0 s7 s8 (IntKind.wrap .i64 (s9 + (1 : Int))))
 partial_fixpoint
def c_z6 : ub3 E := b_z6.okc E_ok (run := uh8) (uh8.partial_correctness b_z6.M fun run' ih => b_z6.mk_ok E_ok [c_z5] ih)
inductive P_z7 where
 | start (is0 : Bool) (e1 : Int)
def b_z7 : Fb E P_z7 (Int × Unit) Unit := ⟨111, Tryz.f111, (.cons Rd.bool.w (.cons (Rd.int .i64).w .nil)), .nil, fun a b => .start a.1 a.2.1, { rl := (.cons (.int .i64) .nil), rb := .nil, done := [0] }, [], mkWr [] []⟩
def uc2 : P_z7 → Option ((Int × Unit) × Unit)
 | .start is0 e1 =>
  if is0 = true then
   some (((0 : Int), ()), ())
  else
   some ((e1, ()), ())
def c_z7 : ub3 E := b_z7.okc E_ok (run := uc2) (b_z7.mk_ok E_ok [] b_z7.none)
inductive P_z8 where
 | start (s0 : (List ByteArray)) (v1 : ByteArray)
 | p52 (s0 : (List ByteArray)) (v1 : ByteArray) (s7 : Int) (s8 : Int)
def b_z8 : Fb E P_z8 (Int × Unit) Unit := ⟨163, Tryz.f163, (.cons (.sl 9) (.cons Rd.str.w .nil)), .nil, fun a b => .start a.1 a.2.1, { rl := (.cons (.int .i64) .nil), rb := .nil, done := [0] }, [⟨52, { slots := [0, 1, 7, 8] }, (.cons (.sl 9 false) (.cons .str (.cons (.int .i64) (.cons (.int .i64) .nil)))), .nil, fun a b => .p52 a.1 a.2.1 a.2.2.1 a.2.2.2.1⟩], mkWr [] []⟩
def uv6 : P_z8 → Option ((Int × Unit) × Unit)
 | .start s0 v1 =>
  uv6 (.p52 s0 v1 (List.length s0 : Int) (0 : Int))
 | .p52 s0 v1 s7 s8 =>
  if (decide (s8 < s7)) = true then
   (idx s0 s8) >>= fun t1 =>
   if (seq v1 t1) = true then
    some ((s8, ()), ())
   else
    uv6 (.p52 s0 v1 s7 (IntKind.wrap .i64 (s8 + (1 : Int))))
  else
   some (((-1 : Int), ()), ())
 partial_fixpoint
def c_z8 : ub3 E := b_z8.okc E_ok (run := uv6) (uv6.partial_correctness b_z8.M fun run' ih => b_z8.mk_ok E_ok [] ih)
inductive P_z9 where
 | start (s0 : (List ByteArray)) (v1 : ByteArray)
def b_z9 : Fb E P_z9 (Bool × Unit) Unit := ⟨144, Tryz.f144, (.cons (.sl 9) (.cons Rd.str.w .nil)), .nil, fun a b => .start a.1 a.2.1, { rl := (.cons .bool .nil), rb := .nil, done := [0] }, [], mkWr [] []⟩
def u21 : P_z9 → Option ((Bool × Unit) × Unit)
 | .start s0 v1 =>
  (uv6 (.start s0 v1)) >>= fun t1 =>
  some ((decide (t1.1.1 ≥ (0 : Int)), ()), ())
def c_z9 : ub3 E := b_z9.okc E_ok (run := u21) (b_z9.mk_ok E_ok [c_z8] b_z9.none)
inductive vO5 where
 | start (l0 : (List Int))
 | p52 (s5 : (List Int)) (s6 : Int) (s7 : Int)
def v55 : Fb E vO5 (Int × Unit) Unit := ⟨69, Tryz.f69, (.cons (.sl 29) .nil), .nil, fun a b => .start a.1, { rl := (.cons (.int .i64) .nil), rb := .nil, done := [0] }, [⟨52, { slots := [5, 6, 7] }, (.cons (.sl 29 false) (.cons (.int .i64) (.cons (.int .i64) .nil))), .nil, fun a b => .p52 a.1 a.2.1 a.2.2.1⟩], mkWr [] []⟩
def uc9 : vO5 → Option ((Int × Unit) × Unit)
 | .start l0 =>
  uc9 (.p52 l0 (List.length l0 : Int) (0 : Int))
 | .p52 s5 s6 s7 =>
  if (decide (s7 < s6)) = true then
   (idx s5 s7) >>= fun t1 =>
   if (t1 != (0 : Int)) = true then
    some ((t1, ()), ())
   else
    uc9 (.p52 s5 s6 (IntKind.wrap .i64 (s7 + (1 : Int))))
  else
   some (((0 : Int), ()), ())
 partial_fixpoint
def vm1 : ub3 E := v55.okc E_ok (run := uc9) (uc9.partial_correctness v55.M fun run' ih => v55.mk_ok E_ok [] ih)
inductive vO6 where
 | start (name0 : ByteArray) (known1 : (List ByteArray))
def v56 : Fb E vO6 (Int × Unit) Unit := ⟨110, Tryz.f110, (.cons Rd.str.w (.cons (.sl 9) .nil)), .nil, fun a b => .start a.1 a.2.1, { rl := (.cons (.int .i64) .nil), rb := .nil, done := [0] }, [], mkWr [] []⟩
def uA2 : vO6 → Option ((Int × Unit) × Unit)
 | .start name0 known1 =>
  (uh8 (.start name0)) >>= fun t1 =>
  (uc2 (.start t1.1.1 (4 : Int))) >>= fun t2 =>
  (u21 (.start known1 name0)) >>= fun t3 =>
  (uc2 (.start (!t3.1.1) (5 : Int))) >>= fun t4 =>
  (uc9 (.start ([t2.1.1, t4.1.1] : List Int))) >>= fun t5 =>
  some ((t5.1.1, ()), ())
def vV9 : ub3 E := v56.okc E_ok (run := uA2) (v56.mk_ok E_ok [vm1, c_z9, c_z7, c_z6] v56.none)
inductive vO7 where
 | start (i0 : Int) (p1 : ByteArray) (s2 : ua2)
def v57 : Fb E vO7 (Int × Unit) Unit := ⟨113, Tryz.f113, (.cons (Rd.int .i64).w (.cons Rd.str.w (.cons (Rd.el 103 0).w .nil))), .nil, fun a b => .start a.1 a.2.1 a.2.2.1, { rl := (.cons (.int .i64) .nil), rb := .nil, done := [0] }, [], mkWr [] []⟩
def u09 : vO7 → Option ((Int × Unit) × Unit)
 | .start i0 p1 s2 =>
  (span (List.length s2.Params) (0 : Int) i0) >>= fun t1 =>
  (uA2 (.start p1 (cut s2.Params t1))) >>= fun t2 =>
  some ((t2.1.1, ()), ())
def wr5 : ub3 E := v57.okc E_ok (run := u09) (v57.mk_ok E_ok [vV9] v57.none)
inductive vO8 where
 | start (l0 : (List ByteArray)) (C0 : ByteArray) (C1 : (List ByteArray)) (C2 : (List ua1))
 | p52 (s9 : (List ByteArray)) (s10 : Int) (s11 : Int) (C0 : ByteArray) (C1 : (List ByteArray)) (C2 : (List ua1))
def v58 : Fb E vO8 (Int × (Int × Unit)) ((ByteArray × ((List ByteArray) × ((List ua1) × Unit))) × Unit) := ⟨112, Tryz.f112, (.cons (.sl 9) (.cons (Rd.fn 113 (.cons (.bp 0 0) .nil)).w .nil)), (.cons (.var 103 (.cons .str (.cons (.sl 9 false) (.cons (.sl 56 false) .nil)))) .nil), fun a b => .start a.1 b.1.1 b.1.2.1 b.1.2.2.1, { rl := (.cons (.int .i64) (.cons (.int .i64) .nil)), rb := (.cons (.var 103 (.cons .str (.cons (.sl 9 false) (.cons (.sl 56 false) .nil)))) .nil), keep := 1, done := [0, 1] }, [⟨52, { slots := [1, 9, 10, 11], keep := 1 }, (.cons (Rd.fn 113 (.cons (.bp 0 0) .nil)) (.cons (.sl 9 false) (.cons (.int .i64) (.cons (.int .i64) .nil)))), (.cons (.var 103 (.cons .str (.cons (.sl 9 false) (.cons (.sl 56 false) .nil)))) .nil), fun a b => .p52 a.2.1 a.2.2.1 a.2.2.2.1 b.1.1 b.1.2.1 b.1.2.2.1⟩], mkWr [] []⟩
def uo8 : vO8 → Option ((Int × (Int × Unit)) × ((ByteArray × ((List ByteArray) × ((List ua1) × Unit))) × Unit))
 | .start l0 C0 C1 C2 =>
  uo8 (.p52 l0 (List.length l0 : Int) (0 : Int) C0 C1 C2)
 | .p52 s9 s10 s11 C0 C1 C2 =>
  if (decide (s11 < s10)) = true then
   (idx s9 s11) >>= fun t1 =>
   (u09 (.start s11 t1 (⟨C0, C1, C2⟩ : ua2))) >>= fun t2 =>
   if (t2.1.1 != (0 : Int)) = true then
    some ((s11, (t2.1.1, ())), ((C0, (C1, (C2, ()))), ()))
   else
    uo8 (.p52 s9 s10 (IntKind.wrap .i64 (s11 + (1 : Int))) C0 C1 C2)
  else
   some (((0 : Int), ((0 : Int), ())), ((C0, (C1, (C2, ()))), ()))
 partial_fixpoint
def wr6 : ub3 E := v58.okc E_ok (run := uo8) (uo8.partial_correctness v58.M fun run' ih => v58.mk_ok E_ok [wr5] ih)
inductive vO9 where
 | start (t0_0 : Int) (t0_1 : Int) (t0_2 : ByteArray) (t0_3 : (List ua3))
def v59 : Fb E vO9 ((List ua3) × Unit) Unit := ⟨140, Tryz.f140, (.cons (.agg (.cons (Rd.int .i64).w (.cons (Rd.int .i64).w (.cons Rd.str.w (.cons (.sl 25) .nil))))) .nil), .nil, fun a b => .start a.1.1 a.1.2.1 a.1.2.2.1 a.1.2.2.2.1, { rl := (.cons (.sl 25 false) .nil), rb := .nil, done := [0] }, [], mkWr [] []⟩
def u10 : vO9 → Option (((List ua3) × Unit) × Unit)
 | .start t0_0 t0_1 t0_2 t0_3 =>
  some ((t0_3, ()), ())
def wr7 : ub3 E := v59.okc E_ok (run := u10) (v59.mk_ok E_ok [] v59.none)
inductive vP0 where
 | start (x0_0 : Int) (x0_1 : Int) (x0_2 : ByteArray) (x0_3 : (List ua3)) (depth1 : Int) (B0 : Int)
 | p15 (depth1 : Int) (B0 : Int) (H0 : Int) (H1 : Int) (H2 : ByteArray) (H3 : (List ua3))
 | p244 (depth1 : Int) (s20 : (List ua3)) (s21 : Int) (s22 : Int) (B0 : Int)
def vU1 : Fb E vP0 (Bool × Unit) ((Int × Unit) × ((Unit × Unit) × (((Unit × (Unit × (Unit × Unit))) × Unit) × Unit))) := ⟨158, Tryz.f158, (.cons (.agg (.cons (Rd.int .i64).w (.cons (Rd.int .i64).w (.cons Rd.str.w (.cons (.sl 25) .nil))))) (.cons (Rd.int .i64).w (.cons (Rd.bp 0 0).w (.cons (Rd.bp 1 0).w (.cons (Rd.bp 2 0).w .nil))))), (.cons (.var 3 (.cons (.int .i64) .nil)) (.cons (.var 182 (.cons (Rd.fn 140 .nil) .nil)) (.cons (.var 200 (.cons (Rd.fn 158 (.cons (.bp 0 0) (.cons (.bp 1 0) (.cons (.bp 2 0) .nil)))) .nil)) .nil))), fun a b => .start a.1.1 a.1.2.1 a.1.2.2.1 a.1.2.2.2.1 a.2.1 b.1.1, { rl := (.cons .bool .nil), rb := (.cons (.var 3 (.cons (.int .i64) .nil)) (.cons (.var 182 (.cons (Rd.fn 140 .nil) .nil)) (.cons (.var 200 (.cons (Rd.fn 158 (.cons (.bp 0 0) (.cons (.bp 1 0) (.cons (.bp 2 0) .nil)))) .nil)) .nil))), keep := 3, done := [0] }, [⟨15, { slots := [1, 3, 4, 5], keep := 3 }, (.cons (.int .i64) (.cons (.bp 1 0) (.cons (.bp 2 0) (.cons (.bp 3 0) .nil)))), (.cons (.var 3 (.cons (.int .i64) .nil)) (.cons (.var 182 (.cons (Rd.fn 140 .nil) .nil)) (.cons (.var 200 (.cons (Rd.fn 158 (.cons (.bp 0 0) (.cons (.bp 1 0) (.cons (.bp 2 0) .nil)))) .nil)) (.cons (.var 25 (.cons (.int .i64) (.cons (.int .i64) (.cons .str (.cons (.sl 25 false) .nil))))) .nil)))), fun a b => .p15 a.1 b.1.1 b.2.2.2.1.1 b.2.2.2.1.2.1 b.2.2.2.1.2.2.1 b.2.2.2.1.2.2.2.1⟩,
 ⟨244, { slots := [1, 4, 20, 21, 22], keep := 3 }, (.cons (.int .i64) (.cons (.bp 2 0) (.cons (.sl 25 false) (.cons (.int .i64) (.cons (.int .i64) .nil))))), (.cons (.var 3 (.cons (.int .i64) .nil)) (.cons (.var 182 (.cons (Rd.fn 140 .nil) .nil)) (.cons (.var 200 (.cons (Rd.fn 158 (.cons (.bp 0 0) (.cons (.bp 1 0) (.cons (.bp 2 0) .nil)))) .nil)) .nil))), fun a b => .p244 a.1 a.2.2.1 a.2.2.2.1 a.2.2.2.2.1 b.1.1⟩], mkWr [] []⟩
def ul3 : vP0 → Option ((Bool × Unit) × ((Int × Unit) × ((Unit × Unit) × (((Unit × (Unit × (Unit × Unit))) × Unit) × Unit))))
 | .start x0_0 x0_1 x0_2 x0_3 depth1 B0 =>
  if (decide ((IntKind.wrap .i64 (B0 + (1 : Int))) > (200 : Int))) = true then
   some ((false, ()), ((IntKind.wrap .i64 (B0 + (1 : Int)), ()), (((), ()), ((((), ((), ((), ()))), ()), ()))))
  else
   if (decide (depth1 > (40 : Int))) = true then
    some ((false, ()), ((IntKind.wrap .i64 (B0 + (1 : Int)), ()), (((), ()), ((((), ((), ((), ()))), ()), ()))))
   else
    ul3 (.p15 depth1 (IntKind.wrap .i64 (B0 + (1 : Int))) x0_0 x0_1 x0_2 x0_3)
 | .p15 depth1 B0 H0 H1 H2 H3 =>
  (u10 (.start H0 H1 H2 H3)) >>= fun t1 =>
  ul3 (.p244 depth1 t1.1.1 (List.length t1.1.1 : Int) (0 : Int) B0)
 | .p244 depth1 s20 s21 s22 B0 =>
  if (decide (s22 < s21)) = true then
   (idx s20 s22) >>= fun t1 =>
   (ul3 (.start t1.Kind t1.Value t1.Name t1.Parts (IntKind.wrap .i64 (depth1 + (1 : Int))) B0)) >>= fun t2 =>
   if (!t2.1.1) = true then
    some ((false, ()), ((t2.2.1.1, ()), (((), ()), ((((), ((), ((), ()))), ()), ()))))
   else
    ul3 (.p244 depth1 s20 s21 (IntKind.wrap .i64 (s22 + (1 : Int))) t2.2.1.1)
  else
   some ((true, ()), ((B0, ()), (((), ()), ((((), ((), ((), ()))), ()), ()))))
 partial_fixpoint
def wr8 : ub3 E := vU1.okc E_ok (run := ul3) (ul3.partial_correctness vU1.M fun run' ih => vU1.mk_ok E_ok [vU1.okc E_ok ih, wr7] ih)
inductive vP1 where
 | start (root0_0 : Int) (root0_1 : Int) (root0_2 : ByteArray) (root0_3 : (List ua3))
def v60 : Fb E vP1 (Int × Unit) Unit := ⟨139, Tryz.f139, (.cons (.agg (.cons (Rd.int .i64).w (.cons (Rd.int .i64).w (.cons Rd.str.w (.cons (.sl 25) .nil))))) (.cons (Rd.fn 140 .nil).w .nil)), .nil, fun a b => .start a.1.1 a.1.2.1 a.1.2.2.1 a.1.2.2.2.1, { rl := (.cons (.int .i64) .nil), rb := .nil, done := [0] }, [], mkWr [] []⟩
def uI0 : vP1 → Option ((Int × Unit) × Unit)
 | .start root0_0 root0_1 root0_2 root0_3 =>
  (ul3 (.start root0_0 root0_1 root0_2 root0_3 (1 : Int) (0 : Int))) >>= fun t1 =>
  (uc2 (.start t1.1.1 (8 : Int))) >>= fun t2 =>
  some ((t2.1.1, ()), ())
def wl6 : ub3 E := v60.okc E_ok (run := uI0) (v60.mk_ok E_ok [c_z7, wr8] v60.none)
inductive vP2 where
 | start (d0_0 : ByteArray) (d0_1 : (List ByteArray)) (d0_2 : (List ua1)) (s1 : ByteArray)
def v61 : Fb E vP2 (Bool × Unit) Unit := ⟨178, Tryz.f178, (.cons (.agg (.cons Rd.str.w (.cons (.sl 9) (.cons (.sl 56) .nil)))) (.cons (Rd.el 9 0).w .nil)), .nil, fun a b => .start a.1.1 a.1.2.1 a.1.2.2.1 a.2.1, { rl := (.cons .bool .nil), rb := .nil, done := [0] }, [], mkWr [] []⟩
def u11 : vP2 → Option ((Bool × Unit) × Unit)
 | .start d0_0 d0_1 d0_2 s1 =>
  some ((seq d0_0 s1, ()), ())
def wr9 : ub3 E := v61.okc E_ok (run := u11) (v61.mk_ok E_ok [] v61.none)
inductive vP3 where
 | start (s0 : (List ua2)) (B0 : ByteArray)
 | p52 (s0 : (List ua2)) (s7 : Int) (s8 : Int) (B0 : ByteArray)
def v62 : Fb E vP3 (Int × Unit) ((ByteArray × Unit) × Unit) := ⟨177, Tryz.f177, (.cons (.sl 103) (.cons (Rd.fn 178 (.cons (.bp 0 0) .nil)).w .nil)), (.cons (.var 9 (.cons .str .nil)) .nil), fun a b => .start a.1 b.1.1, { rl := (.cons (.int .i64) .nil), rb := (.cons (.var 9 (.cons .str .nil)) .nil), keep := 1, done := [0] }, [⟨52, { slots := [0, 1, 7, 8], keep := 1 }, (.cons (.sl 103 false) (.cons (Rd.fn 178 (.cons (.bp 0 0) .nil)) (.cons (.int .i64) (.cons (.int .i64) .nil)))), (.cons (.var 9 (.cons .str .nil)) .nil), fun a b => .p52 a.1 a.2.2.1 a.2.2.2.1 b.1.1⟩], mkWr [] []⟩
def uo9 : vP3 → Option ((Int × Unit) × ((ByteArray × Unit) × Unit))
 | .start s0 B0 =>
  uo9 (.p52 s0 (List.length s0 : Int) (0 : Int) B0)
 | .p52 s0 s7 s8 B0 =>
  if (decide (s8 < s7)) = true then
   (idx s0 s8) >>= fun t1 =>
   (u11 (.start t1.Name t1.Params t1.Constructors B0)) >>= fun t2 =>
   if t2.1.1 = true then
    some ((s8, ()), ((B0, ()), ()))
   else
    uo9 (.p52 s0 s7 (IntKind.wrap .i64 (s8 + (1 : Int))) B0)
  else
   some (((-1 : Int), ()), ((B0, ()), ()))
 partial_fixpoint
def ws1 : ub3 E := v62.okc E_ok (run := uo9) (uo9.partial_correctness v62.M fun run' ih => v62.mk_ok E_ok [wr9] ih)
inductive vP4 where
 | start (s0_0 : (List ua2)) (s0_1 : (List ByteArray)) (name1 : ByteArray)
def v63 : Fb E vP4 ((ByteArray × ((List ByteArray) × ((List ua1) × Unit))) × (Bool × Unit)) Unit := ⟨159, Tryz.f159, (.cons (.agg (.cons (.sl 103) (.cons (.sl 9) .nil))) (.cons Rd.str.w .nil)), .nil, fun a b => .start a.1.1 a.1.2.1 a.2.1, { rl := (.cons (.agg (.cons .str (.cons (.sl 9 false) (.cons (.sl 56 false) .nil)))) (.cons .bool .nil)), rb := .nil, deep := [(false, 0, 1, 9), (false, 0, 2, 56)], done := [0, 1] }, [], mkWr [] []⟩
def uI1 : vP4 → Option (((ByteArray × ((List ByteArray) × ((List ua1) × Unit))) × (Bool × Unit)) × Unit)
 | .start s0_0 s0_1 name1 =>
  (uo9 (.start s0_0 name1)) >>= fun t1 =>
  if (decide (t1.1.1 < (0 : Int))) = true then
   some ((((⟨#[]⟩ : ByteArray), ([], ([], ()))), (false, ())), ())
  else
   (idx s0_0 t1.1.1) >>= fun t2 =>
   some (((t2.Name, (t2.Params, (t2.Constructors, ()))), (true, ())), ())
def wl7 : ub3 E := v63.okc E_ok (run := uI1) (v63.mk_ok E_ok [ws1] v63.none)
inductive vP5 where
 | start (s0 : Int) (x1_0 : Int) (x1_1 : Int) (x1_2 : ByteArray) (x1_3 : (List ua3)) (s2 : us8)
def vG2 : Fb E vP5 (Int × Unit) Unit := ⟨161, Tryz.f161, (.cons (Rd.int .i64).w (.cons (.agg (.cons (Rd.int .i64).w (.cons (Rd.int .i64).w (.cons Rd.str.w (.cons (.sl 25) .nil))))) (.cons (Rd.el 107 0).w .nil))), .nil, fun a b => .start a.1 a.2.1.1 a.2.1.2.1 a.2.1.2.2.1 a.2.1.2.2.2.1 a.2.2.1, { rl := (.cons (.int .i64) .nil), rb := .nil, done := [0] }, [], mkWr [] []⟩
inductive vE0 where
 | start (s0_0 : (List ua2)) (s0_1 : (List ByteArray)) (t1_0 : Int) (t1_1 : Int) (t1_2 : ByteArray) (t1_3 : (List ua3))
 | p15 (count5 : Int) (C0 : (List ua2)) (C1 : (List ByteArray)) (D0 : Int) (D1 : Int) (D2 : ByteArray) (D3 : (List ua3))
 | p63 (C0 : (List ua2)) (C1 : (List ByteArray)) (D0 : Int) (D1 : Int) (D2 : ByteArray) (D3 : (List ua3))
def vz0 : Fb E vE0 (Int × Unit) Unit := ⟨141, Tryz.f141, (.cons (.agg (.cons (.sl 103) (.cons (.sl 9) .nil))) (.cons (.agg (.cons (Rd.int .i64).w (.cons (Rd.int .i64).w (.cons Rd.str.w (.cons (.sl 25) .nil))))) .nil)), .nil, fun a b => .start a.1.1 a.1.2.1 a.2.1.1 a.2.1.2.1 a.2.1.2.2.1 a.2.1.2.2.2.1, { rl := (.cons (.int .i64) .nil), rb := .nil, done := [0] }, [⟨15, { slots := [2, 3, 5] }, (.cons (.bp 0 0) (.cons (.bp 1 0) (.cons (.int .i64) .nil))), (.cons (.var 107 (.cons (.sl 103 false) (.cons (.sl 9 false) .nil))) (.cons (.var 25 (.cons (.int .i64) (.cons (.int .i64) (.cons .str (.cons (.sl 25 false) .nil))))) .nil)), fun a b => .p15 a.2.2.1 b.1.1 b.1.2.1 b.2.1.1 b.2.1.2.1 b.2.1.2.2.1 b.2.1.2.2.2.1⟩,
 ⟨63, { slots := [2, 3] }, (.cons (.bp 0 0) (.cons (.bp 1 0) .nil)), (.cons (.var 107 (.cons (.sl 103 false) (.cons (.sl 9 false) .nil))) (.cons (.var 25 (.cons (.int .i64) (.cons (.int .i64) (.cons .str (.cons (.sl 25 false) .nil))))) .nil)), fun a b => .p63 b.1.1 b.1.2.1 b.2.1.1 b.2.1.2.1 b.2.1.2.2.1 b.2.1.2.2.2.1⟩], mkWr [] []⟩
inductive vP6 where
 | start (l0 : (List ua3)) (C0 : (List ua2)) (C1 : (List ByteArray))
 | p52 (s9 : (List ua3)) (s10 : Int) (s11 : Int) (C0 : (List ua2)) (C1 : (List ByteArray))
def vG3 : Fb E vP6 (Int × (Int × Unit)) (((List ua2) × ((List ByteArray) × Unit)) × Unit) := ⟨160, Tryz.f160, (.cons (.sl 25) (.cons (Rd.fn 161 (.cons (.bp 0 0) .nil)).w .nil)), (.cons (.var 107 (.cons (.sl 103 false) (.cons (.sl 9 false) .nil))) .nil), fun a b => .start a.1 b.1.1 b.1.2.1, { rl := (.cons (.int .i64) (.cons (.int .i64) .nil)), rb := (.cons (.var 107 (.cons (.sl 103 false) (.cons (.sl 9 false) .nil))) .nil), keep := 1, done := [0, 1] }, [⟨52, { slots := [1, 9, 10, 11], keep := 1 }, (.cons (Rd.fn 161 (.cons (.bp 0 0) .nil)) (.cons (.sl 25 false) (.cons (.int .i64) (.cons (.int .i64) .nil)))), (.cons (.var 107 (.cons (.sl 103 false) (.cons (.sl 9 false) .nil))) .nil), fun a b => .p52 a.2.1 a.2.2.1 a.2.2.2.1 b.1.1 b.1.2.1⟩], mkWr [] []⟩
mutual
def uR1 : vP5 → Option ((Int × Unit) × Unit)
 | .start s0 x1_0 x1_1 x1_2 x1_3 s2 =>
  (run_z21 (.start s2.list s2.params x1_0 x1_1 x1_2 x1_3)) >>= fun t1 =>
  some ((t1.1.1, ()), ())
 partial_fixpoint
def run_z21 : vE0 → Option ((Int × Unit) × Unit)
 | .start s0_0 s0_1 t1_0 t1_1 t1_2 t1_3 =>
  if (t1_0 == (0 : Int)) = true then
   (u21 (.start s0_1 t1_2)) >>= fun t1 =>
   if (!t1.1.1) = true then
    some (((6 : Int), ()), ())
   else
    run_z21 (.p15 (0 : Int) s0_0 s0_1 t1_0 t1_1 t1_2 t1_3)
  else
   if (t1_0 == (1 : Int)) = true then
    (uI1 (.start s0_0 s0_1 t1_2)) >>= fun t2 =>
    if t2.1.2.1 = true then
     run_z21 (.p15 (List.length t2.1.1.2.1 : Int) s0_0 s0_1 t1_0 t1_1 t1_2 t1_3)
    else
     if (seq t1_2 (⟨#[66, 105, 116]⟩ : ByteArray)) = true then
      run_z21 (.p15 (1 : Int) s0_0 s0_1 t1_0 t1_1 t1_2 t1_3)
     else
      if (!(seq t1_2 (⟨#[66, 111, 111, 108]⟩ : ByteArray))) = true then
       some (((6 : Int), ()), ())
      else
       run_z21 (.p15 (0 : Int) s0_0 s0_1 t1_0 t1_1 t1_2 t1_3)
   else
    if (t1_0 == (2 : Int)) = true then
     run_z21 (.p15 (0 : Int) s0_0 s0_1 t1_0 t1_1 t1_2 t1_3)
    else
     some (((15 : Int), ()), ())
 | .p15 count5 C0 C1 D0 D1 D2 D3 =>
  if ((List.length D3 : Int) != count5) = true then
   some (((10 : Int), ()), ())
  else
   if (D0 == (2 : Int)) = true then
    (ul9 (.start D1 (0 : Int) (1000000000 : Int))) >>= fun t1 =>
    if (!t1.1.1) = true then
     some (((2 : Int), ()), ())
    else
     run_z21 (.p63 C0 C1 D0 D1 D2 D3)
   else
    run_z21 (.p63 C0 C1 D0 D1 D2 D3)
 | .p63 C0 C1 D0 D1 D2 D3 =>
  (run_z22 (.start D3 C0 C1)) >>= fun t1 =>
  some ((t1.1.2.1, ()), ())
 partial_fixpoint
def run_z22 : vP6 → Option ((Int × (Int × Unit)) × (((List ua2) × ((List ByteArray) × Unit)) × Unit))
 | .start l0 C0 C1 =>
  run_z22 (.p52 l0 (List.length l0 : Int) (0 : Int) C0 C1)
 | .p52 s9 s10 s11 C0 C1 =>
  if (decide (s11 < s10)) = true then
   (idx s9 s11) >>= fun t1 =>
   (uR1 (.start s11 t1.Kind t1.Value t1.Name t1.Parts (⟨C0, C1⟩ : us8))) >>= fun t2 =>
   if (t2.1.1 != (0 : Int)) = true then
    some ((s11, (t2.1.1, ())), ((C0, (C1, ())), ()))
   else
    run_z22 (.p52 s9 s10 (IntKind.wrap .i64 (s11 + (1 : Int))) C0 C1)
  else
   some (((0 : Int), ((0 : Int), ())), ((C0, (C1, ())), ()))
 partial_fixpoint
end
theorem vJ0 : vG2.Ok uR1 ∧ vz0.Ok run_z21 ∧ vG3.Ok run_z22 := by
  refine uR1.mutual_partial_correctness vG2.M vz0.M vG3.M ?_ ?_ ?_
  · exact fun r_z21 h_z21 => vG2.mk_ok E_ok [vz0.okc E_ok h_z21] vG2.none
  · exact fun r_z21 r_z22 h_z21 h_z22 => vz0.mk_ok E_ok [vG3.okc E_ok h_z22, vz0.okc E_ok h_z21, c_z5, wl7, c_z9] h_z21
  · exact fun r_z20 r_z22 h_z20 h_z22 => vG3.mk_ok E_ok [vG3.okc E_ok h_z22, vG2.okc E_ok h_z20] h_z22
def ws2 : ub3 E := vz0.okc E_ok vJ0.2.1
inductive vP7 where
 | start (s0_0 : (List ua2)) (s0_1 : (List ByteArray)) (t1_0 : Int) (t1_1 : Int) (t1_2 : ByteArray) (t1_3 : (List ua3))
def v64 : Fb E vP7 (Int × Unit) Unit := ⟨105, Tryz.f105, (.cons (.agg (.cons (.sl 103) (.cons (.sl 9) .nil))) (.cons (.agg (.cons (Rd.int .i64).w (.cons (Rd.int .i64).w (.cons Rd.str.w (.cons (.sl 25) .nil))))) .nil)), .nil, fun a b => .start a.1.1 a.1.2.1 a.2.1.1 a.2.1.2.1 a.2.1.2.2.1 a.2.1.2.2.2.1, { rl := (.cons (.int .i64) .nil), rb := .nil, done := [0] }, [], mkWr [] []⟩
def uI2 : vP7 → Option ((Int × Unit) × Unit)
 | .start s0_0 s0_1 t1_0 t1_1 t1_2 t1_3 =>
  (uI0 (.start t1_0 t1_1 t1_2 t1_3)) >>= fun t1 =>
  if (t1.1.1 != (0 : Int)) = true then
   some ((t1.1.1, ()), ())
  else
   (run_z21 (.start s0_0 s0_1 t1_0 t1_1 t1_2 t1_3)) >>= fun t2 =>
   some ((t2.1.1, ()), ())
def wl8 : ub3 E := v64.okc E_ok (run := uI2) (v64.mk_ok E_ok [ws2, wl6] v64.none)
inductive vP8 where
 | start (s0 : Int) (f1_0 : ByteArray) (f1_1 : Int) (f1_2 : Int) (f1_3 : ByteArray) (f1_4 : (List ua3)) (D0 : (List ua2)) (D1 : (List ByteArray)) (B2 : (List ByteArray))
def v65 : Fb E vP8 (Int × Unit) ((Unit × Unit) × (((List ua2) × ((List ByteArray) × Unit)) × ((List ByteArray) × Unit))) := ⟨117, Tryz.f117, (.cons (Rd.int .i64).w (.cons (.agg (.cons Rd.str.w (.cons (Rd.int .i64).w (.cons (Rd.int .i64).w (.cons Rd.str.w (.cons (.sl 25) .nil)))))) (.cons (Rd.bp 0 0).w (.cons (Rd.bp 1 0).w .nil)))), (.cons (.var 101 (.cons (Rd.rw 2) .nil)) (.cons (.var 107 (.cons (.sl 103 false) (.cons (.sl 9 false) .nil))) (.cons (.row 9 false) .nil))), fun a b => .start a.1 a.2.1.1 a.2.1.2.1 a.2.1.2.2.1 a.2.1.2.2.2.1 a.2.1.2.2.2.2.1 b.2.1.1 b.2.1.2.1 b.2.2.1, { rl := (.cons (.int .i64) .nil), rb := (.cons (.var 101 (.cons (Rd.rw 2) .nil)) (.cons (.var 107 (.cons (.sl 103 false) (.cons (.sl 9 false) .nil))) (.cons (.row 9 false) .nil))), keep := 2, done := [0] }, [], mkWr [] []⟩
def u12 : vP8 → Option ((Int × Unit) × ((Unit × Unit) × (((List ua2) × ((List ByteArray) × Unit)) × ((List ByteArray) × Unit))))
 | .start s0 f1_0 f1_1 f1_2 f1_3 f1_4 D0 D1 B2 =>
  (uA2 (.start f1_0 B2)) >>= fun t1 =>
  if (t1.1.1 != (0 : Int)) = true then
   some ((t1.1.1, ()), (((), ()), ((D0, (D1, ())), (B2, ()))))
  else
   if (fits (List.length B2) (List.length ([f1_0] : List ByteArray)) 16) = true then
    (uI2 (.start D0 D1 f1_1 f1_2 f1_3 f1_4)) >>= fun t2 =>
    some ((t2.1.1, ()), (((), ()), ((D0, (D1, ())), (B2 ++ ([f1_0] : List ByteArray), ()))))
   else none
def ws3 : ub3 E := v65.okc E_ok (run := u12) (v65.mk_ok E_ok [wl8, vV9] v65.none)
inductive vP9 where
 | start (l0 : (List ua6)) (D0 : (List ua2)) (D1 : (List ByteArray))
 | p52 (s9 : (List ua6)) (s10 : Int) (s11 : Int) (D0 : (List ua2)) (D1 : (List ByteArray)) (B2 : (List ByteArray))
def v66 : Fb E vP9 (Int × (Int × Unit)) ((Unit × Unit) × (((List ua2) × ((List ByteArray) × Unit)) × ((List ByteArray) × Unit))) := ⟨116, Tryz.f116, (.cons (.sl 58) (.cons (Rd.fn 117 (.cons (.bp 0 0) (.cons (.bp 1 0) .nil))).w .nil)), (.cons (.var 101 (.cons Rd.nl .nil)) (.cons (.var 107 (.cons (.sl 103 false) (.cons (.sl 9 false) .nil))) .nil)), fun a b => .start a.1 b.2.1.1 b.2.1.2.1, { rl := (.cons (.int .i64) (.cons (.int .i64) .nil)), rb := (.cons (.var 101 (.cons (Rd.rw 2) .nil)) (.cons (.var 107 (.cons (.sl 103 false) (.cons (.sl 9 false) .nil))) (.cons (.row 9 true) .nil))), keep := 2, done := [0, 1, 100000] }, [⟨52, { slots := [1, 9, 10, 11], keep := 2, up := [(true, 100000, 0, 9)] }, (.cons (Rd.fn 117 (.cons (.bp 0 0) (.cons (.bp 1 0) .nil))) (.cons (.sl 58 false) (.cons (.int .i64) (.cons (.int .i64) .nil)))), (.cons (.var 101 (.cons (Rd.rw 2) .nil)) (.cons (.var 107 (.cons (.sl 103 false) (.cons (.sl 9 false) .nil))) (.cons (.row 9 false) .nil))), fun a b => .p52 a.2.1 a.2.2.1 a.2.2.2.1 b.2.1.1 b.2.1.2.1 b.2.2.1⟩], mkWr [] []⟩
def up0 : vP9 → Option ((Int × (Int × Unit)) × ((Unit × Unit) × (((List ua2) × ((List ByteArray) × Unit)) × ((List ByteArray) × Unit))))
 | .start l0 D0 D1 =>
  up0 (.p52 l0 (List.length l0 : Int) (0 : Int) D0 D1 ([] : List ByteArray))
 | .p52 s9 s10 s11 D0 D1 B2 =>
  if (decide (s11 < s10)) = true then
   (idx s9 s11) >>= fun t1 =>
   (u12 (.start s11 t1.Name t1.Type_.Kind t1.Type_.Value t1.Type_.Name t1.Type_.Parts D0 D1 B2)) >>= fun t2 =>
   if (t2.1.1 != (0 : Int)) = true then
    some ((s11, (t2.1.1, ())), (((), ()), ((t2.2.2.1.1, (t2.2.2.1.2.1, ())), (t2.2.2.2.1, ()))))
   else
    up0 (.p52 s9 s10 (IntKind.wrap .i64 (s11 + (1 : Int))) t2.2.2.1.1 t2.2.2.1.2.1 t2.2.2.2.1)
  else
   some (((0 : Int), ((0 : Int), ())), (((), ()), ((D0, (D1, ())), (B2, ()))))
 partial_fixpoint
def ws4 : ub3 E := v66.okc E_ok (run := up0) (up0.partial_correctness v66.M fun run' ih => v66.mk_ok E_ok [ws3] ih)
inductive vQ0 where
 | start (s0 : Int) (c1_0 : ByteArray) (c1_1 : (List ua6)) (D0 : (List ua2)) (D1 : (List ByteArray)) (B2 : (List ByteArray))
def v67 : Fb E vQ0 (Int × Unit) ((Unit × Unit) × (((List ua2) × ((List ByteArray) × Unit)) × ((List ByteArray) × Unit))) := ⟨115, Tryz.f115, (.cons (Rd.int .i64).w (.cons (.agg (.cons Rd.str.w (.cons (.sl 58) .nil))) (.cons (Rd.bp 0 0).w (.cons (Rd.bp 1 0).w .nil)))), (.cons (.var 101 (.cons (Rd.rw 2) .nil)) (.cons (.var 107 (.cons (.sl 103 false) (.cons (.sl 9 false) .nil))) (.cons (.row 9 true) .nil))), fun a b => .start a.1 a.2.1.1 a.2.1.2.1 b.2.1.1 b.2.1.2.1 b.2.2.1, { rl := (.cons (.int .i64) .nil), rb := (.cons (.var 101 (.cons (Rd.rw 2) .nil)) (.cons (.var 107 (.cons (.sl 103 false) (.cons (.sl 9 false) .nil))) (.cons (.row 9 true) .nil))), keep := 2, done := [0] }, [], mkWr [] []⟩
def u13 : vQ0 → Option ((Int × Unit) × ((Unit × Unit) × (((List ua2) × ((List ByteArray) × Unit)) × ((List ByteArray) × Unit))))
 | .start s0 c1_0 c1_1 D0 D1 B2 =>
  (uA2 (.start c1_0 B2)) >>= fun t1 =>
  (uc2 (.start (decide ((List.length c1_1 : Int) ≤ (8 : Int))) (8 : Int))) >>= fun t2 =>
  (uc9 (.start ([t1.1.1, t2.1.1] : List Int))) >>= fun t3 =>
  if (t3.1.1 != (0 : Int)) = true then
   some ((t3.1.1, ()), (((), ()), ((D0, (D1, ())), (B2, ()))))
  else
   if (fits (List.length B2) (List.length ([c1_0] : List ByteArray)) 16) = true then
    (up0 (.start c1_1 D0 D1)) >>= fun t4 =>
    some ((t4.1.2.1, ()), (((), ()), ((t4.2.2.1.1, (t4.2.2.1.2.1, ())), (B2 ++ ([c1_0] : List ByteArray), ()))))
   else none
def ws5 : ub3 E := v67.okc E_ok (run := u13) (v67.mk_ok E_ok [ws4, vm1, c_z7, vV9] v67.none)
inductive vQ1 where
 | start (l0 : (List ua1)) (D0 : (List ua2)) (D1 : (List ByteArray)) (B2 : (List ByteArray))
 | p52 (s9 : (List ua1)) (s10 : Int) (s11 : Int) (D0 : (List ua2)) (D1 : (List ByteArray)) (B2 : (List ByteArray))
def v68 : Fb E vQ1 (Int × (Int × Unit)) ((Unit × Unit) × (((List ua2) × ((List ByteArray) × Unit)) × ((List ByteArray) × Unit))) := ⟨114, Tryz.f114, (.cons (.sl 56) (.cons (Rd.fn 115 (.cons (.bp 0 0) (.cons (.bp 1 0) .nil))).w .nil)), (.cons (.var 101 (.cons (Rd.rw 2) .nil)) (.cons (.var 107 (.cons (.sl 103 false) (.cons (.sl 9 false) .nil))) (.cons (.row 9 true) .nil))), fun a b => .start a.1 b.2.1.1 b.2.1.2.1 b.2.2.1, { rl := (.cons (.int .i64) (.cons (.int .i64) .nil)), rb := (.cons (.var 101 (.cons (Rd.rw 2) .nil)) (.cons (.var 107 (.cons (.sl 103 false) (.cons (.sl 9 false) .nil))) (.cons (.row 9 true) .nil))), keep := 2, done := [0, 1] }, [⟨52, { slots := [1, 9, 10, 11], keep := 2 }, (.cons (Rd.fn 115 (.cons (.bp 0 0) (.cons (.bp 1 0) .nil))) (.cons (.sl 56 false) (.cons (.int .i64) (.cons (.int .i64) .nil)))), (.cons (.var 101 (.cons (Rd.rw 2) .nil)) (.cons (.var 107 (.cons (.sl 103 false) (.cons (.sl 9 false) .nil))) (.cons (.row 9 true) .nil))), fun a b => .p52 a.2.1 a.2.2.1 a.2.2.2.1 b.2.1.1 b.2.1.2.1 b.2.2.1⟩], mkWr [] []⟩
def up1 : vQ1 → Option ((Int × (Int × Unit)) × ((Unit × Unit) × (((List ua2) × ((List ByteArray) × Unit)) × ((List ByteArray) × Unit))))
 | .start l0 D0 D1 B2 =>
  up1 (.p52 l0 (List.length l0 : Int) (0 : Int) D0 D1 B2)
 | .p52 s9 s10 s11 D0 D1 B2 =>
  if (decide (s11 < s10)) = true then
   (idx s9 s11) >>= fun t1 =>
   (u13 (.start s11 t1.Name t1.Fields D0 D1 B2)) >>= fun t2 =>
   if (t2.1.1 != (0 : Int)) = true then
    some ((s11, (t2.1.1, ())), (((), ()), ((t2.2.2.1.1, (t2.2.2.1.2.1, ())), (t2.2.2.2.1, ()))))
   else
    up1 (.p52 s9 s10 (IntKind.wrap .i64 (s11 + (1 : Int))) t2.2.2.1.1 t2.2.2.1.2.1 t2.2.2.2.1)
  else
   some (((0 : Int), ((0 : Int), ())), (((), ()), ((D0, (D1, ())), (B2, ()))))
 partial_fixpoint
def ws6 : ub3 E := v68.okc E_ok (run := up1) (up1.partial_correctness v68.M fun run' ih => v68.mk_ok E_ok [ws5] ih)
inductive vQ2 where
 | start (s0_0 : (List ua2)) (s0_1 : (List ByteArray)) (d1_0 : ByteArray) (d1_1 : (List ByteArray)) (d1_2 : (List ua1)) (names2 : (List ByteArray)) (constructors3 : (List ByteArray))
 | p7 (constructors3 : (List ByteArray)) (e9 : Int) (C0 : (List ua2)) (C1 : (List ByteArray)) (D0 : ByteArray) (D1 : (List ByteArray)) (D2 : (List ua1))
def v69 : Fb E vQ2 (Int × Unit) Unit := ⟨77, Tryz.f77, (.cons (.agg (.cons (.sl 103) (.cons (.sl 9) .nil))) (.cons (.agg (.cons Rd.str.w (.cons (.sl 9) (.cons (.sl 56) .nil)))) (.cons (Rd.sl 9 true).w (.cons (Rd.sl 9 true).w .nil)))), .nil, fun a b => .start a.1.1 a.1.2.1 a.2.1.1 a.2.1.2.1 a.2.1.2.2.1 a.2.2.1 a.2.2.2.1, { rl := (.cons (.int .i64) .nil), rb := .nil, done := [0] }, [⟨7, { slots := [3, 4, 5, 9] }, (.cons (.sl 9 true) (.cons (.bp 0 0) (.cons (.bp 1 0) (.cons (.int .i64) .nil)))), (.cons (.var 107 (.cons (.sl 103 false) (.cons (.sl 9 false) .nil))) (.cons (.var 103 (.cons .str (.cons (.sl 9 false) (.cons (.sl 56 false) .nil)))) .nil)), fun a b => .p7 a.1 a.2.2.2.1 b.1.1 b.1.2.1 b.2.1.1 b.2.1.2.1 b.2.1.2.2.1⟩], mkWr [] []⟩
def ut8 : vQ2 → Option ((Int × Unit) × Unit)
 | .start s0_0 s0_1 d1_0 d1_1 d1_2 names2 constructors3 =>
  if (fits (List.length names2) (List.length ([(⟨#[66, 105, 116]⟩ : ByteArray), (⟨#[66, 111, 111, 108]⟩ : ByteArray), (⟨#[73, 110, 116, 101, 103, 101, 114]⟩ : ByteArray)] : List ByteArray)) 16) = true then
   (uA2 (.start d1_0 (names2 ++ ([(⟨#[66, 105, 116]⟩ : ByteArray), (⟨#[66, 111, 111, 108]⟩ : ByteArray), (⟨#[73, 110, 116, 101, 103, 101, 114]⟩ : ByteArray)] : List ByteArray)))) >>= fun t1 =>
   if (decide ((List.length d1_1 : Int) ≤ (4 : Int))) = true then
    (uc2 (.start (decide ((List.length d1_2 : Int) ≤ (16 : Int))) (8 : Int))) >>= fun t2 =>
    (uc2 (.start (decide ((List.length d1_2 : Int) > (0 : Int))) (10 : Int))) >>= fun t3 =>
    (uc9 (.start ([t1.1.1, t2.1.1, t3.1.1] : List Int))) >>= fun t4 =>
    ut8 (.p7 constructors3 t4.1.1 s0_0 s0_1 d1_0 d1_1 d1_2)
   else
    (uc2 (.start false (8 : Int))) >>= fun t5 =>
    (uc2 (.start (decide ((List.length d1_2 : Int) > (0 : Int))) (10 : Int))) >>= fun t6 =>
    (uc9 (.start ([t1.1.1, t5.1.1, t6.1.1] : List Int))) >>= fun t7 =>
    ut8 (.p7 constructors3 t7.1.1 s0_0 s0_1 d1_0 d1_1 d1_2)
  else none
 | .p7 constructors3 e9 C0 C1 D0 D1 D2 =>
  if (e9 != (0 : Int)) = true then
   some ((e9, ()), ())
  else
   (uo8 (.start D1 D0 D1 D2)) >>= fun t1 =>
   if (t1.1.2.1 != (0 : Int)) = true then
    some ((t1.1.2.1, ()), ())
   else
    if (fits (List.length constructors3) (List.length ([(⟨#[70, 97, 108, 115, 101]⟩ : ByteArray), (⟨#[84, 114, 117, 101]⟩ : ByteArray)] : List ByteArray)) 16) = true then
     (up1 (.start t1.2.1.2.2.1 C0 t1.2.1.2.1 (constructors3 ++ ([(⟨#[70, 97, 108, 115, 101]⟩ : ByteArray), (⟨#[84, 114, 117, 101]⟩ : ByteArray)] : List ByteArray)))) >>= fun t2 =>
     some ((t2.1.2.1, ()), ())
    else none
 partial_fixpoint
def ws7 : ub3 E := v69.okc E_ok (run := ut8) (ut8.partial_correctness v69.M fun run' ih => v69.mk_ok E_ok [ws6, wr6, vm1, c_z7, vV9] ih)
inductive vQ3 where
 | start (i0 : Int) (d1_0 : ByteArray) (d1_1 : (List ByteArray)) (d1_2 : (List ua1)) (B0 : (List ua2)) (B3 : (List ByteArray)) (B4 : (List ByteArray))
 | p244 (e8 : Int) (s27 : (List ua1)) (s28 : Int) (s29 : Int) (B0 : (List ua2)) (B3 : (List ByteArray)) (B4 : (List ByteArray))
def v71 : Fb E vQ3 (Int × Unit) (((List ua2) × Unit) × ((Unit × Unit) × ((Unit × Unit) × ((List ByteArray) × ((List ByteArray) × Unit))))) := ⟨76, Tryz.f76, (.cons (Rd.int .i64).w (.cons (.agg (.cons Rd.str.w (.cons (.sl 9) (.cons (.sl 56) .nil)))) (.cons (Rd.bp 0 0).w (.cons (Rd.bp 1 0).w (.cons (Rd.bp 2 0).w .nil))))), (.cons (.var 22 (.cons (.sl 103 false) .nil)) (.cons (.var 101 (.cons (Rd.rw 3) .nil)) (.cons (.var 101 (.cons (Rd.rw 4) .nil)) (.cons (.row 9 true) (.cons (.row 9 true) .nil))))), fun a b => .start a.1 a.2.1.1 a.2.1.2.1 a.2.1.2.2.1 b.1.1 b.2.2.2.1 b.2.2.2.2.1, { rl := (.cons (.int .i64) .nil), rb := (.cons (.var 22 (.cons (.sl 103 false) .nil)) (.cons (.var 101 (.cons (Rd.rw 3) .nil)) (.cons (.var 101 (.cons (Rd.rw 4) .nil)) (.cons (.row 9 true) (.cons (.row 9 true) .nil))))), keep := 3, done := [0] }, [⟨244, { slots := [4, 8, 27, 28, 29], keep := 3 }, (.cons (.bp 2 0) (.cons (.int .i64) (.cons (.sl 56 false) (.cons (.int .i64) (.cons (.int .i64) .nil))))), (.cons (.var 22 (.cons (.sl 103 false) .nil)) (.cons (.var 101 (.cons (Rd.rw 3) .nil)) (.cons (.var 101 (.cons (Rd.rw 4) .nil)) (.cons (.row 9 true) (.cons (.row 9 true) .nil))))), fun a b => .p244 a.2.1 a.2.2.1 a.2.2.2.1 a.2.2.2.2.1 b.1.1 b.2.2.2.1 b.2.2.2.2.1⟩], mkWr [] []⟩
def up2 : vQ3 → Option ((Int × Unit) × (((List ua2) × Unit) × ((Unit × Unit) × ((Unit × Unit) × ((List ByteArray) × ((List ByteArray) × Unit))))))
 | .start i0 d1_0 d1_1 d1_2 B0 B3 B4 =>
  (span (List.length B0) (0 : Int) i0) >>= fun t1 =>
  (u15 (.start B3)) >>= fun t2 =>
  (u15 (.start B4)) >>= fun t3 =>
  (ut8 (.start (cut B0 t1) ([]) d1_0 d1_1 d1_2 t2.1.1 t3.1.1)) >>= fun t4 =>
  if (fits (List.length B3) (List.length ([d1_0] : List ByteArray)) 16) = true then
   up2 (.p244 t4.1.1 d1_2 (List.length d1_2 : Int) (0 : Int) B0 (B3 ++ ([d1_0] : List ByteArray)) B4)
  else none
 | .p244 e8 s27 s28 s29 B0 B3 B4 =>
  if (decide (s29 < s28)) = true then
   (idx s27 s29) >>= fun t1 =>
   if (fits (List.length B4) (List.length ([t1.Name] : List ByteArray)) 16) = true then
    up2 (.p244 e8 s27 s28 (IntKind.wrap .i64 (s29 + (1 : Int))) B0 B3 (B4 ++ ([t1.Name] : List ByteArray)))
   else none
  else
   some ((e8, ()), ((B0, ()), (((), ()), (((), ()), (B3, (B4, ()))))))
 partial_fixpoint
def ws8 : ub3 E := v71.okc E_ok (run := up2) (up2.partial_correctness v71.M fun run' ih => v71.mk_ok E_ok [ws7, c_z4] ih)
inductive vQ4 where
 | start (l0 : (List ua2)) (B0 : (List ua2))
 | p52 (s9 : (List ua2)) (s10 : Int) (s11 : Int) (B0 : (List ua2)) (B3 : (List ByteArray)) (B4 : (List ByteArray))
def v73 : Fb E vQ4 (Int × (Int × Unit)) (((List ua2) × Unit) × ((Unit × Unit) × ((Unit × Unit) × ((List ByteArray) × ((List ByteArray) × Unit))))) := ⟨75, Tryz.f75, (.cons (.sl 103) (.cons (Rd.fn 76 (.cons (.bp 0 0) (.cons (.bp 1 0) (.cons (.bp 2 0) .nil)))).w .nil)), (.cons (.var 22 (.cons (.sl 103 false) .nil)) (.cons (.var 101 (.cons Rd.nl .nil)) (.cons (.var 101 (.cons Rd.nl .nil)) .nil))), fun a b => .start a.1 b.1.1, { rl := (.cons (.int .i64) (.cons (.int .i64) .nil)), rb := (.cons (.var 22 (.cons (.sl 103 false) .nil)) (.cons (.var 101 (.cons (Rd.rw 3) .nil)) (.cons (.var 101 (.cons (Rd.rw 4) .nil)) (.cons (.row 9 true) (.cons (.row 9 true) .nil))))), keep := 3, done := [0, 1, 100002] }, [⟨52, { slots := [1, 9, 10, 11], keep := 3, up := [(true, 100001, 0, 9), (true, 100002, 0, 9)], done := [1] }, (.cons (Rd.fn 76 (.cons (.bp 0 0) (.cons (.bp 1 0) (.cons (.bp 2 0) .nil)))) (.cons (.sl 103 false) (.cons (.int .i64) (.cons (.int .i64) .nil)))), (.cons (.var 22 (.cons (.sl 103 false) .nil)) (.cons (.var 101 (.cons (Rd.rw 3) .nil)) (.cons (.var 101 (.cons (Rd.rw 4) .nil)) (.cons (.row 9 true) (.cons (.row 9 true) .nil))))), fun a b => .p52 a.2.1 a.2.2.1 a.2.2.2.1 b.1.1 b.2.2.2.1 b.2.2.2.2.1⟩], mkWr [] []⟩
def ur1 : vQ4 → Option ((Int × (Int × Unit)) × (((List ua2) × Unit) × ((Unit × Unit) × ((Unit × Unit) × ((List ByteArray) × ((List ByteArray) × Unit))))))
 | .start l0 B0 =>
  ur1 (.p52 l0 (List.length l0 : Int) (0 : Int) B0 ([] : List ByteArray) ([] : List ByteArray))
 | .p52 s9 s10 s11 B0 B3 B4 =>
  if (decide (s11 < s10)) = true then
   (idx s9 s11) >>= fun t1 =>
   (up2 (.start s11 t1.Name t1.Params t1.Constructors B0 B3 B4)) >>= fun t2 =>
   if (t2.1.1 != (0 : Int)) = true then
    some ((s11, (t2.1.1, ())), ((t2.2.1.1, ()), (((), ()), (((), ()), (t2.2.2.2.2.1, (t2.2.2.2.2.2.1, ()))))))
   else
    ur1 (.p52 s9 s10 (IntKind.wrap .i64 (s11 + (1 : Int))) t2.2.1.1 t2.2.2.2.2.1 t2.2.2.2.2.2.1)
  else
   some (((0 : Int), ((0 : Int), ())), ((B0, ()), (((), ()), (((), ()), (B3, (B4, ()))))))
 partial_fixpoint
def ws9 : ub3 E := v73.okc E_ok (run := ur1) (ur1.partial_correctness v73.M fun run' ih => v73.mk_ok E_ok [ws8] ih)
inductive vQ5 where
 | start (l0 : (List ua2))
def v74 : Fb E vQ5 (Int × (Int × Unit)) Unit := ⟨23, Tryz.f23, (.cons (.sl 103) .nil), .nil, fun a b => .start a.1, { rl := (.cons (.int .i64) (.cons (.int .i64) .nil)), rb := .nil, done := [0, 1] }, [], mkWr [] []⟩
def uR2 : vQ5 → Option ((Int × (Int × Unit)) × Unit)
 | .start l0 =>
  if (decide ((List.length l0 : Int) > (20 : Int))) = true then
   some (((0 : Int), ((8 : Int), ())), ())
  else
   (ur1 (.start l0 l0)) >>= fun t1 =>
   some ((t1.1.1, (t1.1.2.1, ())), ())
def wt0 : ub3 E := v74.okc E_ok (run := uR2) (v74.mk_ok E_ok [ws9] v74.none)
inductive vQ6 where
 | start (t0_0 : Int) (t0_1 : Int) (t0_2 : ByteArray) (t0_3 : (List ua3)) (params1 : (List ByteArray)) (args2 : (List ua3))
 | p27 (params1 : (List ByteArray)) (args2 : (List ua3)) (i7 : Int) (s21 : Bool) (C0 : Int) (C1 : Int) (C2 : ByteArray) (C3 : (List ua3)) (D0 : Int) (D1 : Int) (D2 : ByteArray)
 | p500 (params1 : (List ByteArray)) (args2 : (List ua3)) (s30 : (List ua3)) (s31 : Int) (s32 : Int) (C0 : Int) (C1 : Int) (C2 : ByteArray) (D0 : Int) (D1 : Int) (D2 : ByteArray) (B2 : (List ua3))
def vU2 : Fb E vQ6 ((Int × (Int × (ByteArray × ((List ua3) × Unit)))) × Unit) Unit := ⟨162, Tryz.f162, (.cons (.agg (.cons (Rd.int .i64).w (.cons (Rd.int .i64).w (.cons Rd.str.w (.cons (.sl 25) .nil))))) (.cons (.sl 9) (.cons (.sl 25) .nil))), .nil, fun a b => .start a.1.1 a.1.2.1 a.1.2.2.1 a.1.2.2.2.1 a.2.1 a.2.2.1, { rl := (.cons (.agg (.cons (.int .i64) (.cons (.int .i64) (.cons .str (.cons (.sl 25 false) .nil))))) .nil), rb := .nil, deep := [(false, 0, 3, 25)], done := [0] }, [⟨27, { slots := [1, 2, 3, 6, 7, 21] }, (.cons (.sl 9 false) (.cons (.sl 25 false) (.cons (.bp 0 0) (.cons (.bp 1 0) (.cons (.int .i64) (.cons .bool .nil)))))), (.cons (.var 25 (.cons (.int .i64) (.cons (.int .i64) (.cons .str (.cons (.sl 25 false) .nil))))) (.cons (.var 25 (.cons (.int .i64) (.cons (.int .i64) (.cons .str (.cons Rd.nl .nil))))) .nil)), fun a b => .p27 a.1 a.2.1 a.2.2.2.2.1 a.2.2.2.2.2.1 b.1.1 b.1.2.1 b.1.2.2.1 b.1.2.2.2.1 b.2.1.1 b.2.1.2.1 b.2.1.2.2.1⟩,
 ⟨500, { slots := [1, 2, 6, 8, 30, 31, 32], up := [(true, 8, 3, 25)] }, (.cons (.sl 9 false) (.cons (.sl 25 false) (.cons (.bp 0 0) (.cons (.bp 1 0) (.cons (.sl 25 false) (.cons (.int .i64) (.cons (.int .i64) .nil))))))), (.cons (.var 25 (.cons (.int .i64) (.cons (.int .i64) (.cons .str (.cons Rd.nl .nil))))) (.cons (.var 25 (.cons (.int .i64) (.cons (.int .i64) (.cons .str (.cons (Rd.rw 2) .nil))))) (.cons (.row 25 false) .nil))), fun a b => .p500 a.1 a.2.1 a.2.2.2.2.1 a.2.2.2.2.2.1 a.2.2.2.2.2.2.1 b.1.1 b.1.2.1 b.1.2.2.1 b.2.1.1 b.2.1.2.1 b.2.1.2.2.1 b.2.2.1⟩], mkWr [] []⟩
def ug2 : vQ6 → Option (((Int × (Int × (ByteArray × ((List ua3) × Unit)))) × Unit) × Unit)
 | .start t0_0 t0_1 t0_2 t0_3 params1 args2 =>
  (uv6 (.start params1 t0_2)) >>= fun t1 =>
  if (t0_0 == (0 : Int)) = true then
   ug2 (.p27 params1 args2 t1.1.1 (decide (t1.1.1 ≥ (0 : Int))) t0_0 t0_1 t0_2 t0_3 (0 : Int) (0 : Int) (⟨#[]⟩ : ByteArray))
  else
   ug2 (.p27 params1 args2 t1.1.1 false t0_0 t0_1 t0_2 t0_3 (0 : Int) (0 : Int) (⟨#[]⟩ : ByteArray))
 | .p27 params1 args2 i7 s21 C0 C1 C2 C3 D0 D1 D2 =>
  if s21 = true then
   (idx args2 i7) >>= fun t1 =>
   (ug2 (.start t1.Kind t1.Value t1.Name t1.Parts ([]) ([]))) >>= fun t2 =>
   some (((t2.1.1.1, (t2.1.1.2.1, (t2.1.1.2.2.1, (t2.1.1.2.2.2.1, ())))), ()), ())
  else
   ug2 (.p500 params1 args2 C3 (List.length C3 : Int) (0 : Int) D0 D1 D2 C0 C1 C2 ([] : List ua3))
 | .p500 params1 args2 s30 s31 s32 C0 C1 C2 D0 D1 D2 B2 =>
  if (decide (s32 < s31)) = true then
   (idx s30 s32) >>= fun t1 =>
   (ug2 (.start t1.Kind t1.Value t1.Name t1.Parts params1 args2)) >>= fun t2 =>
   if (fits (List.length B2) (List.length ([(⟨t2.1.1.1, t2.1.1.2.1, t2.1.1.2.2.1, t2.1.1.2.2.2.1⟩ : ua3)] : List ua3)) 56) = true then
    ug2 (.p500 params1 args2 s30 s31 (IntKind.wrap .i64 (s32 + (1 : Int))) C0 C1 C2 D0 D1 D2 (B2 ++ ([(⟨t2.1.1.1, t2.1.1.2.1, t2.1.1.2.2.1, t2.1.1.2.2.2.1⟩ : ua3)] : List ua3)))
   else none
  else
   some (((D0, (D1, (D2, (B2, ())))), ()), ())
 partial_fixpoint
def wt1 : ub3 E := vU2.okc E_ok (run := ug2) (ug2.partial_correctness vU2.M fun run' ih => vU2.mk_ok E_ok [vU2.okc E_ok ih, c_z8] ih)
inductive vQ7 where
 | start (s0_0 : (List ua2)) (s0_1 : (List ByteArray)) (t1_0 : Int) (t1_1 : Int) (t1_2 : ByteArray) (t1_3 : (List ua3))
 | p500 (s26 : (List ua1)) (s27 : Int) (s28 : Int) (C0 : Int) (C1 : Int) (C2 : ByteArray) (C3 : (List ua3)) (D0 : ByteArray) (D1 : (List ByteArray)) (D2 : (List ua1)) (B2 : (List data_variant))
 | p512820 (s26 : (List ua1)) (s27 : Int) (s28 : Int) (s36 : (List ua6)) (s37 : Int) (s38 : Int) (C0 : Int) (C1 : Int) (C2 : ByteArray) (C3 : (List ua3)) (D0 : ByteArray) (D1 : (List ByteArray)) (D2 : (List ua1)) (B2 : (List data_variant)) (B3 : ByteArray) (B4 : (List ua6))
def v77 : Fb E vQ7 (Unit × Unit) ((List data_variant) × Unit) := ⟨142, Tryz.f142, (.cons (.agg (.cons (.sl 103) (.cons (.sl 9) .nil))) (.cons (.agg (.cons (Rd.int .i64).w (.cons (Rd.int .i64).w (.cons Rd.str.w (.cons (.sl 25) .nil))))) .nil)), .nil, fun a b => .start a.1.1 a.1.2.1 a.2.1.1 a.2.1.2.1 a.2.1.2.2.1 a.2.1.2.2.2.1, { rl := (.cons (Rd.rw 0) .nil), rb := (.cons (.row 125 false) .nil), rows := [(0, 125)] }, [⟨500, { slots := [3, 5, 7, 26, 27, 28], rows := [(7, 125)] }, (.cons (.bp 0 0) (.cons (.bp 1 0) (.cons (Rd.rw 2) (.cons (.sl 56 false) (.cons (.int .i64) (.cons (.int .i64) .nil)))))), (.cons (.var 25 (.cons (.int .i64) (.cons (.int .i64) (.cons .str (.cons (.sl 25 false) .nil))))) (.cons (.var 103 (.cons .str (.cons (.sl 9 false) (.cons (.sl 56 false) .nil)))) (.cons (.row 125 false) .nil))), fun a b => .p500 a.2.2.2.1 a.2.2.2.2.1 a.2.2.2.2.2.1 b.1.1 b.1.2.1 b.1.2.2.1 b.1.2.2.2.1 b.2.1.1 b.2.1.2.1 b.2.1.2.2.1 b.2.2.1⟩,
 ⟨512820, { slots := [3, 5, 7, 10, 26, 27, 28, 36, 37, 38], up := [(true, 10, 1, 58)] }, (.cons (.bp 0 0) (.cons (.bp 1 0) (.cons (Rd.rw 2) (.cons (.bp 3 0) (.cons (.sl 56 false) (.cons (.int .i64) (.cons (.int .i64) (.cons (.sl 58 false) (.cons (.int .i64) (.cons (.int .i64) .nil)))))))))), (.cons (.var 25 (.cons (.int .i64) (.cons (.int .i64) (.cons .str (.cons (.sl 25 false) .nil))))) (.cons (.var 103 (.cons .str (.cons (.sl 9 false) (.cons (.sl 56 false) .nil)))) (.cons (.row 125 false) (.cons (.var 125 (.cons .str (.cons (Rd.rw 4) (.cons Rd.nl .nil)))) (.cons (.row 58 false) .nil))))), fun a b => .p512820 a.2.2.2.2.1 a.2.2.2.2.2.1 a.2.2.2.2.2.2.1 a.2.2.2.2.2.2.2.1 a.2.2.2.2.2.2.2.2.1 a.2.2.2.2.2.2.2.2.2.1 b.1.1 b.1.2.1 b.1.2.2.1 b.1.2.2.2.1 b.2.1.1 b.2.1.2.1 b.2.1.2.2.1 b.2.2.1 b.2.2.2.1.1 b.2.2.2.2.1⟩], mkWr [4, 7, 24, 58, 61, 63] [(64103, [10])]⟩
def ui6 : vQ7 → Option ((Unit × Unit) × ((List data_variant) × Unit))
 | .start s0_0 s0_1 t1_0 t1_1 t1_2 t1_3 =>
  (uI1 (.start s0_0 s0_1 t1_2)) >>= fun t1 =>
  if (!t1.1.2.1) = true then
   some (((), ()), (([(⟨(⟨#[70, 97, 108, 115, 101]⟩ : ByteArray), [], none⟩ : data_variant), (⟨(⟨#[84, 114, 117, 101]⟩ : ByteArray), [], none⟩ : data_variant)] : List data_variant), ()))
  else
   ui6 (.p500 t1.1.1.2.2.1 (List.length t1.1.1.2.2.1 : Int) (0 : Int) t1_0 t1_1 t1_2 t1_3 t1.1.1.1 t1.1.1.2.1 t1.1.1.2.2.1 ([] : List data_variant))
 | .p500 s26 s27 s28 C0 C1 C2 C3 D0 D1 D2 B2 =>
  if (decide (s28 < s27)) = true then
   (idx s26 s28) >>= fun t1 =>
   ui6 (.p512820 s26 s27 s28 t1.Fields (List.length t1.Fields : Int) (0 : Int) C0 C1 C2 C3 D0 D1 D2 B2 t1.Name ([] : List ua6))
  else
   some (((), ()), (B2, ()))
 | .p512820 s26 s27 s28 s36 s37 s38 C0 C1 C2 C3 D0 D1 D2 B2 B3 B4 =>
  if (decide (s38 < s37)) = true then
   (idx s36 s38) >>= fun t1 =>
   (ug2 (.start t1.Type_.Kind t1.Type_.Value t1.Type_.Name t1.Type_.Parts D1 C3)) >>= fun t2 =>
   if (fits (List.length B4) (List.length ([(⟨t1.Name, (⟨t2.1.1.1, t2.1.1.2.1, t2.1.1.2.2.1, t2.1.1.2.2.2.1⟩ : ua3)⟩ : ua6)] : List ua6)) 72) = true then
    ui6 (.p512820 s26 s27 s28 s36 s37 (IntKind.wrap .i64 (s38 + (1 : Int))) C0 C1 C2 C3 D0 D1 D2 B2 B3 (B4 ++ ([(⟨t1.Name, (⟨t2.1.1.1, t2.1.1.2.1, t2.1.1.2.2.1, t2.1.1.2.2.2.1⟩ : ua3)⟩ : ua6)] : List ua6)))
   else none
  else
   if (fits (List.length B2) (List.length ([(⟨B3, B4, none⟩ : data_variant)] : List data_variant)) 64) = true then
    ui6 (.p500 s26 s27 (IntKind.wrap .i64 (s28 + (1 : Int))) C0 C1 C2 C3 D0 D1 D2 (B2 ++ ([(⟨B3, B4, none⟩ : data_variant)] : List data_variant)))
   else none
 partial_fixpoint
def wt2 : ub3 E := v77.okc E_ok (run := ui6) (ui6.partial_correctness v77.M fun run' ih => v77.mk_ok E_ok [wt1, wl7] ih)
inductive vQ8 where
 | start (s0_0 : (List ua2)) (s0_1 : (List ByteArray)) (t1_0 : Int) (t1_1 : Int) (t1_2 : ByteArray) (t1_3 : (List ua3)) (deep3 : Int) (B0 : Int)
 | p31 (deep3 : Int) (few11 : Int) (B0 : Int) (D0 : (List ua2)) (D1 : (List ByteArray)) (G0 : Int) (G1 : Int) (G2 : ByteArray) (G3 : (List ua3))
 | p8180 (deep3 : Int) (s76 : Int) (s77 : Int) (B0 : Int) (D0 : (List ua2)) (D1 : (List ByteArray)) (B2 : Int) (B3 : (List data_variant))
 | p4188572 (deep3 : Int) (v15 : Int) (s76 : Int) (s77 : Int) (s89 : (List ua6)) (s90 : Int) (s91 : Int) (B0 : Int) (D0 : (List ua2)) (D1 : (List ByteArray)) (B2 : Int) (B3 : ((List data_variant) × Nat)) (B4 : (List (Option ua5)))
def vU3 : Fb E vQ8 ((Option ua5) × (Int × Unit)) ((Int × Unit) × Unit) := ⟨106, Tryz.f106, (.cons (.agg (.cons (.sl 103) (.cons (.sl 9) .nil))) (.cons (.agg (.cons (Rd.int .i64).w (.cons (Rd.int .i64).w (.cons Rd.str.w (.cons (.sl 25) .nil))))) (.cons (Rd.bp 0 0).w (.cons (Rd.int .i64).w .nil)))), (.cons (.var 3 (.cons (.int .i64) .nil)) .nil), fun a b => .start a.1.1 a.1.2.1 a.2.1.1 a.2.1.2.1 a.2.1.2.2.1 a.2.1.2.2.2.1 a.2.2.2.1 b.1.1, { rl := (.cons (Rd.op 128) (.cons (.int .i64) .nil)), rb := (.cons (.var 3 (.cons (.int .i64) .nil)) .nil), keep := 1, done := [0, 1], ptrs := [(0, 128)] }, [⟨31, { slots := [2, 3, 4, 5, 11], keep := 1 }, (.cons (.bp 0 0) (.cons (.int .i64) (.cons (.bp 1 0) (.cons (.bp 2 0) (.cons (.int .i64) .nil))))), (.cons (.var 3 (.cons (.int .i64) .nil)) (.cons (.var 107 (.cons (.sl 103 false) (.cons (.sl 9 false) .nil))) (.cons (.var 25 (.cons (.int .i64) (.cons (.int .i64) (.cons .str (.cons (.sl 25 false) .nil))))) .nil))), fun a b => .p31 a.2.1 a.2.2.2.2.1 b.1.1 b.2.1.1 b.2.1.2.1 b.2.2.1.1 b.2.2.1.2.1 b.2.2.1.2.2.1 b.2.2.1.2.2.2.1⟩,
 ⟨8180, { slots := [2, 3, 4, 13, 76, 77], keep := 1, close := [13] }, (.cons (.bp 0 0) (.cons (.int .i64) (.cons (.bp 1 0) (.cons (.bp 2 0) (.cons (.int .i64) (.cons (.int .i64) .nil)))))), (.cons (.var 3 (.cons (.int .i64) .nil)) (.cons (.var 107 (.cons (.sl 103 false) (.cons (.sl 9 false) .nil))) (.cons (.var 128 (.cons (.int .i64) (.cons (Rd.rw 3) .nil))) (.cons (.row 125 false) .nil)))), fun a b => .p8180 a.2.1 a.2.2.2.2.1 a.2.2.2.2.2.1 b.1.1 b.2.1.1 b.2.1.2.1 b.2.2.1.1 b.2.2.2.1⟩,
 ⟨4188572, { slots := [2, 3, 4, 13, 15, 76, 77, 89, 90, 91], keep := 1 }, (.cons (.bp 0 0) (.cons (.int .i64) (.cons (.bp 1 0) (.cons (.bp 2 0) (.cons (Rd.rp 3 125 0) (.cons (.int .i64) (.cons (.int .i64) (.cons (.sl 58 false) (.cons (.int .i64) (.cons (.int .i64) .nil)))))))))), (.cons (.var 3 (.cons (.int .i64) .nil)) (.cons (.var 107 (.cons (.sl 103 false) (.cons (.sl 9 false) .nil))) (.cons (.var 128 (.cons (.int .i64) (.cons (Rd.rw 3) .nil))) (.cons (RdB.lk 125 2 4) (.cons (.row 105 false) .nil))))), fun a b => .p4188572 a.2.1 a.2.2.2.2.1 a.2.2.2.2.2.1 a.2.2.2.2.2.2.1 a.2.2.2.2.2.2.2.1 a.2.2.2.2.2.2.2.2.1 a.2.2.2.2.2.2.2.2.2.1 b.1.1 b.2.1.1 b.2.1.2.1 b.2.2.1.1 b.2.2.2.1 b.2.2.2.2.1⟩], mkWr [8, 13, 15, 17, 50, 51, 52, 69, 70, 71, 72, 73, 74, 75, 80, 81, 82, 83, 85, 86, 87, 88, 89, 93, 94, 97, 98, 108, 109, 110, 111, 112, 115, 116, 117, 120] [] [] [(85, 2)]⟩
def uc6 : vQ8 → Option (((Option ua5) × (Int × Unit)) × ((Int × Unit) × Unit))
 | .start s0_0 s0_1 t1_0 t1_1 t1_2 t1_3 deep3 B0 =>
  (uI0 (.start t1_0 t1_1 t1_2 t1_3)) >>= fun t1 =>
  if (t1.1.1 != (0 : Int)) = true then
   some ((none, (t1.1.1, ())), ((B0, ()), ()))
  else
   if (decide ((IntKind.wrap .i64 (B0 + (1 : Int))) ≤ (200 : Int))) = true then
    (uc2 (.start (decide (deep3 ≤ (40 : Int))) (8 : Int))) >>= fun t2 =>
    uc6 (.p31 deep3 t2.1.1 (IntKind.wrap .i64 (B0 + (1 : Int))) s0_0 s0_1 t1_0 t1_1 t1_2 t1_3)
   else
    (uc2 (.start false (8 : Int))) >>= fun t3 =>
    uc6 (.p31 deep3 t3.1.1 (IntKind.wrap .i64 (B0 + (1 : Int))) s0_0 s0_1 t1_0 t1_1 t1_2 t1_3)
 | .p31 deep3 few11 B0 D0 D1 G0 G1 G2 G3 =>
  if (G0 == (2 : Int)) = true then
   some ((none, ((26 : Int), ())), ((B0, ()), ()))
  else
   if (seq G2 (⟨#[66, 105, 116]⟩ : ByteArray)) = true then
    (idx G3 (0 : Int)) >>= fun t1 =>
    (uc2 (.start (t1.Kind == (2 : Int)) (26 : Int))) >>= fun t2 =>
    (ul9 (.start t1.Value (1 : Int) (16 : Int))) >>= fun t3 =>
    (uc2 (.start t3.1.1 (25 : Int))) >>= fun t4 =>
    (uc9 (.start ([t2.1.1, t4.1.1, few11] : List Int))) >>= fun t5 =>
    some ((some (⟨t1.Value, none⟩ : ua5), (t5.1.1, ())), ((B0, ()), ()))
   else
    if (few11 != (0 : Int)) = true then
     some ((none, (few11, ())), ((B0, ()), ()))
    else
     (ui6 (.start D0 D1 G0 G1 G2 G3)) >>= fun t6 =>
     uc6 (.p8180 deep3 (List.length t6.2.1 : Int) (0 : Int) B0 D0 D1 (0 : Int) t6.2.1)
 | .p8180 deep3 s76 s77 B0 D0 D1 B2 B3 =>
  if (decide (s77 < s76)) = true then
   if (decide ((0 : Int) ≤ s77) && decide (s77 < (List.length B3 : Int))) = true then
    (idx B3 s77) >>= fun t1 =>
    if (Option.isNone t1.parts) = true then
     (if s77 = (Int.toNat s77 : Int) then B3[Int.toNat s77]? else none) >>= fun t2 =>
     uc6 (.p4188572 deep3 s77 s76 s77 t2.fields (List.length t2.fields : Int) (0 : Int) B0 D0 D1 B2 (B3, Int.toNat s77) ([] : List (Option ua5)))
    else none
   else none
  else
   some ((some (⟨B2, (some B3)⟩ : ua5), ((0 : Int), ())), ((B0, ()), ()))
 | .p4188572 deep3 v15 s76 s77 s89 s90 s91 B0 D0 D1 B2 B3 B4 =>
  if (decide (s91 < s90)) = true then
   (idx s89 s91) >>= fun t1 =>
   (uc6 (.start D0 D1 t1.Type_.Kind t1.Type_.Value t1.Type_.Name t1.Type_.Parts (IntKind.wrap .i64 (deep3 + (1 : Int))) B0)) >>= fun t2 =>
   if (t2.1.2.1 != (0 : Int)) = true then
    some ((none, (t2.1.2.1, ())), ((t2.2.1.1, ()), ()))
   else
    (if v15 = (B3.2 : Int) then B3.1[B3.2]? else none) >>= fun t3 =>
    if (fits (List.length B4) (List.length ([t2.1.1] : List (Option ua5))) 8) = true then
     if v15 = (B3.2 : Int) then
      uc6 (.p4188572 deep3 v15 s76 s77 s89 s90 (IntKind.wrap .i64 (s91 + (1 : Int))) t2.2.1.1 D0 D1 B2 (B3.1, B3.2) (B4 ++ ([t2.1.1] : List (Option ua5))))
     else none
    else none
  else
   uc6 (.p8180 deep3 s76 (IntKind.wrap .i64 (s77 + (1 : Int))) B0 D0 D1 B2 (List.modify B3.1 B3.2 (fun y => (⟨y.name, y.fields, (some B4)⟩ : data_variant))))
 partial_fixpoint
def wt3 : ub3 E := vU3.okc E_ok (run := uc6) (uc6.partial_correctness vU3.M fun run' ih => vU3.mk_ok E_ok [vU3.okc E_ok ih, wt2, vm1, c_z5, c_z7, wl6] ih)
inductive vQ9 where
 | start (x0 : (Option ua5))
def v78 : Fb E vQ9 (Bool × Unit) Unit := ⟨88, Tryz.f88, (.cons (Rd.op 128).w .nil), .nil, fun a b => .start a.1, { rl := (.cons .bool .nil), rb := .nil, done := [0] }, [], mkWr [] []⟩
def ur2 : vQ9 → Option ((Bool × Unit) × Unit)
 | .start x0 =>
  x0 >>= fun t1 =>
  (wg6 t1.constructors) >>= fun t2 =>
  some ((t2, ()), ())
def vm2 : ub3 E := v78.okc E_ok (run := ur2) (v78.mk_ok E_ok [] v78.none)
inductive vR0 where
 | start (x0 : Int)
 | p7 (x0 : Int) (n2 : Int)
 | p15 (x0 : Int) (n2 : Int)
 | p31 (x0 : Int) (n2 : Int)
def v79 : Fb E vR0 (Int × Unit) Unit := ⟨146, Tryz.f146, (.cons (Rd.int .u64).w .nil), .nil, fun a b => .start a.1, { rl := (.cons (.int .i64) .nil), rb := .nil, done := [0] }, [⟨7, { slots := [0, 2] }, (.cons (.int .u64) (.cons (.int .i64) .nil)), .nil, fun a b => .p7 a.1 a.2.1⟩,
 ⟨15, { slots := [0, 2] }, (.cons (.int .u64) (.cons (.int .i64) .nil)), .nil, fun a b => .p15 a.1 a.2.1⟩,
 ⟨31, { slots := [0, 2] }, (.cons (.int .u64) (.cons (.int .i64) .nil)), .nil, fun a b => .p31 a.1 a.2.1⟩], mkWr [] []⟩
def ul4 : vR0 → Option ((Int × Unit) × Unit)
 | .start x0 =>
  if (decide (x0 ≥ (4294967296 : Int))) = true then
   if (decide ((0 : Int) ≤ (32 : Int))) = true then
    ul4 (.p7 (shr .u64 x0 (32 : Int)) (32 : Int))
   else none
  else
   ul4 (.p7 x0 (0 : Int))
 | .p7 x0 n2 =>
  if (decide (x0 ≥ (65536 : Int))) = true then
   if (decide ((0 : Int) ≤ (16 : Int))) = true then
    ul4 (.p15 (shr .u64 x0 (16 : Int)) (IntKind.wrap .i64 (n2 + (16 : Int))))
   else none
  else
   ul4 (.p15 x0 n2)
 | .p15 x0 n2 =>
  if (decide (x0 ≥ (256 : Int))) = true then
   if (decide ((0 : Int) ≤ (8 : Int))) = true then
    ul4 (.p31 (shr .u64 x0 (8 : Int)) (IntKind.wrap .i64 (n2 + (8 : Int))))
   else none
  else
   ul4 (.p31 x0 n2)
 | .p31 x0 n2 =>
  (sidx (⟨#[0, 1, 2, 2, 3, 3, 3, 3, 4, 4, 4, 4, 4, 4, 4, 4, 5, 5, 5, 5, 5, 5, 5, 5, 5, 5, 5, 5, 5, 5, 5, 5, 6, 6, 6, 6, 6, 6, 6, 6, 6, 6, 6, 6, 6, 6, 6, 6, 6, 6, 6, 6, 6, 6, 6, 6, 6, 6, 6, 6, 6, 6, 6, 6, 7, 7, 7, 7, 7, 7, 7, 7, 7, 7, 7, 7, 7, 7, 7, 7, 7, 7, 7, 7, 7, 7, 7, 7, 7, 7, 7, 7, 7, 7, 7, 7, 7, 7, 7, 7, 7, 7, 7, 7, 7, 7, 7, 7, 7, 7, 7, 7, 7, 7, 7, 7, 7, 7, 7, 7, 7, 7, 7, 7, 7, 7, 7, 7, 8, 8, 8, 8, 8, 8, 8, 8, 8, 8, 8, 8, 8, 8, 8, 8, 8, 8, 8, 8, 8, 8, 8, 8, 8, 8, 8, 8, 8, 8, 8, 8, 8, 8, 8, 8, 8, 8, 8, 8, 8, 8, 8, 8, 8, 8, 8, 8, 8, 8, 8, 8, 8, 8, 8, 8, 8, 8, 8, 8, 8, 8, 8, 8, 8, 8, 8, 8, 8, 8, 8, 8, 8, 8, 8, 8, 8, 8, 8, 8, 8, 8, 8, 8, 8, 8, 8, 8, 8, 8, 8, 8, 8, 8, 8, 8, 8, 8, 8, 8, 8, 8, 8, 8, 8, 8, 8, 8, 8, 8, 8, 8, 8, 8, 8, 8, 8, 8, 8, 8, 8, 8, 8, 8, 8, 8, 8, 8]⟩ : ByteArray) (IntKind.wrap .u8 x0)) >>= fun t1 =>
  some ((IntKind.wrap .i64 (n2 + (IntKind.wrap .i64 t1)), ()), ())
 partial_fixpoint
def wt4 : ub3 E := v79.okc E_ok (run := ul4) (ul4.partial_correctness v79.M fun run' ih => v79.mk_ok E_ok [] ih)
inductive vR1 where
 | start (x0 : Int)
def v80 : Fb E vR1 (Int × Unit) Unit := ⟨124, Tryz.f124, (.cons (Rd.int .u64).w .nil), .nil, fun a b => .start a.1, { rl := (.cons (.int .i64) .nil), rb := .nil, done := [0] }, [], mkWr [] []⟩
def u14 : vR1 → Option ((Int × Unit) × Unit)
 | .start x0 =>
  (ul4 (.start x0)) >>= fun t1 =>
  some ((t1.1.1, ()), ())
def wt5 : ub3 E := v80.okc E_ok (run := u14) (v80.mk_ok E_ok [wt4] v80.none)
inductive vR2 where
 | start (x0 : (Option ua5))
def v81 : Fb E vR2 (Int × Unit) Unit := ⟨91, Tryz.f91, (.cons (Rd.op 128).w .nil), .nil, fun a b => .start a.1, { rl := (.cons (.int .i64) .nil), rb := .nil, done := [0] }, [], mkWr [] []⟩
def uR3 : vR2 → Option ((Int × Unit) × Unit)
 | .start x0 =>
  x0 >>= fun t1 =>
  (u14 (.start (IntKind.wrap .u64 (IntKind.wrap .i64 ((List.length (Option.getD t1.constructors []) : Int) - (1 : Int)))))) >>= fun t2 =>
  some ((t2.1.1, ()), ())
def wt6 : ub3 E := v81.okc E_ok (run := uR3) (v81.mk_ok E_ok [wt5] v81.none)
inductive vE1 where
 | start (v0_0 : ByteArray) (v0_1 : (List ua6)) (v0_2 : (Option (List (Option ua5))))
 | p116 (sum3 : Int) (s7 : (Option (List (Option ua5)))) (s8 : Int) (s9 : Int)
def vz1 : Fb E vE1 (Int × Unit) Unit := ⟨89, Tryz.f89, (.cons (.agg (.cons Rd.str.w (.cons (.sl 58) (.cons (Rd.so 105).w .nil)))) .nil), .nil, fun a b => .start a.1.1 a.1.2.1 a.1.2.2.1, { rl := (.cons (.int .i64) .nil), rb := .nil, done := [0] }, [⟨116, { slots := [3, 7, 8, 9] }, (.cons (.int .i64) (.cons (Rd.so 105) (.cons (.int .i64) (.cons (.int .i64) .nil)))), .nil, fun a b => .p116 a.1 a.2.1 a.2.2.1 a.2.2.2.1⟩], mkWr [] []⟩
inductive vE2 where
 | start (x0 : (Option ua5))
def vz2 : Fb E vE2 (Int × Unit) Unit := ⟨65, Tryz.f65, (.cons (Rd.op 128).w .nil), .nil, fun a b => .start a.1, { rl := (.cons (.int .i64) .nil), rb := .nil, done := [0] }, [], mkWr [] []⟩
inductive vE3 where
 | start (x0 : (Option ua5))
 | p116 (most3 : Int) (s9 : (Option (List data_variant))) (s10 : Int) (s11 : Int)
def vz3 : Fb E vE3 (Int × Unit) Unit := ⟨90, Tryz.f90, (.cons (Rd.op 128).w .nil), .nil, fun a b => .start a.1, { rl := (.cons (.int .i64) .nil), rb := .nil, done := [0] }, [⟨116, { slots := [3, 9, 10, 11] }, (.cons (.int .i64) (.cons (Rd.so 125) (.cons (.int .i64) (.cons (.int .i64) .nil)))), .nil, fun a b => .p116 a.1 a.2.1 a.2.2.1 a.2.2.2.1⟩], mkWr [] []⟩
mutual
def um6 : vE1 → Option ((Int × Unit) × Unit)
 | .start v0_0 v0_1 v0_2 =>
  um6 (.p116 (0 : Int) v0_2 (List.length (Option.getD v0_2 []) : Int) (0 : Int))
 | .p116 sum3 s7 s8 s9 =>
  if (decide (s9 < s8)) = true then
   (idx (Option.getD s7 []) s9) >>= fun t1 =>
   (run_z41 (.start t1)) >>= fun t2 =>
   um6 (.p116 (IntKind.wrap .i64 (sum3 + t2.1.1)) s7 s8 (IntKind.wrap .i64 (s9 + (1 : Int))))
  else
   some ((sum3, ()), ())
 partial_fixpoint
def run_z41 : vE2 → Option ((Int × Unit) × Unit)
 | .start x0 =>
  (ur2 (.start x0)) >>= fun t1 =>
  if t1.1.1 = true then
   x0 >>= fun t2 =>
   some ((t2.bits, ()), ())
  else
   (uR3 (.start x0)) >>= fun t3 =>
   (run_z42 (.start x0)) >>= fun t4 =>
   some ((IntKind.wrap .i64 (t3.1.1 + t4.1.1), ()), ())
 partial_fixpoint
def run_z42 : vE3 → Option ((Int × Unit) × Unit)
 | .start x0 =>
  x0 >>= fun t1 =>
  run_z42 (.p116 (0 : Int) t1.constructors (List.length (Option.getD t1.constructors []) : Int) (0 : Int))
 | .p116 most3 s9 s10 s11 =>
  if (decide (s11 < s10)) = true then
   (idx (Option.getD s9 []) s11) >>= fun t1 =>
   (um6 (.start t1.name t1.fields t1.parts)) >>= fun t2 =>
   run_z42 (.p116 (if t2.1.1 > most3 then t2.1.1 else most3) s9 s10 (IntKind.wrap .i64 (s11 + (1 : Int))))
  else
   some ((most3, ()), ())
 partial_fixpoint
end
theorem uY7 : vz1.Ok um6 ∧ vz2.Ok run_z41 ∧ vz3.Ok run_z42 := by
  refine um6.mutual_partial_correctness vz1.M vz2.M vz3.M ?_ ?_ ?_
  · exact fun r_z40 r_z41 h_z40 h_z41 => vz1.mk_ok E_ok [vz2.okc E_ok h_z41, vz1.okc E_ok h_z40] h_z40
  · exact fun r_z42 h_z42 => vz2.mk_ok E_ok [vz3.okc E_ok h_z42, wt6, vm2] vz2.none
  · exact fun r_z40 r_z42 h_z40 h_z42 => vz3.mk_ok E_ok [vz3.okc E_ok h_z42, vz1.okc E_ok h_z40] h_z42
def wt7 : ub3 E := vz1.okc E_ok uY7.1
def vH4 : ub3 E := vz2.okc E_ok uY7.2.1
def wl9 : ub3 E := vz3.okc E_ok uY7.2.2
inductive vR3 where
 | start (l0 : (List ua2)) (t1_0 : Int) (t1_1 : Int) (t1_2 : ByteArray) (t1_3 : (List ua3))
def v82 : Fb E vR3 ((Option ua5) × (((List ua2) × (Unit × Unit)) × (Int × Unit))) Unit := ⟨64, Tryz.f64, (.cons (.sl 103) (.cons (.agg (.cons (Rd.int .i64).w (.cons (Rd.int .i64).w (.cons Rd.str.w (.cons (.sl 25) .nil))))) .nil)), .nil, fun a b => .start a.1 a.2.1.1 a.2.1.2.1 a.2.1.2.2.1 a.2.1.2.2.2.1, { rl := (.cons (Rd.op 128) (.cons (.agg (.cons (.sl 103 false) (.cons Rd.nl .nil))) (.cons (.int .i64) .nil))), rb := .nil, done := [0, 1, 2], ptrs := [(0, 128)] }, [], mkWr [] []⟩
def uA3 : vR3 → Option (((Option ua5) × (((List ua2) × (Unit × Unit)) × (Int × Unit))) × Unit)
 | .start l0 t1_0 t1_1 t1_2 t1_3 =>
  (uR2 (.start l0)) >>= fun t1 =>
  if (t1.1.2.1 != (0 : Int)) = true then
   some ((none, ((l0, ((), ())), (t1.1.2.1, ()))), ())
  else
   (uI2 (.start l0 ([]) t1_0 t1_1 t1_2 t1_3)) >>= fun t2 =>
   if (t2.1.1 != (0 : Int)) = true then
    some ((none, ((l0, ((), ())), (t2.1.1, ()))), ())
   else
    (uc6 (.start l0 ([]) t1_0 t1_1 t1_2 t1_3 (1 : Int) (0 : Int))) >>= fun t3 =>
    if (t3.1.2.1 == (0 : Int)) = true then
     (run_z41 (.start t3.1.1)) >>= fun t4 =>
     (ul9 (.start t4.1.1 (1 : Int) (16 : Int))) >>= fun t5 =>
     if (!t5.1.1) = true then
      some ((t3.1.1, ((l0, ((), ())), ((25 : Int), ()))), ())
     else
      some ((t3.1.1, ((l0, ((), ())), (t3.1.2.1, ()))), ())
    else
     some ((t3.1.1, ((l0, ((), ())), (t3.1.2.1, ()))), ())
def vW0 : ub3 E := v82.okc E_ok (run := uA3) (v82.mk_ok E_ok [c_z5, vH4, wt3, wl8, wt0] v82.none)
inductive vR4 where
 | start (l0 : (List ua2)) (t1_0 : Int) (t1_1 : Int) (t1_2 : ByteArray) (t1_3 : (List ua3))
def v83 : Fb E vR4 (Int × (Int × Unit)) Unit := ⟨14, Tryz.f14, (.cons (.sl 103) (.cons (.agg (.cons (Rd.int .i64).w (.cons (Rd.int .i64).w (.cons Rd.str.w (.cons (.sl 25) .nil))))) .nil)), .nil, fun a b => .start a.1 a.2.1.1 a.2.1.2.1 a.2.1.2.2.1 a.2.1.2.2.2.1, { rl := (.cons (.int .i64) (.cons (.int .i64) .nil)), rb := .nil, done := [0, 1] }, [], mkWr [] []⟩
def ve0 : vR4 → Option ((Int × (Int × Unit)) × Unit)
 | .start l0 t1_0 t1_1 t1_2 t1_3 =>
  (uA3 (.start l0 t1_0 t1_1 t1_2 t1_3)) >>= fun t1 =>
  if (t1.1.2.2.1 != (0 : Int)) = true then
   some (((0 : Int), (t1.1.2.2.1, ())), ())
  else
   (run_z41 (.start t1.1.1)) >>= fun t2 =>
   some ((t2.1.1, ((0 : Int), ())), ())
def wt8 : ub3 E := v83.okc E_ok (run := ve0) (v83.mk_ok E_ok [vH4, vW0] v83.none)
inductive vR5 where
 | start (name0 : ByteArray) (parts1 : (List ua4))
def v84 : Fb E vR5 ((ByteArray × (Int × ((List ua4) × Unit))) × Unit) Unit := ⟨60, Tryz.f60, (.cons Rd.str.w (.cons (.sl 37) .nil)), .nil, fun a b => .start a.1 a.2.1, { rl := (.cons (.agg (.cons .str (.cons (.int .i64) (.cons (.sl 37 false) .nil)))) .nil), rb := .nil, done := [0] }, [], mkWr [] []⟩
def uw1 : vR5 → Option (((ByteArray × (Int × ((List ua4) × Unit))) × Unit) × Unit)
 | .start name0 parts1 =>
  some (((name0, ((0 : Int), (parts1, ()))), ()), ())
def wt9 : ub3 E := v84.okc E_ok (run := uw1) (v84.mk_ok E_ok [] v84.none)
inductive vR6 where
 | start (v0_0 : ByteArray) (v0_1 : Int) (v0_2 : (List ua4))
def v85 : Fb E vR6 ((List ua4) × Unit) Unit := ⟨95, Tryz.f95, (.cons (.agg (.cons Rd.str.w (.cons (Rd.int .i64).w (.cons (.sl 37) .nil)))) .nil), .nil, fun a b => .start a.1.1 a.1.2.1 a.1.2.2.1, { rl := (.cons (.sl 37 false) .nil), rb := .nil, done := [0] }, [], mkWr [] []⟩
def u16 : vR6 → Option (((List ua4) × Unit) × Unit)
 | .start v0_0 v0_1 v0_2 =>
  some ((v0_2, ()), ())
def wu0 : ub3 E := v85.okc E_ok (run := u16) (v85.mk_ok E_ok [] v85.none)
inductive vR7 where
 | start (x0_0 : ByteArray) (x0_1 : Int) (x0_2 : (List ua4)) (depth1 : Int) (B0 : Int)
 | p15 (depth1 : Int) (B0 : Int) (H0 : ByteArray) (H1 : Int) (H2 : (List ua4))
 | p244 (depth1 : Int) (s20 : (List ua4)) (s21 : Int) (s22 : Int) (B0 : Int)
def vU4 : Fb E vR7 (Bool × Unit) ((Int × Unit) × ((Unit × Unit) × (((Unit × (Unit × (Unit × Unit))) × Unit) × Unit))) := ⟨131, Tryz.f131, (.cons (.agg (.cons Rd.str.w (.cons (Rd.int .i64).w (.cons (.sl 37) .nil)))) (.cons (Rd.int .i64).w (.cons (Rd.bp 0 0).w (.cons (Rd.bp 1 0).w (.cons (Rd.bp 2 0).w .nil))))), (.cons (.var 3 (.cons (.int .i64) .nil)) (.cons (.var 136 (.cons (Rd.fn 95 .nil) .nil)) (.cons (.var 173 (.cons (Rd.fn 131 (.cons (.bp 0 0) (.cons (.bp 1 0) (.cons (.bp 2 0) .nil)))) .nil)) .nil))), fun a b => .start a.1.1 a.1.2.1 a.1.2.2.1 a.2.1 b.1.1, { rl := (.cons .bool .nil), rb := (.cons (.var 3 (.cons (.int .i64) .nil)) (.cons (.var 136 (.cons (Rd.fn 95 .nil) .nil)) (.cons (.var 173 (.cons (Rd.fn 131 (.cons (.bp 0 0) (.cons (.bp 1 0) (.cons (.bp 2 0) .nil)))) .nil)) .nil))), keep := 3, done := [0] }, [⟨15, { slots := [1, 3, 4, 5], keep := 3 }, (.cons (.int .i64) (.cons (.bp 1 0) (.cons (.bp 2 0) (.cons (.bp 3 0) .nil)))), (.cons (.var 3 (.cons (.int .i64) .nil)) (.cons (.var 136 (.cons (Rd.fn 95 .nil) .nil)) (.cons (.var 173 (.cons (Rd.fn 131 (.cons (.bp 0 0) (.cons (.bp 1 0) (.cons (.bp 2 0) .nil)))) .nil)) (.cons (.var 37 (.cons .str (.cons (.int .i64) (.cons (.sl 37 false) .nil)))) .nil)))), fun a b => .p15 a.1 b.1.1 b.2.2.2.1.1 b.2.2.2.1.2.1 b.2.2.2.1.2.2.1⟩,
 ⟨244, { slots := [1, 4, 20, 21, 22], keep := 3 }, (.cons (.int .i64) (.cons (.bp 2 0) (.cons (.sl 37 false) (.cons (.int .i64) (.cons (.int .i64) .nil))))), (.cons (.var 3 (.cons (.int .i64) .nil)) (.cons (.var 136 (.cons (Rd.fn 95 .nil) .nil)) (.cons (.var 173 (.cons (Rd.fn 131 (.cons (.bp 0 0) (.cons (.bp 1 0) (.cons (.bp 2 0) .nil)))) .nil)) .nil))), fun a b => .p244 a.1 a.2.2.1 a.2.2.2.1 a.2.2.2.2.1 b.1.1⟩], mkWr [] []⟩
def ul5 : vR7 → Option ((Bool × Unit) × ((Int × Unit) × ((Unit × Unit) × (((Unit × (Unit × (Unit × Unit))) × Unit) × Unit))))
 | .start x0_0 x0_1 x0_2 depth1 B0 =>
  if (decide ((IntKind.wrap .i64 (B0 + (1 : Int))) > (200 : Int))) = true then
   some ((false, ()), ((IntKind.wrap .i64 (B0 + (1 : Int)), ()), (((), ()), ((((), ((), ((), ()))), ()), ()))))
  else
   if (decide (depth1 > (40 : Int))) = true then
    some ((false, ()), ((IntKind.wrap .i64 (B0 + (1 : Int)), ()), (((), ()), ((((), ((), ((), ()))), ()), ()))))
   else
    ul5 (.p15 depth1 (IntKind.wrap .i64 (B0 + (1 : Int))) x0_0 x0_1 x0_2)
 | .p15 depth1 B0 H0 H1 H2 =>
  (u16 (.start H0 H1 H2)) >>= fun t1 =>
  ul5 (.p244 depth1 t1.1.1 (List.length t1.1.1 : Int) (0 : Int) B0)
 | .p244 depth1 s20 s21 s22 B0 =>
  if (decide (s22 < s21)) = true then
   (idx s20 s22) >>= fun t1 =>
   (ul5 (.start t1.Name t1.Number t1.Parts (IntKind.wrap .i64 (depth1 + (1 : Int))) B0)) >>= fun t2 =>
   if (!t2.1.1) = true then
    some ((false, ()), ((t2.2.1.1, ()), (((), ()), ((((), ((), ((), ()))), ()), ()))))
   else
    ul5 (.p244 depth1 s20 s21 (IntKind.wrap .i64 (s22 + (1 : Int))) t2.2.1.1)
  else
   some ((true, ()), ((B0, ()), (((), ()), ((((), ((), ((), ()))), ()), ()))))
 partial_fixpoint
def wu1 : ub3 E := vU4.okc E_ok (run := ul5) (ul5.partial_correctness vU4.M fun run' ih => vU4.mk_ok E_ok [vU4.okc E_ok ih, wu0] ih)
inductive vR8 where
 | start (root0_0 : ByteArray) (root0_1 : Int) (root0_2 : (List ua4))
def v86 : Fb E vR8 (Int × Unit) Unit := ⟨94, Tryz.f94, (.cons (.agg (.cons Rd.str.w (.cons (Rd.int .i64).w (.cons (.sl 37) .nil)))) (.cons (Rd.fn 95 .nil).w .nil)), .nil, fun a b => .start a.1.1 a.1.2.1 a.1.2.2.1, { rl := (.cons (.int .i64) .nil), rb := .nil, done := [0] }, [], mkWr [] []⟩
def uI3 : vR8 → Option ((Int × Unit) × Unit)
 | .start root0_0 root0_1 root0_2 =>
  (ul5 (.start root0_0 root0_1 root0_2 (1 : Int) (0 : Int))) >>= fun t1 =>
  (uc2 (.start t1.1.1 (8 : Int))) >>= fun t2 =>
  some ((t2.1.1, ()), ())
def wm0 : ub3 E := v86.okc E_ok (run := uI3) (v86.mk_ok E_ok [c_z7, wu1] v86.none)
inductive vR9 where
 | start (v0_0 : ByteArray) (v0_1 : (List ua6)) (v0_2 : (Option (List (Option ua5)))) (s1 : ByteArray)
def v87 : Fb E vR9 (Bool × Unit) Unit := ⟨123, Tryz.f123, (.cons (.agg (.cons Rd.str.w (.cons (.sl 58) (.cons (Rd.so 105).w .nil)))) (.cons (Rd.el 9 0).w .nil)), .nil, fun a b => .start a.1.1 a.1.2.1 a.1.2.2.1 a.2.1, { rl := (.cons .bool .nil), rb := .nil, done := [0] }, [], mkWr [] []⟩
def u17 : vR9 → Option ((Bool × Unit) × Unit)
 | .start v0_0 v0_1 v0_2 s1 =>
  some ((seq v0_0 s1, ()), ())
def wu2 : ub3 E := v87.okc E_ok (run := u17) (v87.mk_ok E_ok [] v87.none)
inductive vS0 where
 | start (s0 : (Option (List data_variant))) (B0 : ByteArray)
 | p52 (s0 : (Option (List data_variant))) (s7 : Int) (s8 : Int) (B0 : ByteArray)
def v88 : Fb E vS0 (Int × Unit) ((ByteArray × Unit) × Unit) := ⟨122, Tryz.f122, (.cons (Rd.so 125).w (.cons (Rd.fn 123 (.cons (.bp 0 0) .nil)).w .nil)), (.cons (.var 9 (.cons .str .nil)) .nil), fun a b => .start a.1 b.1.1, { rl := (.cons (.int .i64) .nil), rb := (.cons (.var 9 (.cons .str .nil)) .nil), keep := 1, done := [0] }, [⟨52, { slots := [0, 1, 7, 8], keep := 1 }, (.cons (Rd.so 125) (.cons (Rd.fn 123 (.cons (.bp 0 0) .nil)) (.cons (.int .i64) (.cons (.int .i64) .nil)))), (.cons (.var 9 (.cons .str .nil)) .nil), fun a b => .p52 a.1 a.2.2.1 a.2.2.2.1 b.1.1⟩], mkWr [] []⟩
def up3 : vS0 → Option ((Int × Unit) × ((ByteArray × Unit) × Unit))
 | .start s0 B0 =>
  up3 (.p52 s0 (List.length (Option.getD s0 []) : Int) (0 : Int) B0)
 | .p52 s0 s7 s8 B0 =>
  if (decide (s8 < s7)) = true then
   (idx (Option.getD s0 []) s8) >>= fun t1 =>
   (u17 (.start t1.name t1.fields t1.parts B0)) >>= fun t2 =>
   if t2.1.1 = true then
    some ((s8, ()), ((B0, ()), ()))
   else
    up3 (.p52 s0 s7 (IntKind.wrap .i64 (s8 + (1 : Int))) B0)
  else
   some (((-1 : Int), ()), ((B0, ()), ()))
 partial_fixpoint
def wu3 : ub3 E := v88.okc E_ok (run := up3) (up3.partial_correctness v88.M fun run' ih => v88.mk_ok E_ok [wu2] ih)
inductive vS1 where
 | start (x0 : (Option ua5)) (name1 : ByteArray)
def v89 : Fb E vS1 (Int × Unit) Unit := ⟨80, Tryz.f80, (.cons (Rd.op 128).w (.cons Rd.str.w .nil)), .nil, fun a b => .start a.1 a.2.1, { rl := (.cons (.int .i64) .nil), rb := .nil, done := [0] }, [], mkWr [] []⟩
def uI4 : vS1 → Option ((Int × Unit) × Unit)
 | .start x0 name1 =>
  x0 >>= fun t1 =>
  (up3 (.start t1.constructors name1)) >>= fun t2 =>
  some ((t2.1.1, ()), ())
def wm1 : ub3 E := v89.okc E_ok (run := uI4) (v89.mk_ok E_ok [wu3] v89.none)
inductive vS2 where
 | start (i0 : Int) (part1_0 : ByteArray) (part1_1 : Int) (part1_2 : (List ua4)) (C0 : ByteArray) (C1 : (List ua6)) (C2 : (Option (List (Option ua5))))
def vG4 : Fb E vS2 (Int × Unit) ((ByteArray × ((List ua6) × ((Option (List (Option ua5))) × Unit))) × Unit) := ⟨143, Tryz.f143, (.cons (Rd.int .i64).w (.cons (.agg (.cons Rd.str.w (.cons (Rd.int .i64).w (.cons (.sl 37) .nil)))) (.cons (Rd.bp 0 0).w .nil))), (.cons (.var 125 (.cons .str (.cons (.sl 58 false) (.cons (Rd.so 105) .nil)))) .nil), fun a b => .start a.1 a.2.1.1 a.2.1.2.1 a.2.1.2.2.1 b.1.1 b.1.2.1 b.1.2.2.1, { rl := (.cons (.int .i64) .nil), rb := (.cons (.var 125 (.cons .str (.cons (.sl 58 false) (.cons (Rd.so 105) .nil)))) .nil), keep := 1, done := [0] }, [], mkWr [] []⟩
inductive vE4 where
 | start (x0 : (Option ua5)) (v1_0 : ByteArray) (v1_1 : Int) (v1_2 : (List ua4))
def vz4 : Fb E vE4 (Int × Unit) Unit := ⟨109, Tryz.f109, (.cons (Rd.op 128).w (.cons (.agg (.cons Rd.str.w (.cons (Rd.int .i64).w (.cons (.sl 37) .nil)))) .nil)), .nil, fun a b => .start a.1 a.2.1.1 a.2.1.2.1 a.2.1.2.2.1, { rl := (.cons (.int .i64) .nil), rb := .nil, done := [0] }, [], mkWr [] []⟩
inductive vS3 where
 | start (l0 : (List ua4)) (C0 : ByteArray) (C1 : (List ua6)) (C2 : (Option (List (Option ua5))))
 | p52 (s9 : (List ua4)) (s10 : Int) (s11 : Int) (C0 : ByteArray) (C1 : (List ua6)) (C2 : (Option (List (Option ua5))))
def vG5 : Fb E vS3 (Int × (Int × Unit)) ((ByteArray × ((List ua6) × ((Option (List (Option ua5))) × Unit))) × Unit) := ⟨134, Tryz.f134, (.cons (.sl 37) (.cons (Rd.fn 143 (.cons (.bp 0 0) .nil)).w .nil)), (.cons (.var 125 (.cons .str (.cons (.sl 58 false) (.cons (Rd.so 105) .nil)))) .nil), fun a b => .start a.1 b.1.1 b.1.2.1 b.1.2.2.1, { rl := (.cons (.int .i64) (.cons (.int .i64) .nil)), rb := (.cons (.var 125 (.cons .str (.cons (.sl 58 false) (.cons (Rd.so 105) .nil)))) .nil), keep := 1, done := [0, 1] }, [⟨52, { slots := [1, 9, 10, 11], keep := 1 }, (.cons (Rd.fn 143 (.cons (.bp 0 0) .nil)) (.cons (.sl 37 false) (.cons (.int .i64) (.cons (.int .i64) .nil)))), (.cons (.var 125 (.cons .str (.cons (.sl 58 false) (.cons (Rd.so 105) .nil)))) .nil), fun a b => .p52 a.2.1 a.2.2.1 a.2.2.2.1 b.1.1 b.1.2.1 b.1.2.2.1⟩], mkWr [] []⟩
mutual
def uR4 : vS2 → Option ((Int × Unit) × ((ByteArray × ((List ua6) × ((Option (List (Option ua5))) × Unit))) × Unit))
 | .start i0 part1_0 part1_1 part1_2 C0 C1 C2 =>
  (idx (Option.getD C2 []) i0) >>= fun t1 =>
  (run_z53 (.start t1 part1_0 part1_1 part1_2)) >>= fun t2 =>
  some ((t2.1.1, ()), ((C0, (C1, (C2, ()))), ()))
 partial_fixpoint
def run_z53 : vE4 → Option ((Int × Unit) × Unit)
 | .start x0 v1_0 v1_1 v1_2 =>
  (ur2 (.start x0)) >>= fun t1 =>
  if t1.1.1 = true then
   if (seq v1_0 (⟨#[]⟩ : ByteArray)) = true then
    (uc2 (.start ((List.length v1_2 : Int) == (0 : Int)) (3 : Int))) >>= fun t2 =>
    x0 >>= fun t3 =>
    if (decide ((0 : Int) ≤ t3.bits)) = true then
     (ul9 (.start v1_1 (0 : Int) (IntKind.wrap .i64 ((shl .i64 (1 : Int) t3.bits) - (1 : Int))))) >>= fun t4 =>
     (uc2 (.start t4.1.1 (2 : Int))) >>= fun t5 =>
     (uc9 (.start ([t2.1.1, t5.1.1] : List Int))) >>= fun t6 =>
     some ((t6.1.1, ()), ())
    else none
   else
    (uc2 (.start false (3 : Int))) >>= fun t7 =>
    x0 >>= fun t8 =>
    if (decide ((0 : Int) ≤ t8.bits)) = true then
     (ul9 (.start v1_1 (0 : Int) (IntKind.wrap .i64 ((shl .i64 (1 : Int) t8.bits) - (1 : Int))))) >>= fun t9 =>
     (uc2 (.start t9.1.1 (2 : Int))) >>= fun t10 =>
     (uc9 (.start ([t7.1.1, t10.1.1] : List Int))) >>= fun t11 =>
     some ((t11.1.1, ()), ())
    else none
  else
   (uI4 (.start x0 v1_0)) >>= fun t12 =>
   if (decide (t12.1.1 < (0 : Int))) = true then
    some (((6 : Int), ()), ())
   else
    x0 >>= fun t13 =>
    (idx (Option.getD t13.constructors []) t12.1.1) >>= fun t14 =>
    (uc2 (.start (v1_1 == (0 : Int)) (3 : Int))) >>= fun t15 =>
    (uc2 (.start ((List.length v1_2 : Int) == (List.length (Option.getD t14.parts []) : Int)) (10 : Int))) >>= fun t16 =>
    (uc9 (.start ([t15.1.1, t16.1.1] : List Int))) >>= fun t17 =>
    if (t17.1.1 != (0 : Int)) = true then
     some ((t17.1.1, ()), ())
    else
     (run_z54 (.start v1_2 t14.name t14.fields t14.parts)) >>= fun t18 =>
     some ((t18.1.2.1, ()), ())
 partial_fixpoint
def run_z54 : vS3 → Option ((Int × (Int × Unit)) × ((ByteArray × ((List ua6) × ((Option (List (Option ua5))) × Unit))) × Unit))
 | .start l0 C0 C1 C2 =>
  run_z54 (.p52 l0 (List.length l0 : Int) (0 : Int) C0 C1 C2)
 | .p52 s9 s10 s11 C0 C1 C2 =>
  if (decide (s11 < s10)) = true then
   (idx s9 s11) >>= fun t1 =>
   (uR4 (.start s11 t1.Name t1.Number t1.Parts C0 C1 C2)) >>= fun t2 =>
   if (t2.1.1 != (0 : Int)) = true then
    some ((s11, (t2.1.1, ())), ((t2.2.1.1, (t2.2.1.2.1, (t2.2.1.2.2.1, ()))), ()))
   else
    run_z54 (.p52 s9 s10 (IntKind.wrap .i64 (s11 + (1 : Int))) t2.2.1.1 t2.2.1.2.1 t2.2.1.2.2.1)
  else
   some (((0 : Int), ((0 : Int), ())), ((C0, (C1, (C2, ()))), ()))
 partial_fixpoint
end
theorem vJ1 : vG4.Ok uR4 ∧ vz4.Ok run_z53 ∧ vG5.Ok run_z54 := by
  refine uR4.mutual_partial_correctness vG4.M vz4.M vG5.M ?_ ?_ ?_
  · exact fun r_z53 h_z53 => vG4.mk_ok E_ok [vz4.okc E_ok h_z53] vG4.none
  · exact fun r_z54 h_z54 => vz4.mk_ok E_ok [vG5.okc E_ok h_z54, wm1, vm1, c_z5, c_z7, vm2] vz4.none
  · exact fun r_z52 r_z54 h_z52 h_z54 => vG5.mk_ok E_ok [vG5.okc E_ok h_z54, vG4.okc E_ok h_z52] h_z54
def wu4 : ub3 E := vz4.okc E_ok vJ1.2.1
inductive vS4 where
 | start (l0 : (List ua2)) (t1_0 : Int) (t1_1 : Int) (t1_2 : ByteArray) (t1_3 : (List ua3)) (v2_0 : ByteArray) (v2_1 : Int) (v2_2 : (List ua4))
 | p15 (x8 : (Option ua5)) (e10 : Int) (C0 : ByteArray) (C1 : Int) (C2 : (List ua4))
def v90 : Fb E vS4 ((Option ua5) × (Int × Unit)) Unit := ⟨73, Tryz.f73, (.cons (.sl 103) (.cons (.agg (.cons (Rd.int .i64).w (.cons (Rd.int .i64).w (.cons Rd.str.w (.cons (.sl 25) .nil))))) (.cons (.agg (.cons Rd.str.w (.cons (Rd.int .i64).w (.cons (.sl 37) .nil)))) .nil))), .nil, fun a b => .start a.1 a.2.1.1 a.2.1.2.1 a.2.1.2.2.1 a.2.1.2.2.2.1 a.2.2.1.1 a.2.2.1.2.1 a.2.2.1.2.2.1, { rl := (.cons (Rd.op 128) (.cons (.int .i64) .nil)), rb := .nil, done := [0, 1] }, [⟨15, { slots := [5, 8, 10] }, (.cons (.bp 0 0) (.cons (Rd.op 128) (.cons (.int .i64) .nil))), (.cons (.var 37 (.cons .str (.cons (.int .i64) (.cons (.sl 37 false) .nil)))) .nil), fun a b => .p15 a.2.1 a.2.2.1 b.1.1 b.1.2.1 b.1.2.2.1⟩], mkWr [] []⟩
def un9 : vS4 → Option (((Option ua5) × (Int × Unit)) × Unit)
 | .start l0 t1_0 t1_1 t1_2 t1_3 v2_0 v2_1 v2_2 =>
  (uA3 (.start l0 t1_0 t1_1 t1_2 t1_3)) >>= fun t1 =>
  if (t1.1.2.2.1 == (0 : Int)) = true then
   (uI3 (.start v2_0 v2_1 v2_2)) >>= fun t2 =>
   un9 (.p15 t1.1.1 t2.1.1 v2_0 v2_1 v2_2)
  else
   un9 (.p15 t1.1.1 t1.1.2.2.1 v2_0 v2_1 v2_2)
 | .p15 x8 e10 C0 C1 C2 =>
  if (e10 == (0 : Int)) = true then
   (run_z53 (.start x8 C0 C1 C2)) >>= fun t1 =>
   some ((x8, (t1.1.1, ())), ())
  else
   some ((x8, (e10, ())), ())
 partial_fixpoint
def wb8 : ub3 E := v90.okc E_ok (run := un9) (un9.partial_correctness v90.M fun run' ih => v90.mk_ok E_ok [wu4, wm0, vW0] ih)
inductive vS5 where
 | start (x0 : (Option ua5)) (v1_0 : ByteArray) (v1_1 : Int) (v1_2 : (List ua4))
 | p500 (x0 : (Option ua5)) (tag5 : Int) (fields6 : Int) (s24 : (Option (List (Option ua5)))) (s25 : Int) (s26 : Int) (C0 : ByteArray) (C1 : Int) (C2 : (List ua4))
def vU5 : Fb E vS5 (Int × Unit) Unit := ⟨74, Tryz.f74, (.cons (Rd.op 128).w (.cons (.agg (.cons Rd.str.w (.cons (Rd.int .i64).w (.cons (.sl 37) .nil)))) .nil)), .nil, fun a b => .start a.1 a.2.1.1 a.2.1.2.1 a.2.1.2.2.1, { rl := (.cons (.int .i64) .nil), rb := .nil, done := [0] }, [⟨500, { slots := [0, 3, 5, 6, 24, 25, 26] }, (.cons (Rd.op 128) (.cons (.bp 0 0) (.cons (.int .i64) (.cons (.int .i64) (.cons (Rd.so 105) (.cons (.int .i64) (.cons (.int .i64) .nil))))))), (.cons (.var 37 (.cons .str (.cons (.int .i64) (.cons (.sl 37 false) .nil)))) .nil), fun a b => .p500 a.1 a.2.2.1 a.2.2.2.1 a.2.2.2.2.1 a.2.2.2.2.2.1 a.2.2.2.2.2.2.1 b.1.1 b.1.2.1 b.1.2.2.1⟩], mkWr [] []⟩
def um7 : vS5 → Option ((Int × Unit) × Unit)
 | .start x0 v1_0 v1_1 v1_2 =>
  (ur2 (.start x0)) >>= fun t1 =>
  if t1.1.1 = true then
   some ((v1_1, ()), ())
  else
   (uI4 (.start x0 v1_0)) >>= fun t2 =>
   x0 >>= fun t3 =>
   (idx (Option.getD t3.constructors []) t2.1.1) >>= fun t4 =>
   um7 (.p500 x0 t2.1.1 (0 : Int) t4.parts (List.length (Option.getD t4.parts []) : Int) (0 : Int) v1_0 v1_1 v1_2)
 | .p500 x0 tag5 fields6 s24 s25 s26 C0 C1 C2 =>
  if (decide (s26 < s25)) = true then
   (idx (Option.getD s24 []) s26) >>= fun t1 =>
   (run_z41 (.start t1)) >>= fun t2 =>
   if (decide ((0 : Int) ≤ t2.1.1)) = true then
    (idx C2 s26) >>= fun t3 =>
    (um7 (.start t1 t3.Name t3.Number t3.Parts)) >>= fun t4 =>
    um7 (.p500 x0 tag5 (bits .or .i64 (shl .i64 fields6 t2.1.1) t4.1.1) s24 s25 (IntKind.wrap .i64 (s26 + (1 : Int))) C0 C1 C2)
   else none
  else
   (run_z42 (.start x0)) >>= fun t5 =>
   if (decide ((0 : Int) ≤ t5.1.1)) = true then
    some ((bits .or .i64 (shl .i64 tag5 t5.1.1) fields6, ()), ())
   else none
 partial_fixpoint
def wu5 : ub3 E := vU5.okc E_ok (run := um7) (um7.partial_correctness vU5.M fun run' ih => vU5.mk_ok E_ok [vU5.okc E_ok ih, wl9, vH4, wm1, vm2] ih)
inductive vS6 where
 | start (l0 : (List ua2)) (t1_0 : Int) (t1_1 : Int) (t1_2 : ByteArray) (t1_3 : (List ua3)) (v2_0 : ByteArray) (v2_1 : Int) (v2_2 : (List ua4))
def v91 : Fb E vS6 (Int × (Int × Unit)) Unit := ⟨21, Tryz.f21, (.cons (.sl 103) (.cons (.agg (.cons (Rd.int .i64).w (.cons (Rd.int .i64).w (.cons Rd.str.w (.cons (.sl 25) .nil))))) (.cons (.agg (.cons Rd.str.w (.cons (Rd.int .i64).w (.cons (.sl 37) .nil)))) .nil))), .nil, fun a b => .start a.1 a.2.1.1 a.2.1.2.1 a.2.1.2.2.1 a.2.1.2.2.2.1 a.2.2.1.1 a.2.2.1.2.1 a.2.2.1.2.2.1, { rl := (.cons (.int .i64) (.cons (.int .i64) .nil)), rb := .nil, done := [0, 1] }, [], mkWr [] []⟩
def uI5 : vS6 → Option ((Int × (Int × Unit)) × Unit)
 | .start l0 t1_0 t1_1 t1_2 t1_3 v2_0 v2_1 v2_2 =>
  (un9 (.start l0 t1_0 t1_1 t1_2 t1_3 v2_0 v2_1 v2_2)) >>= fun t1 =>
  if (t1.1.2.1 != (0 : Int)) = true then
   some (((0 : Int), (t1.1.2.1, ())), ())
  else
   (um7 (.start t1.1.1 v2_0 v2_1 v2_2)) >>= fun t2 =>
   some ((t2.1.1, ((0 : Int), ())), ())
def wm2 : ub3 E := v91.okc E_ok (run := uI5) (v91.mk_ok E_ok [wu5, wb8] v91.none)
inductive vS7 where
 | start (x0 : (Option ua5)) (n1 : Int)
 | p8180 (fields7 : Int) (low9 : Int) (s54 : (Option (List (Option ua5)))) (s55 : Int) (s56 : Int) (C0 : ByteArray) (C1 : Int) (B1 : (List ua4))
def vU6 : Fb E vS7 ((ByteArray × (Int × ((List ua4) × Unit))) × (Bool × Unit)) Unit := ⟨71, Tryz.f71, (.cons (Rd.op 128).w (.cons (Rd.int .i64).w .nil)), .nil, fun a b => .start a.1 a.2.1, { rl := (.cons (.agg (.cons .str (.cons (.int .i64) (.cons (.sl 37 false) .nil)))) (.cons .bool .nil)), rb := .nil, deep := [(false, 0, 2, 37)], done := [0, 1] }, [⟨8180, { slots := [4, 7, 9, 54, 55, 56], up := [(true, 4, 2, 37)] }, (.cons (.bp 0 0) (.cons (.int .i64) (.cons (.int .i64) (.cons (Rd.so 105) (.cons (.int .i64) (.cons (.int .i64) .nil)))))), (.cons (.var 37 (.cons .str (.cons (.int .i64) (.cons (Rd.rw 1) .nil)))) (.cons (.row 37 false) .nil)), fun a b => .p8180 a.2.1 a.2.2.1 a.2.2.2.1 a.2.2.2.2.1 a.2.2.2.2.2.1 b.1.1 b.1.2.1 b.2.1⟩], mkWr [] []⟩
def um8 : vS7 → Option (((ByteArray × (Int × ((List ua4) × Unit))) × (Bool × Unit)) × Unit)
 | .start x0 n1 =>
  (ur2 (.start x0)) >>= fun t1 =>
  if t1.1.1 = true then
   some ((((⟨#[]⟩ : ByteArray), (n1, ([], ()))), (true, ())), ())
  else
   (run_z42 (.start x0)) >>= fun t2 =>
   if (decide ((0 : Int) ≤ t2.1.1)) = true then
    (run_z42 (.start x0)) >>= fun t3 =>
    if (decide ((0 : Int) ≤ t3.1.1)) = true then
     x0 >>= fun t4 =>
     if (decide ((shr .i64 n1 t2.1.1) ≥ (List.length (Option.getD t4.constructors []) : Int))) = true then
      some ((((⟨#[]⟩ : ByteArray), ((0 : Int), ([], ()))), (false, ())), ())
     else
      x0 >>= fun t5 =>
      (idx (Option.getD t5.constructors []) (shr .i64 n1 t2.1.1)) >>= fun t6 =>
      (um6 (.start t6.name t6.fields t6.parts)) >>= fun t7 =>
      if (decide ((0 : Int) ≤ t7.1.1)) = true then
       if ((shr .i64 (bits .and .i64 n1 (IntKind.wrap .i64 ((shl .i64 (1 : Int) t3.1.1) - (1 : Int)))) t7.1.1) != (0 : Int)) = true then
        some ((((⟨#[]⟩ : ByteArray), ((0 : Int), ([], ()))), (false, ())), ())
       else
        um8 (.p8180 (bits .and .i64 n1 (IntKind.wrap .i64 ((shl .i64 (1 : Int) t3.1.1) - (1 : Int)))) t7.1.1 t6.parts (List.length (Option.getD t6.parts []) : Int) (0 : Int) t6.name (0 : Int) ([] : List ua4))
      else none
    else none
   else none
 | .p8180 fields7 low9 s54 s55 s56 C0 C1 B1 =>
  if (decide (s56 < s55)) = true then
   (idx (Option.getD s54 []) s56) >>= fun t1 =>
   (run_z41 (.start t1)) >>= fun t2 =>
   if (decide ((0 : Int) ≤ (IntKind.wrap .i64 (low9 - t2.1.1)))) = true then
    (run_z41 (.start t1)) >>= fun t3 =>
    if (decide ((0 : Int) ≤ t3.1.1)) = true then
     (um8 (.start t1 (bits .and .i64 (shr .i64 fields7 (IntKind.wrap .i64 (low9 - t2.1.1))) (IntKind.wrap .i64 ((shl .i64 (1 : Int) t3.1.1) - (1 : Int)))))) >>= fun t4 =>
     if (!t4.1.2.1) = true then
      some (((C0, (C1, (B1, ()))), (false, ())), ())
     else
      if (fits (List.length B1) (List.length ([(⟨t4.1.1.1, t4.1.1.2.1, t4.1.1.2.2.1⟩ : ua4)] : List ua4)) 48) = true then
       um8 (.p8180 fields7 (IntKind.wrap .i64 (low9 - t2.1.1)) s54 s55 (IntKind.wrap .i64 (s56 + (1 : Int))) C0 C1 (B1 ++ ([(⟨t4.1.1.1, t4.1.1.2.1, t4.1.1.2.2.1⟩ : ua4)] : List ua4)))
      else none
    else none
   else none
  else
   some (((C0, (C1, (B1, ()))), (true, ())), ())
 partial_fixpoint
def wu6 : ub3 E := vU6.okc E_ok (run := um8) (um8.partial_correctness vU6.M fun run' ih => vU6.mk_ok E_ok [vU6.okc E_ok ih, vH4, wt7, wl9, vm2] ih)
inductive vS8 where
 | start (l0 : (List ua2)) (t1_0 : Int) (t1_1 : Int) (t1_2 : ByteArray) (t1_3 : (List ua3)) (bits2 : Int)
def v92 : Fb E vS8 ((ByteArray × (Int × ((List ua4) × Unit))) × (Int × Unit)) Unit := ⟨19, Tryz.f19, (.cons (.sl 103) (.cons (.agg (.cons (Rd.int .i64).w (.cons (Rd.int .i64).w (.cons Rd.str.w (.cons (.sl 25) .nil))))) (.cons (Rd.int .i64).w .nil))), .nil, fun a b => .start a.1 a.2.1.1 a.2.1.2.1 a.2.1.2.2.1 a.2.1.2.2.2.1 a.2.2.1, { rl := (.cons (.agg (.cons .str (.cons (.int .i64) (.cons (.sl 37 false) .nil)))) (.cons (.int .i64) .nil)), rb := .nil, deep := [(false, 0, 2, 37)], done := [0, 1] }, [], mkWr [] []⟩
def uC8 : vS8 → Option (((ByteArray × (Int × ((List ua4) × Unit))) × (Int × Unit)) × Unit)
 | .start l0 t1_0 t1_1 t1_2 t1_3 bits2 =>
  (uA3 (.start l0 t1_0 t1_1 t1_2 t1_3)) >>= fun t1 =>
  (uc9 (.start ([t1.1.2.2.1] : List Int))) >>= fun t2 =>
  if (t2.1.1 != (0 : Int)) = true then
   some ((((⟨#[]⟩ : ByteArray), ((0 : Int), ([], ()))), (t2.1.1, ())), ())
  else
   (run_z41 (.start t1.1.1)) >>= fun t3 =>
   if (decide ((0 : Int) ≤ t3.1.1)) = true then
    (ul9 (.start bits2 (0 : Int) (IntKind.wrap .i64 ((shl .i64 (1 : Int) t3.1.1) - (1 : Int))))) >>= fun t4 =>
    if (!t4.1.1) = true then
     some ((((⟨#[]⟩ : ByteArray), ((0 : Int), ([], ()))), ((2 : Int), ())), ())
    else
     (um8 (.start t1.1.1 bits2)) >>= fun t5 =>
     if (!t5.1.2.1) = true then
      some ((((⟨#[]⟩ : ByteArray), ((0 : Int), ([], ()))), ((3 : Int), ())), ())
     else
      some (((t5.1.1.1, (t5.1.1.2.1, (t5.1.1.2.2.1, ()))), ((0 : Int), ())), ())
   else none
def wm3 : ub3 E := v92.okc E_ok (run := uC8) (v92.mk_ok E_ok [wu6, c_z5, vH4, vm1, vW0] v92.none)
inductive vE5 where
 | start (v0_0 : ByteArray) (v0_1 : (List ua6)) (v0_2 : (Option (List (Option ua5))))
 | p116 (n3 : Int) (s7 : (Option (List (Option ua5)))) (s8 : Int) (s9 : Int)
def vz5 : Fb E vE5 (Int × Unit) Unit := ⟨108, Tryz.f108, (.cons (.agg (.cons Rd.str.w (.cons (.sl 58) (.cons (Rd.so 105).w .nil)))) .nil), .nil, fun a b => .start a.1.1 a.1.2.1 a.1.2.2.1, { rl := (.cons (.int .i64) .nil), rb := .nil, done := [0] }, [⟨116, { slots := [3, 7, 8, 9] }, (.cons (.int .i64) (.cons (Rd.so 105) (.cons (.int .i64) (.cons (.int .i64) .nil)))), .nil, fun a b => .p116 a.1 a.2.1 a.2.2.1 a.2.2.2.1⟩], mkWr [] []⟩
inductive vE6 where
 | start (x0 : (Option ua5))
 | p244 (sum3 : Int) (s16 : (Option (List data_variant))) (s17 : Int) (s18 : Int)
def vz6 : Fb E vE6 (Int × Unit) Unit := ⟨68, Tryz.f68, (.cons (Rd.op 128).w .nil), .nil, fun a b => .start a.1, { rl := (.cons (.int .i64) .nil), rb := .nil, done := [0] }, [⟨244, { slots := [3, 16, 17, 18] }, (.cons (.int .i64) (.cons (Rd.so 125) (.cons (.int .i64) (.cons (.int .i64) .nil)))), .nil, fun a b => .p244 a.1 a.2.1 a.2.2.1 a.2.2.2.1⟩], mkWr [] []⟩
mutual
def ul6 : vE5 → Option ((Int × Unit) × Unit)
 | .start v0_0 v0_1 v0_2 =>
  ul6 (.p116 (1 : Int) v0_2 (List.length (Option.getD v0_2 []) : Int) (0 : Int))
 | .p116 n3 s7 s8 s9 =>
  if (decide (s9 < s8)) = true then
   (idx (Option.getD s7 []) s9) >>= fun t1 =>
   (run_z61 (.start t1)) >>= fun t2 =>
   ul6 (.p116 (IntKind.wrap .i64 (n3 * t2.1.1)) s7 s8 (IntKind.wrap .i64 (s9 + (1 : Int))))
  else
   some ((n3, ()), ())
 partial_fixpoint
def run_z61 : vE6 → Option ((Int × Unit) × Unit)
 | .start x0 =>
  (ur2 (.start x0)) >>= fun t1 =>
  if t1.1.1 = true then
   x0 >>= fun t2 =>
   if (decide ((0 : Int) ≤ t2.bits)) = true then
    some ((shl .i64 (1 : Int) t2.bits, ()), ())
   else none
  else
   x0 >>= fun t3 =>
   run_z61 (.p244 (0 : Int) t3.constructors (List.length (Option.getD t3.constructors []) : Int) (0 : Int))
 | .p244 sum3 s16 s17 s18 =>
  if (decide (s18 < s17)) = true then
   (idx (Option.getD s16 []) s18) >>= fun t1 =>
   (ul6 (.start t1.name t1.fields t1.parts)) >>= fun t2 =>
   run_z61 (.p244 (IntKind.wrap .i64 (sum3 + t2.1.1)) s16 s17 (IntKind.wrap .i64 (s18 + (1 : Int))))
  else
   some ((sum3, ()), ())
 partial_fixpoint
end
theorem vh2 : vz5.Ok ul6 ∧ vz6.Ok run_z61 := by
  refine ul6.mutual_partial_correctness vz5.M vz6.M ?_ ?_
  · exact fun r_z60 r_z61 h_z60 h_z61 => vz5.mk_ok E_ok [vz6.okc E_ok h_z61, vz5.okc E_ok h_z60] h_z60
  · exact fun r_z60 r_z61 h_z60 h_z61 => vz6.mk_ok E_ok [vz6.okc E_ok h_z61, vz5.okc E_ok h_z60, vm2] h_z61
def wm4 : ub3 E := vz5.okc E_ok vh2.1
def wb9 : ub3 E := vz6.okc E_ok vh2.2
inductive vS9 where
 | start (x0 : (Option ua5)) (index1 : Int)
 | p116 (index1 : Int) (s18 : (Option (List data_variant))) (s19 : Int) (s20 : Int) (C0 : ByteArray) (C1 : Int)
 | p478452 (index1 : Int) (n7 : Int) (s36 : (Option (List (Option ua5)))) (s37 : Int) (s38 : Int) (C0 : ByteArray) (C1 : Int) (D0 : ByteArray) (D1 : Int) (B2 : (List ua4))
def vU7 : Fb E vS9 ((ByteArray × (Int × ((List ua4) × Unit))) × Unit) Unit := ⟨84, Tryz.f84, (.cons (Rd.op 128).w (.cons (Rd.int .i64).w .nil)), .nil, fun a b => .start a.1 a.2.1, { rl := (.cons (.agg (.cons .str (.cons (.int .i64) (.cons (.sl 37 false) .nil)))) .nil), rb := .nil, deep := [(false, 0, 2, 37)], done := [0] }, [⟨116, { slots := [1, 4, 18, 19, 20] }, (.cons (.int .i64) (.cons (.bp 0 0) (.cons (Rd.so 125) (.cons (.int .i64) (.cons (.int .i64) .nil))))), (.cons (.var 37 (.cons .str (.cons (.int .i64) (.cons Rd.nl .nil)))) .nil), fun a b => .p116 a.1 a.2.2.1 a.2.2.2.1 a.2.2.2.2.1 b.1.1 b.1.2.1⟩,
 ⟨478452, { slots := [1, 4, 7, 8, 36, 37, 38], up := [(true, 8, 2, 37)] }, (.cons (.int .i64) (.cons (.bp 0 0) (.cons (.int .i64) (.cons (.bp 1 0) (.cons (Rd.so 105) (.cons (.int .i64) (.cons (.int .i64) .nil))))))), (.cons (.var 37 (.cons .str (.cons (.int .i64) (.cons Rd.nl .nil)))) (.cons (.var 37 (.cons .str (.cons (.int .i64) (.cons (Rd.rw 2) .nil)))) (.cons (.row 37 false) .nil))), fun a b => .p478452 a.1 a.2.2.1 a.2.2.2.2.1 a.2.2.2.2.2.1 a.2.2.2.2.2.2.1 b.1.1 b.1.2.1 b.2.1.1 b.2.1.2.1 b.2.2.1⟩], mkWr [] []⟩
def uh9 : vS9 → Option (((ByteArray × (Int × ((List ua4) × Unit))) × Unit) × Unit)
 | .start x0 index1 =>
  (ur2 (.start x0)) >>= fun t1 =>
  if t1.1.1 = true then
   some ((((⟨#[]⟩ : ByteArray), (index1, ([], ()))), ()), ())
  else
   x0 >>= fun t2 =>
   uh9 (.p116 index1 t2.constructors (List.length (Option.getD t2.constructors []) : Int) (0 : Int) (⟨#[]⟩ : ByteArray) (0 : Int))
 | .p116 index1 s18 s19 s20 C0 C1 =>
  if (decide (s20 < s19)) = true then
   (idx (Option.getD s18 []) s20) >>= fun t1 =>
   (ul6 (.start t1.name t1.fields t1.parts)) >>= fun t2 =>
   if (decide (index1 ≥ t2.1.1)) = true then
    uh9 (.p116 (IntKind.wrap .i64 (index1 - t2.1.1)) s18 s19 (IntKind.wrap .i64 (s20 + (1 : Int))) C0 C1)
   else
    uh9 (.p478452 index1 t2.1.1 t1.parts (List.length (Option.getD t1.parts []) : Int) (0 : Int) C0 C1 t1.name (0 : Int) ([] : List ua4))
  else
   some ((((⟨#[]⟩ : ByteArray), ((0 : Int), ([], ()))), ()), ())
 | .p478452 index1 n7 s36 s37 s38 C0 C1 D0 D1 B2 =>
  if (decide (s38 < s37)) = true then
   (idx (Option.getD s36 []) s38) >>= fun t1 =>
   (run_z61 (.start t1)) >>= fun t2 =>
   if (!(t2.1.1 == (0 : Int))) = true then
    if (!((IntKind.wrap .i64 (Int.tdiv n7 t2.1.1)) == (0 : Int))) = true then
     (uh9 (.start t1 (IntKind.wrap .i64 (Int.tdiv index1 (IntKind.wrap .i64 (Int.tdiv n7 t2.1.1)))))) >>= fun t3 =>
     if (fits (List.length B2) (List.length ([(⟨t3.1.1.1, t3.1.1.2.1, t3.1.1.2.2.1⟩ : ua4)] : List ua4)) 48) = true then
      if (!((IntKind.wrap .i64 (Int.tdiv n7 t2.1.1)) == (0 : Int))) = true then
       uh9 (.p478452 (Int.tmod index1 (IntKind.wrap .i64 (Int.tdiv n7 t2.1.1))) (IntKind.wrap .i64 (Int.tdiv n7 t2.1.1)) s36 s37 (IntKind.wrap .i64 (s38 + (1 : Int))) C0 C1 D0 D1 (B2 ++ ([(⟨t3.1.1.1, t3.1.1.2.1, t3.1.1.2.2.1⟩ : ua4)] : List ua4)))
      else none
     else none
    else none
   else none
  else
   some (((D0, (D1, (B2, ()))), ()), ())
 partial_fixpoint
def wu7 : ub3 E := vU7.okc E_ok (run := uh9) (uh9.partial_correctness vU7.M fun run' ih => vU7.mk_ok E_ok [vU7.okc E_ok ih, wb9, wm4, vm2] ih)
inductive vT0 where
 | start (l0 : (List ua2)) (t1_0 : Int) (t1_1 : Int) (t1_2 : ByteArray) (t1_3 : (List ua3)) (index2 : Int)
def v93 : Fb E vT0 ((ByteArray × (Int × ((List ua4) × Unit))) × (Int × Unit)) Unit := ⟨33, Tryz.f33, (.cons (.sl 103) (.cons (.agg (.cons (Rd.int .i64).w (.cons (Rd.int .i64).w (.cons Rd.str.w (.cons (.sl 25) .nil))))) (.cons (Rd.int .i64).w .nil))), .nil, fun a b => .start a.1 a.2.1.1 a.2.1.2.1 a.2.1.2.2.1 a.2.1.2.2.2.1 a.2.2.1, { rl := (.cons (.agg (.cons .str (.cons (.int .i64) (.cons (.sl 37 false) .nil)))) (.cons (.int .i64) .nil)), rb := .nil, deep := [(false, 0, 2, 37)], done := [0, 1] }, [], mkWr [] []⟩
def uI6 : vT0 → Option (((ByteArray × (Int × ((List ua4) × Unit))) × (Int × Unit)) × Unit)
 | .start l0 t1_0 t1_1 t1_2 t1_3 index2 =>
  (uA3 (.start l0 t1_0 t1_1 t1_2 t1_3)) >>= fun t1 =>
  if (t1.1.2.2.1 != (0 : Int)) = true then
   some ((((⟨#[]⟩ : ByteArray), ((0 : Int), ([], ()))), (t1.1.2.2.1, ())), ())
  else
   (run_z61 (.start t1.1.1)) >>= fun t2 =>
   (ul9 (.start index2 (0 : Int) (IntKind.wrap .i64 (t2.1.1 - (1 : Int))))) >>= fun t3 =>
   if (!t3.1.1) = true then
    some ((((⟨#[]⟩ : ByteArray), ((0 : Int), ([], ()))), ((6 : Int), ())), ())
   else
    (uh9 (.start t1.1.1 index2)) >>= fun t4 =>
    some (((t4.1.1.1, (t4.1.1.2.1, (t4.1.1.2.2.1, ()))), ((0 : Int), ())), ())
def wm5 : ub3 E := v93.okc E_ok (run := uI6) (v93.mk_ok E_ok [wu7, c_z5, wb9, vW0] v93.none)
inductive vT1 where
 | start (s0 : Int) (x1_0 : ByteArray) (x1_1 : Int) (x1_2 : (List ua4))
def vG6 : Fb E vT1 (Int × Unit) Unit := ⟨135, Tryz.f135, (.cons (Rd.int .i64).w (.cons (.agg (.cons Rd.str.w (.cons (Rd.int .i64).w (.cons (.sl 37) .nil)))) .nil)), .nil, fun a b => .start a.1 a.2.1.1 a.2.1.2.1 a.2.1.2.2.1, { rl := (.cons (.int .i64) .nil), rb := .nil, done := [0] }, [], mkWr [] []⟩
inductive vE7 where
 | start (v0_0 : ByteArray) (v0_1 : Int) (v0_2 : (List ua4))
 | p15 (e4 : Int) (C0 : ByteArray) (C1 : Int) (C2 : (List ua4))
def vz7 : Fb E vE7 (Int × Unit) Unit := ⟨97, Tryz.f97, (.cons (.agg (.cons Rd.str.w (.cons (Rd.int .i64).w (.cons (.sl 37) .nil)))) .nil), .nil, fun a b => .start a.1.1 a.1.2.1 a.1.2.2.1, { rl := (.cons (.int .i64) .nil), rb := .nil, done := [0] }, [⟨15, { slots := [1, 4] }, (.cons (.bp 0 0) (.cons (.int .i64) .nil)), (.cons (.var 37 (.cons .str (.cons (.int .i64) (.cons (.sl 37 false) .nil)))) .nil), fun a b => .p15 a.2.1 b.1.1 b.1.2.1 b.1.2.2.1⟩], mkWr [] []⟩
inductive vT2 where
 | start (l0 : (List ua4))
 | p52 (s9 : (List ua4)) (s10 : Int) (s11 : Int)
def vG7 : Fb E vT2 (Int × (Int × Unit)) Unit := ⟨134, Tryz.f134, (.cons (.sl 37) (.cons (Rd.fn 135 .nil).w .nil)), .nil, fun a b => .start a.1, { rl := (.cons (.int .i64) (.cons (.int .i64) .nil)), rb := .nil, done := [0, 1] }, [⟨52, { slots := [1, 9, 10, 11] }, (.cons (Rd.fn 135 .nil) (.cons (.sl 37 false) (.cons (.int .i64) (.cons (.int .i64) .nil)))), .nil, fun a b => .p52 a.2.1 a.2.2.1 a.2.2.2.1⟩], mkWr [] []⟩
mutual
def u18 : vT1 → Option ((Int × Unit) × Unit)
 | .start s0 x1_0 x1_1 x1_2 =>
  (run_z65 (.start x1_0 x1_1 x1_2)) >>= fun t1 =>
  some ((t1.1.1, ()), ())
 partial_fixpoint
def run_z65 : vE7 → Option ((Int × Unit) × Unit)
 | .start v0_0 v0_1 v0_2 =>
  if (!(seq v0_0 (⟨#[]⟩ : ByteArray))) = true then
   (uc2 (.start true (3 : Int))) >>= fun t1 =>
   if (seq v0_0 (⟨#[]⟩ : ByteArray)) = true then
    (uc2 (.start true (3 : Int))) >>= fun t2 =>
    if (seq v0_0 (⟨#[]⟩ : ByteArray)) = true then
     (uc2 (.start true (4 : Int))) >>= fun t3 =>
     (ul9 (.start v0_1 (0 : Int) (99999 : Int))) >>= fun t4 =>
     (uc2 (.start t4.1.1 (2 : Int))) >>= fun t5 =>
     (uc9 (.start ([t1.1.1, t2.1.1, t3.1.1, t5.1.1] : List Int))) >>= fun t6 =>
     run_z65 (.p15 t6.1.1 v0_0 v0_1 v0_2)
    else
     (uh8 (.start v0_0)) >>= fun t7 =>
     (uc2 (.start t7.1.1 (4 : Int))) >>= fun t8 =>
     (ul9 (.start v0_1 (0 : Int) (99999 : Int))) >>= fun t9 =>
     (uc2 (.start t9.1.1 (2 : Int))) >>= fun t10 =>
     (uc9 (.start ([t1.1.1, t2.1.1, t8.1.1, t10.1.1] : List Int))) >>= fun t11 =>
     run_z65 (.p15 t11.1.1 v0_0 v0_1 v0_2)
   else
    (uc2 (.start (v0_1 == (0 : Int)) (3 : Int))) >>= fun t12 =>
    if (seq v0_0 (⟨#[]⟩ : ByteArray)) = true then
     (uc2 (.start true (4 : Int))) >>= fun t13 =>
     (ul9 (.start v0_1 (0 : Int) (99999 : Int))) >>= fun t14 =>
     (uc2 (.start t14.1.1 (2 : Int))) >>= fun t15 =>
     (uc9 (.start ([t1.1.1, t12.1.1, t13.1.1, t15.1.1] : List Int))) >>= fun t16 =>
     run_z65 (.p15 t16.1.1 v0_0 v0_1 v0_2)
    else
     (uh8 (.start v0_0)) >>= fun t17 =>
     (uc2 (.start t17.1.1 (4 : Int))) >>= fun t18 =>
     (ul9 (.start v0_1 (0 : Int) (99999 : Int))) >>= fun t19 =>
     (uc2 (.start t19.1.1 (2 : Int))) >>= fun t20 =>
     (uc9 (.start ([t1.1.1, t12.1.1, t18.1.1, t20.1.1] : List Int))) >>= fun t21 =>
     run_z65 (.p15 t21.1.1 v0_0 v0_1 v0_2)
  else
   (uc2 (.start ((List.length v0_2 : Int) == (0 : Int)) (3 : Int))) >>= fun t22 =>
   if (seq v0_0 (⟨#[]⟩ : ByteArray)) = true then
    (uc2 (.start true (3 : Int))) >>= fun t23 =>
    if (seq v0_0 (⟨#[]⟩ : ByteArray)) = true then
     (uc2 (.start true (4 : Int))) >>= fun t24 =>
     (ul9 (.start v0_1 (0 : Int) (99999 : Int))) >>= fun t25 =>
     (uc2 (.start t25.1.1 (2 : Int))) >>= fun t26 =>
     (uc9 (.start ([t22.1.1, t23.1.1, t24.1.1, t26.1.1] : List Int))) >>= fun t27 =>
     run_z65 (.p15 t27.1.1 v0_0 v0_1 v0_2)
    else
     (uh8 (.start v0_0)) >>= fun t28 =>
     (uc2 (.start t28.1.1 (4 : Int))) >>= fun t29 =>
     (ul9 (.start v0_1 (0 : Int) (99999 : Int))) >>= fun t30 =>
     (uc2 (.start t30.1.1 (2 : Int))) >>= fun t31 =>
     (uc9 (.start ([t22.1.1, t23.1.1, t29.1.1, t31.1.1] : List Int))) >>= fun t32 =>
     run_z65 (.p15 t32.1.1 v0_0 v0_1 v0_2)
   else
    (uc2 (.start (v0_1 == (0 : Int)) (3 : Int))) >>= fun t33 =>
    if (seq v0_0 (⟨#[]⟩ : ByteArray)) = true then
     (uc2 (.start true (4 : Int))) >>= fun t34 =>
     (ul9 (.start v0_1 (0 : Int) (99999 : Int))) >>= fun t35 =>
     (uc2 (.start t35.1.1 (2 : Int))) >>= fun t36 =>
     (uc9 (.start ([t22.1.1, t33.1.1, t34.1.1, t36.1.1] : List Int))) >>= fun t37 =>
     run_z65 (.p15 t37.1.1 v0_0 v0_1 v0_2)
    else
     (uh8 (.start v0_0)) >>= fun t38 =>
     (uc2 (.start t38.1.1 (4 : Int))) >>= fun t39 =>
     (ul9 (.start v0_1 (0 : Int) (99999 : Int))) >>= fun t40 =>
     (uc2 (.start t40.1.1 (2 : Int))) >>= fun t41 =>
     (uc9 (.start ([t22.1.1, t33.1.1, t39.1.1, t41.1.1] : List Int))) >>= fun t42 =>
     run_z65 (.p15 t42.1.1 v0_0 v0_1 v0_2)
 | .p15 e4 C0 C1 C2 =>
  if (e4 != (0 : Int)) = true then
   some ((e4, ()), ())
  else
   (run_z66 (.start C2)) >>= fun t1 =>
   some ((t1.1.2.1, ()), ())
 partial_fixpoint
def run_z66 : vT2 → Option ((Int × (Int × Unit)) × Unit)
 | .start l0 =>
  run_z66 (.p52 l0 (List.length l0 : Int) (0 : Int))
 | .p52 s9 s10 s11 =>
  if (decide (s11 < s10)) = true then
   (idx s9 s11) >>= fun t1 =>
   (u18 (.start s11 t1.Name t1.Number t1.Parts)) >>= fun t2 =>
   if (t2.1.1 != (0 : Int)) = true then
    some ((s11, (t2.1.1, ())), ())
   else
    run_z66 (.p52 s9 s10 (IntKind.wrap .i64 (s11 + (1 : Int))))
  else
   some (((0 : Int), ((0 : Int), ())), ())
 partial_fixpoint
end
theorem vJ2 : vG6.Ok u18 ∧ vz7.Ok run_z65 ∧ vG7.Ok run_z66 := by
  refine u18.mutual_partial_correctness vG6.M vz7.M vG7.M ?_ ?_ ?_
  · exact fun r_z65 h_z65 => vG6.mk_ok E_ok [vz7.okc E_ok h_z65] vG6.none
  · exact fun r_z65 r_z66 h_z65 h_z66 => vz7.mk_ok E_ok [vG7.okc E_ok h_z66, vz7.okc E_ok h_z65, c_z6, vm1, c_z5, c_z7] h_z65
  · exact fun r_z64 r_z66 h_z64 h_z66 => vG7.mk_ok E_ok [vG7.okc E_ok h_z66, vG6.okc E_ok h_z64] h_z66
def wu8 : ub3 E := vz7.okc E_ok vJ2.2.1
inductive vT3 where
 | start (v0_0 : ByteArray) (v0_1 : Int) (v0_2 : (List ua4))
 | p500 (s19 : (List ua4)) (s20 : Int) (s21 : Int) (C0 : ByteArray) (C1 : Int) (C2 : (List ua4)) (B1 : (List ByteArray))
def vU8 : Fb E vT3 (ByteArray × Unit) Unit := ⟨98, Tryz.f98, (.cons (.agg (.cons Rd.str.w (.cons (Rd.int .i64).w (.cons (.sl 37) .nil)))) .nil), .nil, fun a b => .start a.1.1 a.1.2.1 a.1.2.2.1, { rl := (.cons .str .nil), rb := .nil, done := [0] }, [⟨500, { slots := [1, 3, 19, 20, 21], rows := [(3, 9)] }, (.cons (.bp 0 0) (.cons (Rd.rw 1) (.cons (.sl 37 false) (.cons (.int .i64) (.cons (.int .i64) .nil))))), (.cons (.var 37 (.cons .str (.cons (.int .i64) (.cons (.sl 37 false) .nil)))) (.cons (.row 9 false) .nil)), fun a b => .p500 a.2.2.1 a.2.2.2.1 a.2.2.2.2.1 b.1.1 b.1.2.1 b.1.2.2.1 b.2.1⟩], mkWr [] []⟩
def uC9 : vT3 → Option ((ByteArray × Unit) × Unit)
 | .start v0_0 v0_1 v0_2 =>
  if (seq v0_0 (⟨#[]⟩ : ByteArray)) = true then
   (vn1 (v0_1, ()) ()) >>= fun t1 =>
   some ((t1.1.1, ()), ())
  else
   if ((List.length v0_2 : Int) == (0 : Int)) = true then
    some ((v0_0, ()), ())
   else
    uC9 (.p500 v0_2 (List.length v0_2 : Int) (0 : Int) v0_0 v0_1 v0_2 ([] : List ByteArray))
 | .p500 s19 s20 s21 C0 C1 C2 B1 =>
  if (decide (s21 < s20)) = true then
   (idx s19 s21) >>= fun t1 =>
   (uC9 (.start t1.Name t1.Number t1.Parts)) >>= fun t2 =>
   if (fits (List.length B1) (List.length ([t2.1.1] : List ByteArray)) 16) = true then
    uC9 (.p500 s19 s20 (IntKind.wrap .i64 (s21 + (1 : Int))) C0 C1 C2 (B1 ++ ([t2.1.1] : List ByteArray)))
   else none
  else
   if (Nat.ble (C0.size + (⟨#[40]⟩ : ByteArray).size) 9223372036854775807) = true then
    (uH1 (B1, (⟨#[44, 32]⟩ : ByteArray), ()) ()) >>= fun t3 =>
    if (Nat.ble ((C0 ++ (⟨#[40]⟩ : ByteArray)).size + t3.1.1.size) 9223372036854775807) = true then
     if (Nat.ble (((C0 ++ (⟨#[40]⟩ : ByteArray)) ++ t3.1.1).size + (⟨#[41]⟩ : ByteArray).size) 9223372036854775807) = true then
      some ((((C0 ++ (⟨#[40]⟩ : ByteArray)) ++ t3.1.1) ++ (⟨#[41]⟩ : ByteArray), ()), ())
     else none
    else none
   else none
 partial_fixpoint
def wu9 : ub3 E := vU8.okc E_ok (run := uC9) (uC9.partial_correctness vU8.M fun run' ih => vU8.mk_ok E_ok [vU8.okc E_ok ih, u43, u42] ih)
inductive vT4 where
 | start (v0_0 : ByteArray) (v0_1 : Int) (v0_2 : (List ua4))
def v94 : Fb E vT4 (ByteArray × (Int × Unit)) Unit := ⟨54, Tryz.f54, (.cons (.agg (.cons Rd.str.w (.cons (Rd.int .i64).w (.cons (.sl 37) .nil)))) .nil), .nil, fun a b => .start a.1.1 a.1.2.1 a.1.2.2.1, { rl := (.cons .str (.cons (.int .i64) .nil)), rb := .nil, done := [0, 1] }, [], mkWr [] []⟩
def ve1 : vT4 → Option ((ByteArray × (Int × Unit)) × Unit)
 | .start v0_0 v0_1 v0_2 =>
  (uI3 (.start v0_0 v0_1 v0_2)) >>= fun t1 =>
  if (t1.1.1 != (0 : Int)) = true then
   some (((⟨#[]⟩ : ByteArray), (t1.1.1, ())), ())
  else
   (run_z65 (.start v0_0 v0_1 v0_2)) >>= fun t2 =>
   if (t2.1.1 != (0 : Int)) = true then
    some (((⟨#[]⟩ : ByteArray), (t2.1.1, ())), ())
   else
    (uC9 (.start v0_0 v0_1 v0_2)) >>= fun t3 =>
    some ((t3.1.1, ((0 : Int), ())), ())
def wv0 : ub3 E := v94.okc E_ok (run := ve1) (v94.mk_ok E_ok [wu9, wu8, wm0] v94.none)
inductive vT5 where
 | start (a0_0 : ByteArray) (a0_1 : Int) (a0_2 : (List ua4)) (b1_0 : ByteArray) (b1_1 : Int) (b1_2 : (List ua4))
 | p7 (C0 : ByteArray) (C1 : Int) (C2 : (List ua4)) (D0 : ByteArray) (D1 : Int) (D2 : (List ua4))
 | p116 (i5 : Int) (C0 : ByteArray) (C1 : Int) (C2 : (List ua4)) (D0 : ByteArray) (D1 : Int) (D2 : (List ua4))
def vU9 : Fb E vT5 (Bool × Unit) Unit := ⟨34, Tryz.f34, (.cons (.agg (.cons Rd.str.w (.cons (Rd.int .i64).w (.cons (.sl 37) .nil)))) (.cons (.agg (.cons Rd.str.w (.cons (Rd.int .i64).w (.cons (.sl 37) .nil)))) .nil)), .nil, fun a b => .start a.1.1 a.1.2.1 a.1.2.2.1 a.2.1.1 a.2.1.2.1 a.2.1.2.2.1, { rl := (.cons .bool .nil), rb := .nil, done := [0] }, [⟨7, { slots := [2, 3] }, (.cons (.bp 0 0) (.cons (.bp 1 0) .nil)), (.cons (.var 37 (.cons .str (.cons (.int .i64) (.cons (.sl 37 false) .nil)))) (.cons (.var 37 (.cons .str (.cons (.int .i64) (.cons (.sl 37 false) .nil)))) .nil)), fun a b => .p7 b.1.1 b.1.2.1 b.1.2.2.1 b.2.1.1 b.2.1.2.1 b.2.1.2.2.1⟩,
 ⟨116, { slots := [2, 3, 5] }, (.cons (.bp 0 0) (.cons (.bp 1 0) (.cons (.int .i64) .nil))), (.cons (.var 37 (.cons .str (.cons (.int .i64) (.cons (.sl 37 false) .nil)))) (.cons (.var 37 (.cons .str (.cons (.int .i64) (.cons (.sl 37 false) .nil)))) .nil)), fun a b => .p116 a.2.2.1 b.1.1 b.1.2.1 b.1.2.2.1 b.2.1.1 b.2.1.2.1 b.2.1.2.2.1⟩], mkWr [] []⟩
def uf1 : vT5 → Option ((Bool × Unit) × Unit)
 | .start a0_0 a0_1 a0_2 b1_0 b1_1 b1_2 =>
  if (!(seq a0_0 b1_0)) = true then
   some ((false, ()), ())
  else
   if (a0_1 != b1_1) = true then
    some ((false, ()), ())
   else
    if ((List.length a0_2 : Int) != (List.length b1_2 : Int)) = true then
     some ((false, ()), ())
    else
     uf1 (.p7 a0_0 a0_1 a0_2 b1_0 b1_1 b1_2)
 | .p7 C0 C1 C2 D0 D1 D2 =>
  uf1 (.p116 (0 : Int) C0 C1 C2 D0 D1 D2)
 | .p116 i5 C0 C1 C2 D0 D1 D2 =>
  if (decide (i5 < (List.length C2 : Int))) = true then
   (idx C2 i5) >>= fun t1 =>
   (idx D2 i5) >>= fun t2 =>
   (uf1 (.start t1.Name t1.Number t1.Parts t2.Name t2.Number t2.Parts)) >>= fun t3 =>
   if (!t3.1.1) = true then
    some ((false, ()), ())
   else
    uf1 (.p116 (IntKind.wrap .i64 (i5 + (1 : Int))) C0 C1 C2 D0 D1 D2)
  else
   some ((true, ()), ())
 partial_fixpoint
def wm6 : ub3 E := vU9.okc E_ok (run := uf1) (uf1.partial_correctness vU9.M fun run' ih => vU9.mk_ok E_ok [vU9.okc E_ok ih] ih)
inductive vT6 where
 | start
def v95 : Fb E vT6 (Bool × Unit) Unit := ⟨10, Tryz.f10, .nil, .nil, fun a b => .start, { rl := (.cons .bool .nil), rb := .nil, done := [0] }, [], mkWr [] []⟩
def u19 : vT6 → Option ((Bool × Unit) × Unit)
 | .start =>
  (u08 .start) >>= fun t1 =>
  (u81 (.start (3 : Int))) >>= fun t2 =>
  (uC7 (.start (⟨#[77, 97, 121, 98, 101]⟩ : ByteArray) ([(⟨t2.1.1.1, t2.1.1.2.1, t2.1.1.2.2.1, t2.1.1.2.2.2.1⟩ : ua3)] : List ua3))) >>= fun t3 =>
  (ve0 (.start t1.1.1 t3.1.1.1 t3.1.1.2.1 t3.1.1.2.2.1 t3.1.1.2.2.2.1)) >>= fun t4 =>
  (u08 .start) >>= fun t5 =>
  (u81 (.start (2 : Int))) >>= fun t6 =>
  (uC7 (.start (⟨#[67, 111, 108, 111, 114]⟩ : ByteArray) ([]))) >>= fun t7 =>
  (uC7 (.start (⟨#[80, 97, 105, 114]⟩ : ByteArray) ([(⟨t6.1.1.1, t6.1.1.2.1, t6.1.1.2.2.1, t6.1.1.2.2.2.1⟩ : ua3), (⟨t7.1.1.1, t7.1.1.2.1, t7.1.1.2.2.1, t7.1.1.2.2.2.1⟩ : ua3)] : List ua3))) >>= fun t8 =>
  (uw1 (.start (⟨#[66, 108, 117, 101]⟩ : ByteArray) ([]))) >>= fun t9 =>
  (uw1 (.start (⟨#[80, 97, 105, 114]⟩ : ByteArray) ([(⟨(⟨#[]⟩ : ByteArray), (3 : Int), []⟩ : ua4), (⟨t9.1.1.1, t9.1.1.2.1, t9.1.1.2.2.1⟩ : ua4)] : List ua4))) >>= fun t10 =>
  (uI5 (.start t5.1.1 t8.1.1.1 t8.1.1.2.1 t8.1.1.2.2.1 t8.1.1.2.2.2.1 t10.1.1.1 t10.1.1.2.1 t10.1.1.2.2.1)) >>= fun t11 =>
  (u08 .start) >>= fun t12 =>
  (u81 (.start (3 : Int))) >>= fun t13 =>
  (uC7 (.start (⟨#[77, 97, 121, 98, 101]⟩ : ByteArray) ([(⟨t13.1.1.1, t13.1.1.2.1, t13.1.1.2.2.1, t13.1.1.2.2.2.1⟩ : ua3)] : List ua3))) >>= fun t14 =>
  (uC8 (.start t12.1.1 t14.1.1.1 t14.1.1.2.1 t14.1.1.2.2.1 t14.1.1.2.2.2.1 (5 : Int))) >>= fun t15 =>
  (u08 .start) >>= fun t16 =>
  (uC7 (.start (⟨#[67, 111, 108, 111, 114]⟩ : ByteArray) ([]))) >>= fun t17 =>
  (uC7 (.start (⟨#[66, 111, 111, 108]⟩ : ByteArray) ([]))) >>= fun t18 =>
  (uC7 (.start (⟨#[80, 97, 105, 114]⟩ : ByteArray) ([(⟨t17.1.1.1, t17.1.1.2.1, t17.1.1.2.2.1, t17.1.1.2.2.2.1⟩ : ua3), (⟨t18.1.1.1, t18.1.1.2.1, t18.1.1.2.2.1, t18.1.1.2.2.2.1⟩ : ua3)] : List ua3))) >>= fun t19 =>
  (uI6 (.start t16.1.1 t19.1.1.1 t19.1.1.2.1 t19.1.1.2.2.1 t19.1.1.2.2.2.1 (3 : Int))) >>= fun t20 =>
  (uw1 (.start (⟨#[66, 108, 117, 101]⟩ : ByteArray) ([]))) >>= fun t21 =>
  (uw1 (.start (⟨#[80, 97, 105, 114]⟩ : ByteArray) ([(⟨(⟨#[]⟩ : ByteArray), (3 : Int), []⟩ : ua4), (⟨t21.1.1.1, t21.1.1.2.1, t21.1.1.2.2.1⟩ : ua4)] : List ua4))) >>= fun t22 =>
  (ve1 (.start t22.1.1.1 t22.1.1.2.1 t22.1.1.2.2.1)) >>= fun t23 =>
  if (t4.1.2.1 == (0 : Int)) = true then
   if (t4.1.1 == (4 : Int)) = true then
    if (t11.1.2.1 == (0 : Int)) = true then
     if (t11.1.1 == (14 : Int)) = true then
      if (t15.1.2.1 == (3 : Int)) = true then
       if (t20.1.2.1 == (0 : Int)) = true then
        (uw1 (.start (⟨#[71, 114, 101, 101, 110]⟩ : ByteArray) ([]))) >>= fun t24 =>
        (uw1 (.start (⟨#[84, 114, 117, 101]⟩ : ByteArray) ([]))) >>= fun t25 =>
        (uw1 (.start (⟨#[80, 97, 105, 114]⟩ : ByteArray) ([(⟨t24.1.1.1, t24.1.1.2.1, t24.1.1.2.2.1⟩ : ua4), (⟨t25.1.1.1, t25.1.1.2.1, t25.1.1.2.2.1⟩ : ua4)] : List ua4))) >>= fun t26 =>
        (uf1 (.start t20.1.1.1 t20.1.1.2.1 t20.1.1.2.2.1 t26.1.1.1 t26.1.1.2.1 t26.1.1.2.2.1)) >>= fun t27 =>
        if t27.1.1 = true then
         if (t23.1.2.1 == (0 : Int)) = true then
          some ((seq t23.1.1 (⟨#[80, 97, 105, 114, 40, 51, 44, 32, 66, 108, 117, 101, 41]⟩ : ByteArray), ()), ())
         else
          some ((false, ()), ())
        else
         some ((false, ()), ())
       else
        some ((false, ()), ())
      else
       some ((false, ()), ())
     else
      some ((false, ()), ())
    else
     some ((false, ()), ())
   else
    some ((false, ()), ())
  else
   some ((false, ()), ())
def wv1 : ub3 E := v95.okc E_ok (run := u19) (v95.mk_ok E_ok [wm6, wv0, wm5, wm3, wm2, wt9, wt8, c_z2, c_z3, c_z0] v95.none)
inductive wh2 where
 | start (t0_0 : Int) (t0_1 : Int) (t0_2 : ByteArray) (t0_3 : (List ua3)) (depth1 : Int) (count2 : Int)
 | p15 (depth1 : Int) (count2 : Int) (C0 : Int) (C1 : Int) (C2 : ByteArray) (C3 : (List ua3))
 | p244 (depth1 : Int) (count2 : Int) (i7 : Int) (C0 : Int) (C1 : Int) (C2 : ByteArray) (C3 : (List ua3))
 | p489 (depth1 : Int) (count2 : Int) (i7 : Int) (C0 : Int) (C1 : Int) (C2 : ByteArray) (C3 : (List ua3))
def vV0 : Fb E wh2 (Int × Unit) Unit := ⟨102, Tryz.f102, (.cons (.agg (.cons (Rd.int .i64).w (.cons (Rd.int .i64).w (.cons Rd.str.w (.cons (.sl 25) .nil))))) (.cons (Rd.int .i64).w (.cons (Rd.int .i64).w .nil))), .nil, fun a b => .start a.1.1 a.1.2.1 a.1.2.2.1 a.1.2.2.2.1 a.2.1 a.2.2.1, { rl := (.cons (.int .i64) .nil), rb := .nil, done := [0] }, [⟨15, { slots := [1, 2, 3] }, (.cons (.int .i64) (.cons (.int .i64) (.cons (.bp 0 0) .nil))), (.cons (.var 25 (.cons (.int .i64) (.cons (.int .i64) (.cons .str (.cons (.sl 25 false) .nil))))) .nil), fun a b => .p15 a.1 a.2.1 b.1.1 b.1.2.1 b.1.2.2.1 b.1.2.2.2.1⟩,
 ⟨244, { slots := [1, 2, 3, 7] }, (.cons (.int .i64) (.cons (.int .i64) (.cons (.bp 0 0) (.cons (.int .i64) .nil)))), (.cons (.var 25 (.cons (.int .i64) (.cons (.int .i64) (.cons .str (.cons (.sl 25 false) .nil))))) .nil), fun a b => .p244 a.1 a.2.1 a.2.2.2.1 b.1.1 b.1.2.1 b.1.2.2.1 b.1.2.2.2.1⟩,
 ⟨489, { slots := [1, 2, 3, 7] }, (.cons (.int .i64) (.cons (.int .i64) (.cons (.bp 0 0) (.cons (.int .i64) .nil)))), (.cons (.var 25 (.cons (.int .i64) (.cons (.int .i64) (.cons .str (.cons (.sl 25 false) .nil))))) .nil), fun a b => .p489 a.1 a.2.1 a.2.2.2.1 b.1.1 b.1.2.1 b.1.2.2.1 b.1.2.2.2.1⟩], mkWr [] []⟩
def uk4 : wh2 → Option ((Int × Unit) × Unit)
 | .start t0_0 t0_1 t0_2 t0_3 depth1 count2 =>
  if (decide (depth1 > (40 : Int))) = true then
   some (((201 : Int), ()), ())
  else
   if (decide ((IntKind.wrap .i64 (count2 + (1 : Int))) > (200 : Int))) = true then
    some (((201 : Int), ()), ())
   else
    if (decide ((List.length t0_3 : Int) > (200 : Int))) = true then
     some (((201 : Int), ()), ())
    else
     uk4 (.p15 depth1 (IntKind.wrap .i64 (count2 + (1 : Int))) t0_0 t0_1 t0_2 t0_3)
 | .p15 depth1 count2 C0 C1 C2 C3 =>
  uk4 (.p244 depth1 count2 (0 : Int) C0 C1 C2 C3)
 | .p244 depth1 count2 i7 C0 C1 C2 C3 =>
  if (decide (i7 < (List.length C3 : Int))) = true then
   if (decide (count2 ≤ (200 : Int))) = true then
    uk4 (.p489 depth1 count2 i7 C0 C1 C2 C3)
   else
    some ((count2, ()), ())
  else
   some ((count2, ()), ())
 | .p489 depth1 count2 i7 C0 C1 C2 C3 =>
  (idx C3 i7) >>= fun t1 =>
  (uk4 (.start t1.Kind t1.Value t1.Name t1.Parts (IntKind.wrap .i64 (depth1 + (1 : Int))) count2)) >>= fun t2 =>
  uk4 (.p244 depth1 t2.1.1 (IntKind.wrap .i64 (i7 + (1 : Int))) C0 C1 C2 C3)
 partial_fixpoint
def wv2 : ub3 E := vV0.okc E_ok (run := uk4) (uk4.partial_correctness vV0.M fun run' ih => vV0.mk_ok E_ok [vV0.okc E_ok ih] ih)
inductive wh3 where
 | start (t0_0 : Int) (t0_1 : Int) (t0_2 : ByteArray) (t0_3 : (List ua3))
def v96 : Fb E wh3 (Bool × Unit) Unit := ⟨61, Tryz.f61, (.cons (.agg (.cons (Rd.int .i64).w (.cons (Rd.int .i64).w (.cons Rd.str.w (.cons (.sl 25) .nil))))) .nil), .nil, fun a b => .start a.1.1 a.1.2.1 a.1.2.2.1 a.1.2.2.2.1, { rl := (.cons .bool .nil), rb := .nil, done := [0] }, [], mkWr [] []⟩
def uR5 : wh3 → Option ((Bool × Unit) × Unit)
 | .start t0_0 t0_1 t0_2 t0_3 =>
  (uk4 (.start t0_0 t0_1 t0_2 t0_3 (1 : Int) (0 : Int))) >>= fun t1 =>
  some ((decide (t1.1.1 ≤ (200 : Int)), ()), ())
def wc0 : ub3 E := v96.okc E_ok (run := uR5) (v96.mk_ok E_ok [wv2] v96.none)
inductive wh4 where
 | start (l0 : (List ua2))
 | p116 (l0 : (List ua2)) (i3 : Int)
 | p1865 (l0 : (List ua2)) (i3 : Int)
 | p14924 (l0 : (List ua2)) (i3 : Int) (k4 : Int)
 | p3820700 (l0 : (List ua2)) (i3 : Int) (k4 : Int) (fields5 : (List ua6)) (j6 : Int)
def v97 : Fb E wh4 (Bool × Unit) Unit := ⟨11, Tryz.f11, (.cons (.sl 103) .nil), .nil, fun a b => .start a.1, { rl := (.cons .bool .nil), rb := .nil, done := [0] }, [⟨116, { slots := [0, 3] }, (.cons (.sl 103 false) (.cons (.int .i64) .nil)), .nil, fun a b => .p116 a.1 a.2.1⟩,
 ⟨1865, { slots := [0, 3] }, (.cons (.sl 103 false) (.cons (.int .i64) .nil)), .nil, fun a b => .p1865 a.1 a.2.1⟩,
 ⟨14924, { slots := [0, 3, 4] }, (.cons (.sl 103 false) (.cons (.int .i64) (.cons (.int .i64) .nil))), .nil, fun a b => .p14924 a.1 a.2.1 a.2.2.1⟩,
 ⟨3820700, { slots := [0, 3, 4, 5, 6] }, (.cons (.sl 103 false) (.cons (.int .i64) (.cons (.int .i64) (.cons (.sl 58 false) (.cons (.int .i64) .nil))))), .nil, fun a b => .p3820700 a.1 a.2.1 a.2.2.1 a.2.2.2.1 a.2.2.2.2.1⟩], mkWr [] []⟩
def ue8 : wh4 → Option ((Bool × Unit) × Unit)
 | .start l0 =>
  if (decide ((List.length l0 : Int) > (24 : Int))) = true then
   some ((false, ()), ())
  else
   ue8 (.p116 l0 (0 : Int))
 | .p116 l0 i3 =>
  if (decide (i3 < (List.length l0 : Int))) = true then
   (idx l0 i3) >>= fun t1 =>
   if (decide ((List.length t1.Constructors : Int) > (20 : Int))) = true then
    some ((false, ()), ())
   else
    (idx l0 i3) >>= fun t2 =>
    if (decide ((List.length t2.Params : Int) > (12 : Int))) = true then
     some ((false, ()), ())
    else
     ue8 (.p1865 l0 i3)
  else
   some ((true, ()), ())
 | .p1865 l0 i3 =>
  ue8 (.p14924 l0 i3 (0 : Int))
 | .p14924 l0 i3 k4 =>
  (idx l0 i3) >>= fun t1 =>
  if (decide (k4 < (List.length t1.Constructors : Int))) = true then
   (idx l0 i3) >>= fun t2 =>
   (idx t2.Constructors k4) >>= fun t3 =>
   if (decide ((List.length t3.Fields : Int) > (12 : Int))) = true then
    some ((false, ()), ())
   else
    ue8 (.p3820700 l0 i3 k4 t3.Fields (0 : Int))
  else
   ue8 (.p116 l0 (IntKind.wrap .i64 (i3 + (1 : Int))))
 | .p3820700 l0 i3 k4 fields5 j6 =>
  if (decide (j6 < (List.length fields5 : Int))) = true then
   (idx fields5 j6) >>= fun t1 =>
   (uR5 (.start t1.Type_.Kind t1.Type_.Value t1.Type_.Name t1.Type_.Parts)) >>= fun t2 =>
   if (!t2.1.1) = true then
    some ((false, ()), ())
   else
    ue8 (.p3820700 l0 i3 k4 fields5 (IntKind.wrap .i64 (j6 + (1 : Int))))
  else
   ue8 (.p14924 l0 i3 (IntKind.wrap .i64 (k4 + (1 : Int))))
 partial_fixpoint
def wv3 : ub3 E := v97.okc E_ok (run := ue8) (ue8.partial_correctness v97.M fun run' ih => v97.mk_ok E_ok [wc0] ih)
inductive wh5 where
 | start (l0 : (List ByteArray))
def v98 : Fb E wh5 (Unit × Unit) ((List ByteArray) × Unit) := ⟨66, Tryz.f66, (.cons (.sl 9) .nil), .nil, fun a b => .start a.1, { rl := (.cons (Rd.rw 0) .nil), rb := (.cons (.row 9 true) .nil), done := [0] }, [], mkWr [] []⟩
def vs4 : wh5 → Option ((Unit × Unit) × ((List ByteArray) × Unit))
 | .start l0 =>
  if (fits (List.length ([] : List ByteArray)) (List.length l0) 16) = true then
   some (((), ()), (([] : List ByteArray) ++ l0, ()))
  else none
def wv4 : ub3 E := v98.okc E_ok (run := vs4) (v98.mk_ok E_ok [] v98.none)
inductive wh6 where
 | start (t0_0 : Int) (t0_1 : Int) (t0_2 : ByteArray) (t0_3 : (List ua3))
 | p244 (i4 : Int) (C0 : Int) (C1 : Int) (C2 : ByteArray) (C3 : (List ua3)) (D0 : Int) (D1 : Int) (D2 : ByteArray) (G0 : Int) (G1 : Int) (G2 : ByteArray) (B3 : (List ua3))
def vV1 : Fb E wh6 ((Int × (Int × (ByteArray × ((List ua3) × Unit)))) × Unit) Unit := ⟨107, Tryz.f107, (.cons (.agg (.cons (Rd.int .i64).w (.cons (Rd.int .i64).w (.cons Rd.str.w (.cons (.sl 25) .nil))))) .nil), .nil, fun a b => .start a.1.1 a.1.2.1 a.1.2.2.1 a.1.2.2.2.1, { rl := (.cons (.agg (.cons (.int .i64) (.cons (.int .i64) (.cons .str (.cons (.sl 25 false) .nil))))) .nil), rb := .nil, deep := [(false, 0, 3, 25)], done := [0] }, [⟨244, { slots := [1, 2, 3, 4], up := [(true, 3, 3, 25)] }, (.cons (.bp 0 0) (.cons (.bp 1 0) (.cons (.bp 2 0) (.cons (.int .i64) .nil)))), (.cons (.var 25 (.cons (.int .i64) (.cons (.int .i64) (.cons .str (.cons (.sl 25 false) .nil))))) (.cons (.var 25 (.cons (.int .i64) (.cons (.int .i64) (.cons .str (.cons Rd.nl .nil))))) (.cons (.var 25 (.cons (.int .i64) (.cons (.int .i64) (.cons .str (.cons (Rd.rw 3) .nil))))) (.cons (.row 25 false) .nil)))), fun a b => .p244 a.2.2.2.1 b.1.1 b.1.2.1 b.1.2.2.1 b.1.2.2.2.1 b.2.1.1 b.2.1.2.1 b.2.1.2.2.1 b.2.2.1.1 b.2.2.1.2.1 b.2.2.1.2.2.1 b.2.2.2.1⟩], mkWr [] []⟩
def up4 : wh6 → Option (((Int × (Int × (ByteArray × ((List ua3) × Unit)))) × Unit) × Unit)
 | .start t0_0 t0_1 t0_2 t0_3 =>
  up4 (.p244 (0 : Int) t0_0 t0_1 t0_2 t0_3 (0 : Int) (0 : Int) (⟨#[]⟩ : ByteArray) t0_0 t0_1 t0_2 ([] : List ua3))
 | .p244 i4 C0 C1 C2 C3 D0 D1 D2 G0 G1 G2 B3 =>
  if (decide (i4 < (List.length C3 : Int))) = true then
   (idx C3 i4) >>= fun t1 =>
   (up4 (.start t1.Kind t1.Value t1.Name t1.Parts)) >>= fun t2 =>
   if (fits (List.length B3) (List.length ([(⟨t2.1.1.1, t2.1.1.2.1, t2.1.1.2.2.1, t2.1.1.2.2.2.1⟩ : ua3)] : List ua3)) 56) = true then
    up4 (.p244 (IntKind.wrap .i64 (i4 + (1 : Int))) C0 C1 C2 C3 D0 D1 D2 G0 G1 G2 (B3 ++ ([(⟨t2.1.1.1, t2.1.1.2.1, t2.1.1.2.2.1, t2.1.1.2.2.2.1⟩ : ua3)] : List ua3)))
   else none
  else
   some (((G0, (G1, (G2, (B3, ())))), ()), ())
 partial_fixpoint
def wm7 : ub3 E := vV1.okc E_ok (run := up4) (up4.partial_correctness vV1.M fun run' ih => vV1.mk_ok E_ok [vV1.okc E_ok ih] ih)
inductive wh7 where
 | start (l0 : (List ua6))
 | p116 (l0 : (List ua6)) (i4 : Int) (B0 : (List ua6))
def v99 : Fb E wh7 (Unit × Unit) ((List ua6) × Unit) := ⟨67, Tryz.f67, (.cons (.sl 58) .nil), .nil, fun a b => .start a.1, { rl := (.cons (Rd.rw 0) .nil), rb := (.cons (.row 58 true) .nil), done := [0] }, [⟨116, { slots := [0, 3, 4], rows := [(3, 58)] }, (.cons (.sl 58 false) (.cons (Rd.rw 0) (.cons (.int .i64) .nil))), (.cons (.row 58 false) .nil), fun a b => .p116 a.1 a.2.2.1 b.1⟩], mkWr [] []⟩
def ut9 : wh7 → Option ((Unit × Unit) × ((List ua6) × Unit))
 | .start l0 =>
  ut9 (.p116 l0 (0 : Int) ([] : List ua6))
 | .p116 l0 i4 B0 =>
  if (decide (i4 < (List.length l0 : Int))) = true then
   (idx l0 i4) >>= fun t1 =>
   (idx l0 i4) >>= fun t2 =>
   (up4 (.start t2.Type_.Kind t2.Type_.Value t2.Type_.Name t2.Type_.Parts)) >>= fun t3 =>
   if (fits (List.length B0) (List.length ([(⟨t1.Name, (⟨t3.1.1.1, t3.1.1.2.1, t3.1.1.2.2.1, t3.1.1.2.2.2.1⟩ : ua3)⟩ : ua6)] : List ua6)) 72) = true then
    ut9 (.p116 l0 (IntKind.wrap .i64 (i4 + (1 : Int))) (B0 ++ ([(⟨t1.Name, (⟨t3.1.1.1, t3.1.1.2.1, t3.1.1.2.2.1, t3.1.1.2.2.2.1⟩ : ua3)⟩ : ua6)] : List ua6)))
   else none
  else
   some (((), ()), (B0, ()))
 partial_fixpoint
def wv5 : ub3 E := v99.okc E_ok (run := ut9) (ut9.partial_correctness v99.M fun run' ih => v99.mk_ok E_ok [wm7] ih)
inductive wh8 where
 | start (l0 : (List ua2))
 | p116 (l0 : (List ua2)) (i4 : Int) (B0 : (List ua2))
 | p29844 (l0 : (List ua2)) (i4 : Int) (k6 : Int) (B0 : (List ua2)) (B1 : ByteArray) (B2 : (List ByteArray)) (B3 : (List ua1))
def wa0 : Fb E wh8 (Unit × Unit) ((List ua2) × Unit) := ⟨15, Tryz.f15, (.cons (.sl 103) .nil), .nil, fun a b => .start a.1, { rl := (.cons (Rd.rw 0) .nil), rb := (.cons (.row 103 true) .nil), rows := [(0, 103)], done := [0] }, [⟨116, { slots := [0, 3, 4], rows := [(3, 103)] }, (.cons (.sl 103 false) (.cons (Rd.rw 0) (.cons (.int .i64) .nil))), (.cons (.row 103 false) .nil), fun a b => .p116 a.1 a.2.2.1 b.1⟩,
 ⟨29844, { slots := [0, 3, 4, 5, 6], up := [(true, 5, 2, 56)] }, (.cons (.sl 103 false) (.cons (Rd.rw 0) (.cons (.int .i64) (.cons (.bp 1 0) (.cons (.int .i64) .nil))))), (.cons (.row 103 false) (.cons (.var 103 (.cons .str (.cons (Rd.rw 2) (.cons (Rd.rw 3) .nil)))) (.cons (.row 9 true) (.cons (.row 56 false) .nil)))), fun a b => .p29844 a.1 a.2.2.1 a.2.2.2.2.1 b.1 b.2.1.1 b.2.2.1 b.2.2.2.1⟩], mkWr [] [(3731, [5])]⟩
def uh2 : wh8 → Option ((Unit × Unit) × ((List ua2) × Unit))
 | .start l0 =>
  uh2 (.p116 l0 (0 : Int) ([] : List ua2))
 | .p116 l0 i4 B0 =>
  if (decide (i4 < (List.length l0 : Int))) = true then
   (idx l0 i4) >>= fun t1 =>
   (idx l0 i4) >>= fun t2 =>
   (vs4 (.start t2.Params)) >>= fun t3 =>
   uh2 (.p29844 l0 i4 (0 : Int) B0 t1.Name t3.2.1 ([] : List ua1))
  else
   some (((), ()), (B0, ()))
 | .p29844 l0 i4 k6 B0 B1 B2 B3 =>
  (idx l0 i4) >>= fun t1 =>
  if (decide (k6 < (List.length t1.Constructors : Int))) = true then
   (idx l0 i4) >>= fun t2 =>
   (idx t2.Constructors k6) >>= fun t3 =>
   (ut9 (.start t3.Fields)) >>= fun t4 =>
   if (fits (List.length B3) (List.length ([(⟨t3.Name, t4.2.1⟩ : ua1)] : List ua1)) 40) = true then
    uh2 (.p29844 l0 i4 (IntKind.wrap .i64 (k6 + (1 : Int))) B0 B1 B2 (B3 ++ ([(⟨t3.Name, t4.2.1⟩ : ua1)] : List ua1)))
   else none
  else
   if (fits (List.length B0) (List.length ([(⟨B1, B2, B3⟩ : ua2)] : List ua2)) 64) = true then
    uh2 (.p116 l0 (IntKind.wrap .i64 (i4 + (1 : Int))) (B0 ++ ([(⟨B1, B2, B3⟩ : ua2)] : List ua2)))
   else none
 partial_fixpoint
def wv6 : ub3 E := wa0.okc E_ok (run := uh2) (uh2.partial_correctness wa0.M fun run' ih => wa0.mk_ok E_ok [wv5, wv4] ih)
inductive wh9 where
 | start (l0 : (List ua2)) (t1_0 : Int) (t1_1 : Int) (t1_2 : ByteArray) (t1_3 : (List ua3)) (v2_0 : ByteArray) (v2_1 : Int) (v2_2 : (List ua4))
def wa1 : Fb E wh9 (Int × Unit) Unit := ⟨31, Tryz.f31, (.cons (.sl 103) (.cons (.agg (.cons (Rd.int .i64).w (.cons (Rd.int .i64).w (.cons Rd.str.w (.cons (.sl 25) .nil))))) (.cons (.agg (.cons Rd.str.w (.cons (Rd.int .i64).w (.cons (.sl 37) .nil)))) .nil))), .nil, fun a b => .start a.1 a.2.1.1 a.2.1.2.1 a.2.1.2.2.1 a.2.1.2.2.2.1 a.2.2.1.1 a.2.2.1.2.1 a.2.2.1.2.2.1, { rl := (.cons (.int .i64) .nil), rb := .nil, done := [0] }, [], mkWr [] []⟩
def ve2 : wh9 → Option ((Int × Unit) × Unit)
 | .start l0 t1_0 t1_1 t1_2 t1_3 v2_0 v2_1 v2_2 =>
  (un9 (.start l0 t1_0 t1_1 t1_2 t1_3 v2_0 v2_1 v2_2)) >>= fun t1 =>
  some ((t1.1.2.1, ()), ())
def wv7 : ub3 E := wa1.okc E_ok (run := ve2) (wa1.mk_ok E_ok [wb8] wa1.none)
inductive wi0 where
 | start (x0 : (Option ua5)) (v1_0 : ByteArray) (v1_1 : Int) (v1_2 : (List ua4))
 | p244 (sum5 : Int) (s18 : (Option (List data_variant))) (s19 : Int) (s20 : Int) (C0 : ByteArray) (C1 : Int) (C2 : (List ua4))
 | p501364 (sum5 : Int) (own8 : Int) (s34 : (Option (List (Option ua5)))) (s35 : Int) (s36 : Int) (C0 : ByteArray) (C1 : Int) (C2 : (List ua4))
def vV2 : Fb E wi0 (Int × Unit) Unit := ⟨83, Tryz.f83, (.cons (Rd.op 128).w (.cons (.agg (.cons Rd.str.w (.cons (Rd.int .i64).w (.cons (.sl 37) .nil)))) .nil)), .nil, fun a b => .start a.1 a.2.1.1 a.2.1.2.1 a.2.1.2.2.1, { rl := (.cons (.int .i64) .nil), rb := .nil, done := [0] }, [⟨244, { slots := [3, 5, 18, 19, 20] }, (.cons (.bp 0 0) (.cons (.int .i64) (.cons (Rd.so 125) (.cons (.int .i64) (.cons (.int .i64) .nil))))), (.cons (.var 37 (.cons .str (.cons (.int .i64) (.cons (.sl 37 false) .nil)))) .nil), fun a b => .p244 a.2.1 a.2.2.1 a.2.2.2.1 a.2.2.2.2.1 b.1.1 b.1.2.1 b.1.2.2.1⟩,
 ⟨501364, { slots := [3, 5, 8, 34, 35, 36] }, (.cons (.bp 0 0) (.cons (.int .i64) (.cons (.int .i64) (.cons (Rd.so 105) (.cons (.int .i64) (.cons (.int .i64) .nil)))))), (.cons (.var 37 (.cons .str (.cons (.int .i64) (.cons (.sl 37 false) .nil)))) .nil), fun a b => .p501364 a.2.1 a.2.2.1 a.2.2.2.1 a.2.2.2.2.1 a.2.2.2.2.2.1 b.1.1 b.1.2.1 b.1.2.2.1⟩], mkWr [] []⟩
def uj6 : wi0 → Option ((Int × Unit) × Unit)
 | .start x0 v1_0 v1_1 v1_2 =>
  (ur2 (.start x0)) >>= fun t1 =>
  if t1.1.1 = true then
   some ((v1_1, ()), ())
  else
   x0 >>= fun t2 =>
   uj6 (.p244 (0 : Int) t2.constructors (List.length (Option.getD t2.constructors []) : Int) (0 : Int) v1_0 v1_1 v1_2)
 | .p244 sum5 s18 s19 s20 C0 C1 C2 =>
  if (decide (s20 < s19)) = true then
   (idx (Option.getD s18 []) s20) >>= fun t1 =>
   if (!(seq t1.name C0)) = true then
    (ul6 (.start t1.name t1.fields t1.parts)) >>= fun t2 =>
    uj6 (.p244 (IntKind.wrap .i64 (sum5 + t2.1.1)) s18 s19 (IntKind.wrap .i64 (s20 + (1 : Int))) C0 C1 C2)
   else
    uj6 (.p501364 sum5 (0 : Int) t1.parts (List.length (Option.getD t1.parts []) : Int) (0 : Int) C0 C1 C2)
  else
   some ((sum5, ()), ())
 | .p501364 sum5 own8 s34 s35 s36 C0 C1 C2 =>
  if (decide (s36 < s35)) = true then
   (idx (Option.getD s34 []) s36) >>= fun t1 =>
   (run_z61 (.start t1)) >>= fun t2 =>
   (idx C2 s36) >>= fun t3 =>
   (uj6 (.start t1 t3.Name t3.Number t3.Parts)) >>= fun t4 =>
   uj6 (.p501364 sum5 (IntKind.wrap .i64 ((IntKind.wrap .i64 (own8 * t2.1.1)) + t4.1.1)) s34 s35 (IntKind.wrap .i64 (s36 + (1 : Int))) C0 C1 C2)
  else
   some ((IntKind.wrap .i64 (sum5 + own8), ()), ())
 partial_fixpoint
def wv8 : ub3 E := vV2.okc E_ok (run := uj6) (uj6.partial_correctness vV2.M fun run' ih => vV2.mk_ok E_ok [vV2.okc E_ok ih, wb9, wm4, vm2] ih)
inductive wi1 where
 | start (l0 : (List ua2)) (t1_0 : Int) (t1_1 : Int) (t1_2 : ByteArray) (t1_3 : (List ua3)) (v2_0 : ByteArray) (v2_1 : Int) (v2_2 : (List ua4))
def wa2 : Fb E wi1 (Int × (Int × Unit)) Unit := ⟨32, Tryz.f32, (.cons (.sl 103) (.cons (.agg (.cons (Rd.int .i64).w (.cons (Rd.int .i64).w (.cons Rd.str.w (.cons (.sl 25) .nil))))) (.cons (.agg (.cons Rd.str.w (.cons (Rd.int .i64).w (.cons (.sl 37) .nil)))) .nil))), .nil, fun a b => .start a.1 a.2.1.1 a.2.1.2.1 a.2.1.2.2.1 a.2.1.2.2.2.1 a.2.2.1.1 a.2.2.1.2.1 a.2.2.1.2.2.1, { rl := (.cons (.int .i64) (.cons (.int .i64) .nil)), rb := .nil, done := [0, 1] }, [], mkWr [] []⟩
def ve3 : wi1 → Option ((Int × (Int × Unit)) × Unit)
 | .start l0 t1_0 t1_1 t1_2 t1_3 v2_0 v2_1 v2_2 =>
  (un9 (.start l0 t1_0 t1_1 t1_2 t1_3 v2_0 v2_1 v2_2)) >>= fun t1 =>
  if (t1.1.2.1 != (0 : Int)) = true then
   some (((0 : Int), (t1.1.2.1, ())), ())
  else
   (uj6 (.start t1.1.1 v2_0 v2_1 v2_2)) >>= fun t2 =>
   some ((t2.1.1, ((0 : Int), ())), ())
def wv9 : ub3 E := wa2.okc E_ok (run := ve3) (wa2.mk_ok E_ok [wv8, wb8] wa2.none)
inductive wi2 where
 | start (s0 : ByteArray)
 | p7 (s0 : ByteArray)
 | p116 (s0 : ByteArray) (i3 : Int)
 | p3731 (s0 : ByteArray) (i3 : Int) (c4 : Int) (letter5 : Bool)
def wa3 : Fb E wi2 (Bool × Unit) Unit := ⟨118, Tryz.f118, (.cons Rd.str.w .nil), .nil, fun a b => .start a.1, { rl := (.cons .bool .nil), rb := .nil, done := [0] }, [⟨7, { slots := [0] }, (.cons .str .nil), .nil, fun a b => .p7 a.1⟩,
 ⟨116, { slots := [0, 3] }, (.cons .str (.cons (.int .i64) .nil)), .nil, fun a b => .p116 a.1 a.2.1⟩,
 ⟨3731, { slots := [0, 3, 4, 5] }, (.cons .str (.cons (.int .i64) (.cons (.int .u8) (.cons .bool .nil)))), .nil, fun a b => .p3731 a.1 a.2.1 a.2.2.1 a.2.2.2.1⟩], mkWr [] []⟩
def ue1 : wi2 → Option ((Bool × Unit) × Unit)
 | .start s0 =>
  if (decide ((s0.size : Int) < (1 : Int))) = true then
   some ((false, ()), ())
  else
   if (decide ((s0.size : Int) > (16 : Int))) = true then
    some ((false, ()), ())
   else
    ue1 (.p7 s0)
 | .p7 s0 =>
  ue1 (.p116 s0 (0 : Int))
 | .p116 s0 i3 =>
  if (decide (i3 < (s0.size : Int))) = true then
   (sidx s0 i3) >>= fun t1 =>
   if (decide (t1 ≥ (97 : Int))) = true then
    if (decide (t1 ≤ (122 : Int))) = true then
     ue1 (.p3731 s0 i3 t1 true)
    else
     if (decide (t1 ≥ (65 : Int))) = true then
      ue1 (.p3731 s0 i3 t1 (decide (t1 ≤ (90 : Int))))
     else
      ue1 (.p3731 s0 i3 t1 false)
   else
    if (decide (t1 ≥ (65 : Int))) = true then
     ue1 (.p3731 s0 i3 t1 (decide (t1 ≤ (90 : Int))))
    else
     ue1 (.p3731 s0 i3 t1 false)
  else
   some ((true, ()), ())
 | .p3731 s0 i3 c4 letter5 =>
  if (!letter5) = true then
   if (i3 == (0 : Int)) = true then
    some ((false, ()), ())
   else
    if (c4 != (95 : Int)) = true then
     if (decide (c4 < (48 : Int))) = true then
      some ((false, ()), ())
     else
      if (decide (c4 > (57 : Int))) = true then
       some ((false, ()), ())
      else
       ue1 (.p116 s0 (IntKind.wrap .i64 (i3 + (1 : Int))))
    else
     ue1 (.p116 s0 (IntKind.wrap .i64 (i3 + (1 : Int))))
  else
   ue1 (.p116 s0 (IntKind.wrap .i64 (i3 + (1 : Int))))
 partial_fixpoint
def wm8 : ub3 E := wa3.okc E_ok (run := ue1) (ue1.partial_correctness wa3.M fun run' ih => wa3.mk_ok E_ok [] ih)
inductive wi3 where
 | start (l0 : (List ua2)) (name1 : ByteArray)
 | p52 (l0 : (List ua2)) (name1 : ByteArray) (i5 : Int)
def wa4 : Fb E wi3 (Int × Unit) Unit := ⟨81, Tryz.f81, (.cons (.sl 103) (.cons Rd.str.w .nil)), .nil, fun a b => .start a.1 a.2.1, { rl := (.cons (.int .i64) .nil), rb := .nil, done := [0] }, [⟨52, { slots := [0, 1, 5] }, (.cons (.sl 103 false) (.cons .str (.cons (.int .i64) .nil))), .nil, fun a b => .p52 a.1 a.2.1 a.2.2.1⟩], mkWr [] []⟩
def up5 : wi3 → Option ((Int × Unit) × Unit)
 | .start l0 name1 =>
  up5 (.p52 l0 name1 (0 : Int))
 | .p52 l0 name1 i5 =>
  if (decide (i5 < (List.length l0 : Int))) = true then
   (idx l0 i5) >>= fun t1 =>
   if (seq t1.Name name1) = true then
    some ((i5, ()), ())
   else
    up5 (.p52 l0 name1 (IntKind.wrap .i64 (i5 + (1 : Int))))
  else
   some (((-1 : Int), ()), ())
 partial_fixpoint
def wc1 : ub3 E := wa4.okc E_ok (run := up5) (up5.partial_correctness wa4.M fun run' ih => wa4.mk_ok E_ok [] ih)
inductive wi4 where
 | start (l0 : (List ByteArray)) (s1 : ByteArray)
 | p52 (l0 : (List ByteArray)) (s1 : ByteArray) (i5 : Int)
def wa5 : Fb E wi4 (Bool × Unit) Unit := ⟨119, Tryz.f119, (.cons (.sl 9) (.cons Rd.str.w .nil)), .nil, fun a b => .start a.1 a.2.1, { rl := (.cons .bool .nil), rb := .nil, done := [0] }, [⟨52, { slots := [0, 1, 5] }, (.cons (.sl 9 false) (.cons .str (.cons (.int .i64) .nil))), .nil, fun a b => .p52 a.1 a.2.1 a.2.2.1⟩], mkWr [] []⟩
def ur3 : wi4 → Option ((Bool × Unit) × Unit)
 | .start l0 s1 =>
  ur3 (.p52 l0 s1 (0 : Int))
 | .p52 l0 s1 i5 =>
  if (decide (i5 < (List.length l0 : Int))) = true then
   (idx l0 i5) >>= fun t1 =>
   if (seq t1 s1) = true then
    some ((true, ()), ())
   else
    ur3 (.p52 l0 s1 (IntKind.wrap .i64 (i5 + (1 : Int))))
  else
   some ((false, ()), ())
 partial_fixpoint
def wm9 : ub3 E := wa5.okc E_ok (run := ur3) (ur3.partial_correctness wa5.M fun run' ih => wa5.mk_ok E_ok [] ih)
inductive wi5 where
 | start (l0 : (List ua2)) (name1 : ByteArray)
 | p52 (l0 : (List ua2)) (name1 : ByteArray) (i5 : Int)
 | p3364 (l0 : (List ua2)) (name1 : ByteArray) (i5 : Int) (k6 : Int)
def wa6 : Fb E wi5 (Bool × Unit) Unit := ⟨120, Tryz.f120, (.cons (.sl 103) (.cons Rd.str.w .nil)), .nil, fun a b => .start a.1 a.2.1, { rl := (.cons .bool .nil), rb := .nil, done := [0] }, [⟨52, { slots := [0, 1, 5] }, (.cons (.sl 103 false) (.cons .str (.cons (.int .i64) .nil))), .nil, fun a b => .p52 a.1 a.2.1 a.2.2.1⟩,
 ⟨3364, { slots := [0, 1, 5, 6] }, (.cons (.sl 103 false) (.cons .str (.cons (.int .i64) (.cons (.int .i64) .nil)))), .nil, fun a b => .p3364 a.1 a.2.1 a.2.2.1 a.2.2.2.1⟩], mkWr [] []⟩
def uj7 : wi5 → Option ((Bool × Unit) × Unit)
 | .start l0 name1 =>
  uj7 (.p52 l0 name1 (0 : Int))
 | .p52 l0 name1 i5 =>
  if (decide (i5 < (List.length l0 : Int))) = true then
   uj7 (.p3364 l0 name1 i5 (0 : Int))
  else
   some ((false, ()), ())
 | .p3364 l0 name1 i5 k6 =>
  (idx l0 i5) >>= fun t1 =>
  if (decide (k6 < (List.length t1.Constructors : Int))) = true then
   (idx l0 i5) >>= fun t2 =>
   (idx t2.Constructors k6) >>= fun t3 =>
   if (seq t3.Name name1) = true then
    some ((true, ()), ())
   else
    uj7 (.p3364 l0 name1 i5 (IntKind.wrap .i64 (k6 + (1 : Int))))
  else
   uj7 (.p52 l0 name1 (IntKind.wrap .i64 (i5 + (1 : Int))))
 partial_fixpoint
def ww0 : ub3 E := wa6.okc E_ok (run := uj7) (uj7.partial_correctness wa6.M fun run' ih => wa6.mk_ok E_ok [] ih)
inductive wi6 where
 | start (n0 : Int) (lo1 : Int) (hi2 : Int)
def wa7 : Fb E wi6 (Bool × Unit) Unit := ⟨17, Tryz.f17, (.cons (Rd.int .i64).w (.cons (Rd.int .i64).w (.cons (Rd.int .i64).w .nil))), .nil, fun a b => .start a.1 a.2.1 a.2.2.1, { rl := (.cons .bool .nil), rb := .nil, done := [0] }, [], mkWr [] []⟩
def uD0 : wi6 → Option ((Bool × Unit) × Unit)
 | .start n0 lo1 hi2 =>
  if (decide (lo1 ≤ n0)) = true then
   some ((decide (n0 ≤ hi2), ()), ())
  else
   some ((false, ()), ())
def vW1 : ub3 E := wa7.okc E_ok (run := uD0) (wa7.mk_ok E_ok [] wa7.none)
inductive wi7 where
 | start (l0 : (List ua2)) (params1 : (List ByteArray)) (t2_0 : Int) (t2_1 : Int) (t2_2 : ByteArray) (t2_3 : (List ua3))
 | p31 (l0 : (List ua2)) (params1 : (List ByteArray)) (parts7 : Int) (C0 : Int) (C1 : Int) (C2 : ByteArray) (C3 : (List ua3))
 | p63 (l0 : (List ua2)) (params1 : (List ByteArray)) (parts7 : Int) (C0 : Int) (C1 : Int) (C2 : ByteArray) (C3 : (List ua3))
 | p255 (l0 : (List ua2)) (params1 : (List ByteArray)) (C0 : Int) (C1 : Int) (C2 : ByteArray) (C3 : (List ua3))
 | p4084 (l0 : (List ua2)) (params1 : (List ByteArray)) (i9 : Int) (C0 : Int) (C1 : Int) (C2 : ByteArray) (C3 : (List ua3))
def vV3 : Fb E wi7 (Int × Unit) Unit := ⟨138, Tryz.f138, (.cons (.sl 103) (.cons (.sl 9) (.cons (.agg (.cons (Rd.int .i64).w (.cons (Rd.int .i64).w (.cons Rd.str.w (.cons (.sl 25) .nil))))) .nil))), .nil, fun a b => .start a.1 a.2.1 a.2.2.1.1 a.2.2.1.2.1 a.2.2.1.2.2.1 a.2.2.1.2.2.2.1, { rl := (.cons (.int .i64) .nil), rb := .nil, done := [0] }, [⟨31, { slots := [0, 1, 5, 7] }, (.cons (.sl 103 false) (.cons (.sl 9 false) (.cons (.bp 0 0) (.cons (.int .i64) .nil)))), (.cons (.var 25 (.cons (.int .i64) (.cons (.int .i64) (.cons .str (.cons (.sl 25 false) .nil))))) .nil), fun a b => .p31 a.1 a.2.1 a.2.2.2.1 b.1.1 b.1.2.1 b.1.2.2.1 b.1.2.2.2.1⟩,
 ⟨63, { slots := [0, 1, 5, 7] }, (.cons (.sl 103 false) (.cons (.sl 9 false) (.cons (.bp 0 0) (.cons (.int .i64) .nil)))), (.cons (.var 25 (.cons (.int .i64) (.cons (.int .i64) (.cons .str (.cons (.sl 25 false) .nil))))) .nil), fun a b => .p63 a.1 a.2.1 a.2.2.2.1 b.1.1 b.1.2.1 b.1.2.2.1 b.1.2.2.2.1⟩,
 ⟨255, { slots := [0, 1, 5] }, (.cons (.sl 103 false) (.cons (.sl 9 false) (.cons (.bp 0 0) .nil))), (.cons (.var 25 (.cons (.int .i64) (.cons (.int .i64) (.cons .str (.cons (.sl 25 false) .nil))))) .nil), fun a b => .p255 a.1 a.2.1 b.1.1 b.1.2.1 b.1.2.2.1 b.1.2.2.2.1⟩,
 ⟨4084, { slots := [0, 1, 5, 9] }, (.cons (.sl 103 false) (.cons (.sl 9 false) (.cons (.bp 0 0) (.cons (.int .i64) .nil)))), (.cons (.var 25 (.cons (.int .i64) (.cons (.int .i64) (.cons .str (.cons (.sl 25 false) .nil))))) .nil), fun a b => .p4084 a.1 a.2.1 a.2.2.2.1 b.1.1 b.1.2.1 b.1.2.2.1 b.1.2.2.2.1⟩], mkWr [] []⟩
def ud6 : wi7 → Option ((Int × Unit) × Unit)
 | .start l0 params1 t2_0 t2_1 t2_2 t2_3 =>
  (uD0 (.start t2_0 (0 : Int) (2 : Int))) >>= fun t1 =>
  if (!t1.1.1) = true then
   some (((15 : Int), ()), ())
  else
   if (t2_0 == (0 : Int)) = true then
    (ur3 (.start params1 t2_2)) >>= fun t2 =>
    if (!t2.1.1) = true then
     some (((6 : Int), ()), ())
    else
     ud6 (.p31 l0 params1 (0 : Int) t2_0 t2_1 t2_2 t2_3)
   else
    ud6 (.p31 l0 params1 (0 : Int) t2_0 t2_1 t2_2 t2_3)
 | .p31 l0 params1 parts7 C0 C1 C2 C3 =>
  if (C0 == (1 : Int)) = true then
   (up5 (.start l0 C2)) >>= fun t1 =>
   if (seq C2 (⟨#[66, 105, 116]⟩ : ByteArray)) = true then
    ud6 (.p63 l0 params1 (1 : Int) C0 C1 C2 C3)
   else
    if (seq C2 (⟨#[66, 111, 111, 108]⟩ : ByteArray)) = true then
     ud6 (.p63 l0 params1 parts7 C0 C1 C2 C3)
    else
     if (decide (t1.1.1 ≥ (0 : Int))) = true then
      (idx l0 t1.1.1) >>= fun t2 =>
      ud6 (.p63 l0 params1 (List.length t2.Params : Int) C0 C1 C2 C3)
     else
      some (((6 : Int), ()), ())
  else
   ud6 (.p63 l0 params1 parts7 C0 C1 C2 C3)
 | .p63 l0 params1 parts7 C0 C1 C2 C3 =>
  if ((List.length C3 : Int) != parts7) = true then
   some (((10 : Int), ()), ())
  else
   if (C0 == (2 : Int)) = true then
    (uD0 (.start C1 (0 : Int) (1000000000 : Int))) >>= fun t1 =>
    if (!t1.1.1) = true then
     some (((2 : Int), ()), ())
    else
     ud6 (.p255 l0 params1 C0 C1 C2 C3)
   else
    ud6 (.p255 l0 params1 C0 C1 C2 C3)
 | .p255 l0 params1 C0 C1 C2 C3 =>
  ud6 (.p4084 l0 params1 (0 : Int) C0 C1 C2 C3)
 | .p4084 l0 params1 i9 C0 C1 C2 C3 =>
  if (decide (i9 < (List.length C3 : Int))) = true then
   (idx C3 i9) >>= fun t1 =>
   (ud6 (.start l0 params1 t1.Kind t1.Value t1.Name t1.Parts)) >>= fun t2 =>
   if (t2.1.1 != (0 : Int)) = true then
    some ((t2.1.1, ()), ())
   else
    ud6 (.p4084 l0 params1 (IntKind.wrap .i64 (i9 + (1 : Int))) C0 C1 C2 C3)
  else
   some (((0 : Int), ()), ())
 partial_fixpoint
def ww1 : ub3 E := vV3.okc E_ok (run := ud6) (ud6.partial_correctness vV3.M fun run' ih => vV3.mk_ok E_ok [vV3.okc E_ok ih, wc1, wm9, vW1] ih)
inductive wi8 where
 | start (l0 : (List ua2)) (params1 : (List ByteArray)) (t2_0 : Int) (t2_1 : Int) (t2_2 : ByteArray) (t2_3 : (List ua3))
def wa8 : Fb E wi8 (Int × Unit) Unit := ⟨103, Tryz.f103, (.cons (.sl 103) (.cons (.sl 9) (.cons (.agg (.cons (Rd.int .i64).w (.cons (Rd.int .i64).w (.cons Rd.str.w (.cons (.sl 25) .nil))))) .nil))), .nil, fun a b => .start a.1 a.2.1 a.2.2.1.1 a.2.2.1.2.1 a.2.2.1.2.2.1 a.2.2.1.2.2.2.1, { rl := (.cons (.int .i64) .nil), rb := .nil, done := [0] }, [], mkWr [] []⟩
def u20 : wi8 → Option ((Int × Unit) × Unit)
 | .start l0 params1 t2_0 t2_1 t2_2 t2_3 =>
  (uR5 (.start t2_0 t2_1 t2_2 t2_3)) >>= fun t1 =>
  if (!t1.1.1) = true then
   some (((8 : Int), ()), ())
  else
   (ud6 (.start l0 params1 t2_0 t2_1 t2_2 t2_3)) >>= fun t2 =>
   some ((t2.1.1, ()), ())
def wn0 : ub3 E := wa8.okc E_ok (run := u20) (wa8.mk_ok E_ok [ww1, wc0] wa8.none)
inductive wi9 where
 | start (d0_0 : ByteArray) (d0_1 : (List ByteArray)) (d0_2 : (List ua1)) (c1_0 : ByteArray) (c1_1 : (List ua6)) (before2 : (List ua2))
 | p116 (before2 : (List ua2)) (i7 : Int) (C0 : ByteArray) (C1 : (List ByteArray)) (C2 : (List ua1)) (D0 : ByteArray) (D1 : (List ua6))
 | p59700 (before2 : (List ua2)) (i7 : Int) (k9 : Int) (C0 : ByteArray) (C1 : (List ByteArray)) (C2 : (List ua1)) (D0 : ByteArray) (D1 : (List ua6)) (G0 : ByteArray) (G1 : Int) (G2 : Int) (G3 : ByteArray) (G4 : (List ua3))
def wa9 : Fb E wi9 (Int × Unit) Unit := ⟨121, Tryz.f121, (.cons (.agg (.cons Rd.str.w (.cons (.sl 9) (.cons (.sl 56) .nil)))) (.cons (.agg (.cons Rd.str.w (.cons (.sl 58) .nil))) (.cons (.sl 103) .nil))), .nil, fun a b => .start a.1.1 a.1.2.1 a.1.2.2.1 a.2.1.1 a.2.1.2.1 a.2.2.1, { rl := (.cons (.int .i64) .nil), rb := .nil, done := [0] }, [⟨116, { slots := [2, 3, 4, 7] }, (.cons (.sl 103 false) (.cons (.bp 0 0) (.cons (.bp 1 0) (.cons (.int .i64) .nil)))), (.cons (.var 103 (.cons .str (.cons (.sl 9 false) (.cons (.sl 56 false) .nil)))) (.cons (.var 56 (.cons .str (.cons (.sl 58 false) .nil))) .nil)), fun a b => .p116 a.1 a.2.2.2.1 b.1.1 b.1.2.1 b.1.2.2.1 b.2.1.1 b.2.1.2.1⟩,
 ⟨59700, { slots := [2, 3, 4, 7, 8, 9] }, (.cons (.sl 103 false) (.cons (.bp 0 0) (.cons (.bp 1 0) (.cons (.int .i64) (.cons (.bp 2 0) (.cons (.int .i64) .nil)))))), (.cons (.var 103 (.cons .str (.cons (.sl 9 false) (.cons (.sl 56 false) .nil)))) (.cons (.var 56 (.cons .str (.cons (.sl 58 false) .nil))) (.cons (.var 58 (.cons .str (.cons (.int .i64) (.cons (.int .i64) (.cons .str (.cons (.sl 25 false) .nil)))))) .nil))), fun a b => .p59700 a.1 a.2.2.2.1 a.2.2.2.2.2.1 b.1.1 b.1.2.1 b.1.2.2.1 b.2.1.1 b.2.1.2.1 b.2.2.1.1 b.2.2.1.2.1 b.2.2.1.2.2.1 b.2.2.1.2.2.2.1 b.2.2.1.2.2.2.2.1⟩], mkWr [] []⟩
def uk5 : wi9 → Option ((Int × Unit) × Unit)
 | .start d0_0 d0_1 d0_2 c1_0 c1_1 before2 =>
  if (decide ((List.length c1_1 : Int) > (8 : Int))) = true then
   some (((8 : Int), ()), ())
  else
   uk5 (.p116 before2 (0 : Int) d0_0 d0_1 d0_2 c1_0 c1_1)
 | .p116 before2 i7 C0 C1 C2 D0 D1 =>
  if (decide (i7 < (List.length D1 : Int))) = true then
   (idx D1 i7) >>= fun t1 =>
   (ue1 (.start t1.Name)) >>= fun t2 =>
   if (!t2.1.1) = true then
    some (((4 : Int), ()), ())
   else
    uk5 (.p59700 before2 i7 (0 : Int) C0 C1 C2 D0 D1 t1.Name t1.Type_.Kind t1.Type_.Value t1.Type_.Name t1.Type_.Parts)
  else
   some (((0 : Int), ()), ())
 | .p59700 before2 i7 k9 C0 C1 C2 D0 D1 G0 G1 G2 G3 G4 =>
  if (decide (k9 < i7)) = true then
   (idx D1 k9) >>= fun t1 =>
   if (seq t1.Name G0) = true then
    some (((5 : Int), ()), ())
   else
    uk5 (.p59700 before2 i7 (IntKind.wrap .i64 (k9 + (1 : Int))) C0 C1 C2 D0 D1 G0 G1 G2 G3 G4)
  else
   (u20 (.start before2 C1 G1 G2 G3 G4)) >>= fun t2 =>
   if (t2.1.1 != (0 : Int)) = true then
    some ((t2.1.1, ()), ())
   else
    uk5 (.p116 before2 (IntKind.wrap .i64 (i7 + (1 : Int))) C0 C1 C2 D0 D1)
 partial_fixpoint
def ww2 : ub3 E := wa9.okc E_ok (run := uk5) (uk5.partial_correctness wa9.M fun run' ih => wa9.mk_ok E_ok [wn0, wm8] ih)
inductive wj0 where
 | start (d0_0 : ByteArray) (d0_1 : (List ByteArray)) (d0_2 : (List ua1)) (before1 : (List ua2))
 | p15 (before1 : (List ua2)) (C0 : ByteArray) (C1 : (List ByteArray)) (C2 : (List ua1))
 | p31 (before1 : (List ua2)) (C0 : ByteArray) (C1 : (List ByteArray)) (C2 : (List ua1))
 | p1012 (before1 : (List ua2)) (i5 : Int) (C0 : ByteArray) (C1 : (List ByteArray)) (C2 : (List ua1))
 | p2036 (before1 : (List ua2)) (i6 : Int) (C0 : ByteArray) (C1 : (List ByteArray)) (C2 : (List ua1))
 | p130343 (before1 : (List ua2)) (i6 : Int) (C0 : ByteArray) (C1 : (List ByteArray)) (C2 : (List ua1)) (D0 : ByteArray) (D1 : (List ua6))
def wb0 : Fb E wj0 (Int × Unit) Unit := ⟨79, Tryz.f79, (.cons (.agg (.cons Rd.str.w (.cons (.sl 9) (.cons (.sl 56) .nil)))) (.cons (.sl 103) .nil)), .nil, fun a b => .start a.1.1 a.1.2.1 a.1.2.2.1 a.2.1, { rl := (.cons (.int .i64) .nil), rb := .nil, done := [0] }, [⟨15, { slots := [1, 2] }, (.cons (.sl 103 false) (.cons (.bp 0 0) .nil)), (.cons (.var 103 (.cons .str (.cons (.sl 9 false) (.cons (.sl 56 false) .nil)))) .nil), fun a b => .p15 a.1 b.1.1 b.1.2.1 b.1.2.2.1⟩,
 ⟨31, { slots := [1, 2] }, (.cons (.sl 103 false) (.cons (.bp 0 0) .nil)), (.cons (.var 103 (.cons .str (.cons (.sl 9 false) (.cons (.sl 56 false) .nil)))) .nil), fun a b => .p31 a.1 b.1.1 b.1.2.1 b.1.2.2.1⟩,
 ⟨1012, { slots := [1, 2, 5] }, (.cons (.sl 103 false) (.cons (.bp 0 0) (.cons (.int .i64) .nil))), (.cons (.var 103 (.cons .str (.cons (.sl 9 false) (.cons (.sl 56 false) .nil)))) .nil), fun a b => .p1012 a.1 a.2.2.1 b.1.1 b.1.2.1 b.1.2.2.1⟩,
 ⟨2036, { slots := [1, 2, 6] }, (.cons (.sl 103 false) (.cons (.bp 0 0) (.cons (.int .i64) .nil))), (.cons (.var 103 (.cons .str (.cons (.sl 9 false) (.cons (.sl 56 false) .nil)))) .nil), fun a b => .p2036 a.1 a.2.2.1 b.1.1 b.1.2.1 b.1.2.2.1⟩,
 ⟨130343, { slots := [1, 2, 6, 7] }, (.cons (.sl 103 false) (.cons (.bp 0 0) (.cons (.int .i64) (.cons (.bp 1 0) .nil)))), (.cons (.var 103 (.cons .str (.cons (.sl 9 false) (.cons (.sl 56 false) .nil)))) (.cons (.var 56 (.cons .str (.cons (.sl 58 false) .nil))) .nil)), fun a b => .p130343 a.1 a.2.2.1 b.1.1 b.1.2.1 b.1.2.2.1 b.2.1.1 b.2.1.2.1⟩], mkWr [] []⟩
def ue2 : wj0 → Option ((Int × Unit) × Unit)
 | .start d0_0 d0_1 d0_2 before1 =>
  (ue1 (.start d0_0)) >>= fun t1 =>
  if (!t1.1.1) = true then
   some (((4 : Int), ()), ())
  else
   (up5 (.start before1 d0_0)) >>= fun t2 =>
   if (decide (t2.1.1 ≥ (0 : Int))) = true then
    some (((5 : Int), ()), ())
   else
    if (seq d0_0 (⟨#[66, 105, 116]⟩ : ByteArray)) = true then
     some (((5 : Int), ()), ())
    else
     if (seq d0_0 (⟨#[66, 111, 111, 108]⟩ : ByteArray)) = true then
      some (((5 : Int), ()), ())
     else
      if (seq d0_0 (⟨#[73, 110, 116, 101, 103, 101, 114]⟩ : ByteArray)) = true then
       some (((5 : Int), ()), ())
      else
       ue2 (.p15 before1 d0_0 d0_1 d0_2)
 | .p15 before1 C0 C1 C2 =>
  if (decide ((List.length C1 : Int) > (4 : Int))) = true then
   some (((8 : Int), ()), ())
  else
   if (decide ((List.length C2 : Int) > (16 : Int))) = true then
    some (((8 : Int), ()), ())
   else
    ue2 (.p31 before1 C0 C1 C2)
 | .p31 before1 C0 C1 C2 =>
  if ((List.length C2 : Int) == (0 : Int)) = true then
   some (((10 : Int), ()), ())
  else
   ue2 (.p1012 before1 (0 : Int) C0 C1 C2)
 | .p1012 before1 i5 C0 C1 C2 =>
  if (decide (i5 < (List.length C1 : Int))) = true then
   (idx C1 i5) >>= fun t1 =>
   (ue1 (.start t1)) >>= fun t2 =>
   if (!t2.1.1) = true then
    some (((4 : Int), ()), ())
   else
    (span (List.length C1) (0 : Int) i5) >>= fun t3 =>
    (idx C1 i5) >>= fun t4 =>
    (ur3 (.start (cut C1 t3) t4)) >>= fun t5 =>
    if t5.1.1 = true then
     some (((5 : Int), ()), ())
    else
     ue2 (.p1012 before1 (IntKind.wrap .i64 (i5 + (1 : Int))) C0 C1 C2)
  else
   ue2 (.p2036 before1 (0 : Int) C0 C1 C2)
 | .p2036 before1 i6 C0 C1 C2 =>
  if (decide (i6 < (List.length C2 : Int))) = true then
   (idx C2 i6) >>= fun t1 =>
   (ue1 (.start t1.Name)) >>= fun t2 =>
   if (!t2.1.1) = true then
    some (((4 : Int), ()), ())
   else
    (uj7 (.start before1 t1.Name)) >>= fun t3 =>
    if t3.1.1 = true then
     some (((5 : Int), ()), ())
    else
     (span (List.length C2) (0 : Int) i6) >>= fun t4 =>
     (uj7 (.start ([(⟨(⟨#[]⟩ : ByteArray), [], cut C2 t4⟩ : ua2)] : List ua2) t1.Name)) >>= fun t5 =>
     if t5.1.1 = true then
      some (((5 : Int), ()), ())
     else
      if (seq t1.Name (⟨#[70, 97, 108, 115, 101]⟩ : ByteArray)) = true then
       some (((5 : Int), ()), ())
      else
       if (seq t1.Name (⟨#[84, 114, 117, 101]⟩ : ByteArray)) = true then
        some (((5 : Int), ()), ())
       else
        ue2 (.p130343 before1 i6 C0 C1 C2 t1.Name t1.Fields)
  else
   some (((0 : Int), ()), ())
 | .p130343 before1 i6 C0 C1 C2 D0 D1 =>
  (uk5 (.start C0 C1 C2 D0 D1 before1)) >>= fun t1 =>
  if (t1.1.1 != (0 : Int)) = true then
   some ((t1.1.1, ()), ())
  else
   ue2 (.p2036 before1 (IntKind.wrap .i64 (i6 + (1 : Int))) C0 C1 C2)
 partial_fixpoint
def ww3 : ub3 E := wb0.okc E_ok (run := ue2) (ue2.partial_correctness wb0.M fun run' ih => wb0.mk_ok E_ok [ww2, ww0, wm9, wc1, wm8] ih)
inductive wj1 where
 | start (l0 : (List ua2))
 | p116 (l0 : (List ua2)) (i4 : Int)
def wb1 : Fb E wj1 (Int × (Int × Unit)) Unit := ⟨24, Tryz.f24, (.cons (.sl 103) .nil), .nil, fun a b => .start a.1, { rl := (.cons (.int .i64) (.cons (.int .i64) .nil)), rb := .nil, done := [0, 1] }, [⟨116, { slots := [0, 4] }, (.cons (.sl 103 false) (.cons (.int .i64) .nil)), .nil, fun a b => .p116 a.1 a.2.1⟩], mkWr [] []⟩
def uu0 : wj1 → Option ((Int × (Int × Unit)) × Unit)
 | .start l0 =>
  if (decide ((List.length l0 : Int) > (20 : Int))) = true then
   some (((0 : Int), ((8 : Int), ())), ())
  else
   uu0 (.p116 l0 (0 : Int))
 | .p116 l0 i4 =>
  if (decide (i4 < (List.length l0 : Int))) = true then
   (idx l0 i4) >>= fun t1 =>
   (span (List.length l0) (0 : Int) i4) >>= fun t2 =>
   (ue2 (.start t1.Name t1.Params t1.Constructors (cut l0 t2))) >>= fun t3 =>
   if (t3.1.1 != (0 : Int)) = true then
    some ((i4, (t3.1.1, ())), ())
   else
    uu0 (.p116 l0 (IntKind.wrap .i64 (i4 + (1 : Int))))
  else
   some (((0 : Int), ((0 : Int), ())), ())
 partial_fixpoint
def ww4 : ub3 E := wb1.okc E_ok (run := uu0) (uu0.partial_correctness wb1.M fun run' ih => wb1.mk_ok E_ok [ww3] ih)
inductive wj2 where
 | start (l0 : (List ua2))
def wb2 : Fb E wj2 (Int × Unit) Unit := ⟨62, Tryz.f62, (.cons (.sl 103) .nil), .nil, fun a b => .start a.1, { rl := (.cons (.int .i64) .nil), rb := .nil, done := [0] }, [], mkWr [] []⟩
def vs5 : wj2 → Option ((Int × Unit) × Unit)
 | .start l0 =>
  (uu0 (.start l0)) >>= fun t1 =>
  some ((t1.1.2.1, ()), ())
def ww5 : ub3 E := wb2.okc E_ok (run := vs5) (wb2.mk_ok E_ok [ww4] wb2.none)
inductive wj3 where
 | start (t0_0 : Int) (t0_1 : Int) (t0_2 : ByteArray) (t0_3 : (List ua3))
def wb3 : Fb E wj3 (Bool × Unit) Unit := ⟨27, Tryz.f27, (.cons (.agg (.cons (Rd.int .i64).w (.cons (Rd.int .i64).w (.cons Rd.str.w (.cons (.sl 25) .nil))))) .nil), .nil, fun a b => .start a.1.1 a.1.2.1 a.1.2.2.1 a.1.2.2.2.1, { rl := (.cons .bool .nil), rb := .nil, done := [0] }, [], mkWr [] []⟩
def um9 : wj3 → Option ((Bool × Unit) × Unit)
 | .start t0_0 t0_1 t0_2 t0_3 =>
  if (t0_0 == (1 : Int)) = true then
   some ((seq t0_2 (⟨#[66, 105, 116]⟩ : ByteArray), ()), ())
  else
   some ((false, ()), ())
def u44 : ub3 E := wb3.okc E_ok (run := um9) (wb3.mk_ok E_ok [] wb3.none)
inductive wj4 where
 | start (n0 : Int)
def wb4 : Fb E wj4 (Bool × Unit) Unit := ⟨44, Tryz.f44, (.cons (Rd.int .i64).w .nil), .nil, fun a b => .start a.1, { rl := (.cons .bool .nil), rb := .nil, done := [0] }, [], mkWr [] []⟩
def u22 : wj4 → Option ((Bool × Unit) × Unit)
 | .start n0 =>
  (uD0 (.start n0 (1 : Int) (16 : Int))) >>= fun t1 =>
  some ((t1.1.1, ()), ())
def wn1 : ub3 E := wb4.okc E_ok (run := u22) (wb4.mk_ok E_ok [vW1] wb4.none)
inductive wj5 where
 | start (t0_0 : Int) (t0_1 : Int) (t0_2 : ByteArray) (t0_3 : (List ua3)) (params1 : (List ByteArray)) (args2 : (List ua3))
 | p7 (params1 : (List ByteArray)) (args2 : (List ua3)) (C0 : Int) (C1 : Int) (C2 : ByteArray) (C3 : (List ua3)) (D0 : Int) (D1 : Int) (D2 : ByteArray)
 | p212 (params1 : (List ByteArray)) (args2 : (List ua3)) (i7 : Int) (C0 : Int) (C1 : Int) (C2 : ByteArray) (C3 : (List ua3)) (D0 : Int) (D1 : Int) (D2 : ByteArray)
 | p500 (params1 : (List ByteArray)) (args2 : (List ua3)) (i9 : Int) (C0 : Int) (C1 : Int) (C2 : ByteArray) (C3 : (List ua3)) (D0 : Int) (D1 : Int) (D2 : ByteArray) (G0 : Int) (G1 : Int) (G2 : ByteArray) (B3 : (List ua3))
def vV4 : Fb E wj5 ((Int × (Int × (ByteArray × ((List ua3) × Unit)))) × Unit) Unit := ⟨82, Tryz.f82, (.cons (.agg (.cons (Rd.int .i64).w (.cons (Rd.int .i64).w (.cons Rd.str.w (.cons (.sl 25) .nil))))) (.cons (.sl 9) (.cons (.sl 25) .nil))), .nil, fun a b => .start a.1.1 a.1.2.1 a.1.2.2.1 a.1.2.2.2.1 a.2.1 a.2.2.1, { rl := (.cons (.agg (.cons (.int .i64) (.cons (.int .i64) (.cons .str (.cons (.sl 25 false) .nil))))) .nil), rb := .nil, deep := [(false, 0, 3, 25)], done := [0] }, [⟨7, { slots := [1, 2, 3, 6] }, (.cons (.sl 9 false) (.cons (.sl 25 false) (.cons (.bp 0 0) (.cons (.bp 1 0) .nil)))), (.cons (.var 25 (.cons (.int .i64) (.cons (.int .i64) (.cons .str (.cons (.sl 25 false) .nil))))) (.cons (.var 25 (.cons (.int .i64) (.cons (.int .i64) (.cons .str (.cons Rd.nl .nil))))) .nil)), fun a b => .p7 a.1 a.2.1 b.1.1 b.1.2.1 b.1.2.2.1 b.1.2.2.2.1 b.2.1.1 b.2.1.2.1 b.2.1.2.2.1⟩,
 ⟨212, { slots := [1, 2, 3, 6, 7] }, (.cons (.sl 9 false) (.cons (.sl 25 false) (.cons (.bp 0 0) (.cons (.bp 1 0) (.cons (.int .i64) .nil))))), (.cons (.var 25 (.cons (.int .i64) (.cons (.int .i64) (.cons .str (.cons (.sl 25 false) .nil))))) (.cons (.var 25 (.cons (.int .i64) (.cons (.int .i64) (.cons .str (.cons Rd.nl .nil))))) .nil)), fun a b => .p212 a.1 a.2.1 a.2.2.2.2.1 b.1.1 b.1.2.1 b.1.2.2.1 b.1.2.2.2.1 b.2.1.1 b.2.1.2.1 b.2.1.2.2.1⟩,
 ⟨500, { slots := [1, 2, 3, 6, 8, 9], up := [(true, 8, 3, 25)] }, (.cons (.sl 9 false) (.cons (.sl 25 false) (.cons (.bp 0 0) (.cons (.bp 1 0) (.cons (.bp 2 0) (.cons (.int .i64) .nil)))))), (.cons (.var 25 (.cons (.int .i64) (.cons (.int .i64) (.cons .str (.cons (.sl 25 false) .nil))))) (.cons (.var 25 (.cons (.int .i64) (.cons (.int .i64) (.cons .str (.cons Rd.nl .nil))))) (.cons (.var 25 (.cons (.int .i64) (.cons (.int .i64) (.cons .str (.cons (Rd.rw 3) .nil))))) (.cons (.row 25 false) .nil)))), fun a b => .p500 a.1 a.2.1 a.2.2.2.2.2.1 b.1.1 b.1.2.1 b.1.2.2.1 b.1.2.2.2.1 b.2.1.1 b.2.1.2.1 b.2.1.2.2.1 b.2.2.1.1 b.2.2.1.2.1 b.2.2.1.2.2.1 b.2.2.2.1⟩], mkWr [] []⟩
def ug3 : wj5 → Option (((Int × (Int × (ByteArray × ((List ua3) × Unit)))) × Unit) × Unit)
 | .start t0_0 t0_1 t0_2 t0_3 params1 args2 =>
  if (t0_0 == (0 : Int)) = true then
   ug3 (.p212 params1 args2 (0 : Int) t0_0 t0_1 t0_2 t0_3 (0 : Int) (0 : Int) (⟨#[]⟩ : ByteArray))
  else
   ug3 (.p7 params1 args2 t0_0 t0_1 t0_2 t0_3 (0 : Int) (0 : Int) (⟨#[]⟩ : ByteArray))
 | .p7 params1 args2 C0 C1 C2 C3 D0 D1 D2 =>
  ug3 (.p500 params1 args2 (0 : Int) C0 C1 C2 C3 D0 D1 D2 C0 C1 C2 ([] : List ua3))
 | .p212 params1 args2 i7 C0 C1 C2 C3 D0 D1 D2 =>
  if (decide (i7 < (List.length params1 : Int))) = true then
   (idx params1 i7) >>= fun t1 =>
   if (seq t1 C2) = true then
    (idx args2 i7) >>= fun t2 =>
    (up4 (.start t2.Kind t2.Value t2.Name t2.Parts)) >>= fun t3 =>
    some (((t3.1.1.1, (t3.1.1.2.1, (t3.1.1.2.2.1, (t3.1.1.2.2.2.1, ())))), ()), ())
   else
    ug3 (.p212 params1 args2 (IntKind.wrap .i64 (i7 + (1 : Int))) C0 C1 C2 C3 D0 D1 D2)
  else
   ug3 (.p7 params1 args2 C0 C1 C2 C3 D0 D1 D2)
 | .p500 params1 args2 i9 C0 C1 C2 C3 D0 D1 D2 G0 G1 G2 B3 =>
  if (decide (i9 < (List.length C3 : Int))) = true then
   (idx C3 i9) >>= fun t1 =>
   (ug3 (.start t1.Kind t1.Value t1.Name t1.Parts params1 args2)) >>= fun t2 =>
   if (fits (List.length B3) (List.length ([(⟨t2.1.1.1, t2.1.1.2.1, t2.1.1.2.2.1, t2.1.1.2.2.2.1⟩ : ua3)] : List ua3)) 56) = true then
    ug3 (.p500 params1 args2 (IntKind.wrap .i64 (i9 + (1 : Int))) C0 C1 C2 C3 D0 D1 D2 G0 G1 G2 (B3 ++ ([(⟨t2.1.1.1, t2.1.1.2.1, t2.1.1.2.2.1, t2.1.1.2.2.2.1⟩ : ua3)] : List ua3)))
   else none
  else
   some (((G0, (G1, (G2, (B3, ())))), ()), ())
 partial_fixpoint
def ww6 : ub3 E := vV4.okc E_ok (run := ug3) (ug3.partial_correctness vV4.M fun run' ih => vV4.mk_ok E_ok [vV4.okc E_ok ih, wm7] ih)
inductive wj6 where
 | start (l0 : (List ua2)) (t1_0 : Int) (t1_1 : Int) (t1_2 : ByteArray) (t1_3 : (List ua3))
 | p500 (i7 : Int) (C0 : Int) (C1 : Int) (C2 : ByteArray) (C3 : (List ua3)) (D0 : ByteArray) (D1 : (List ByteArray)) (D2 : (List ua1)) (B2 : (List ua1))
 | p128148 (i7 : Int) (k9 : Int) (C0 : Int) (C1 : Int) (C2 : ByteArray) (C3 : (List ua3)) (D0 : ByteArray) (D1 : (List ByteArray)) (D2 : (List ua1)) (B2 : (List ua1)) (B3 : ByteArray) (B4 : (List ua6))
def wb5 : Fb E wj6 ((List ua1) × Unit) Unit := ⟨28, Tryz.f28, (.cons (.sl 103) (.cons (.agg (.cons (Rd.int .i64).w (.cons (Rd.int .i64).w (.cons Rd.str.w (.cons (.sl 25) .nil))))) .nil)), .nil, fun a b => .start a.1 a.2.1.1 a.2.1.2.1 a.2.1.2.2.1 a.2.1.2.2.2.1, { rl := (.cons (.sl 56 false) .nil), rb := .nil, flat := [(0, 56)], done := [0] }, [⟨500, { slots := [3, 5, 6, 7], rows := [(6, 56)] }, (.cons (.bp 0 0) (.cons (.bp 1 0) (.cons (Rd.rw 2) (.cons (.int .i64) .nil)))), (.cons (.var 25 (.cons (.int .i64) (.cons (.int .i64) (.cons .str (.cons (.sl 25 false) .nil))))) (.cons (.var 103 (.cons .str (.cons (.sl 9 false) (.cons (.sl 56 false) .nil)))) (.cons (.row 56 false) .nil))), fun a b => .p500 a.2.2.2.1 b.1.1 b.1.2.1 b.1.2.2.1 b.1.2.2.2.1 b.2.1.1 b.2.1.2.1 b.2.1.2.2.1 b.2.2.1⟩,
 ⟨128148, { slots := [3, 5, 6, 7, 8, 9], up := [(true, 8, 1, 58)] }, (.cons (.bp 0 0) (.cons (.bp 1 0) (.cons (Rd.rw 2) (.cons (.int .i64) (.cons (.bp 3 0) (.cons (.int .i64) .nil)))))), (.cons (.var 25 (.cons (.int .i64) (.cons (.int .i64) (.cons .str (.cons (.sl 25 false) .nil))))) (.cons (.var 103 (.cons .str (.cons (.sl 9 false) (.cons (.sl 56 false) .nil)))) (.cons (.row 56 false) (.cons (.var 56 (.cons .str (.cons (Rd.rw 4) .nil))) (.cons (.row 58 false) .nil))))), fun a b => .p128148 a.2.2.2.1 a.2.2.2.2.2.1 b.1.1 b.1.2.1 b.1.2.2.1 b.1.2.2.2.1 b.2.1.1 b.2.1.2.1 b.2.1.2.2.1 b.2.2.1 b.2.2.2.1.1 b.2.2.2.2.1⟩], mkWr [] [(16019, [8])]⟩
def ud3 : wj6 → Option (((List ua1) × Unit) × Unit)
 | .start l0 t1_0 t1_1 t1_2 t1_3 =>
  if (seq t1_2 (⟨#[66, 111, 111, 108]⟩ : ByteArray)) = true then
   some ((([(⟨(⟨#[70, 97, 108, 115, 101]⟩ : ByteArray), []⟩ : ua1), (⟨(⟨#[84, 114, 117, 101]⟩ : ByteArray), []⟩ : ua1)] : List ua1), ()), ())
  else
   (up5 (.start l0 t1_2)) >>= fun t1 =>
   (idx l0 t1.1.1) >>= fun t2 =>
   ud3 (.p500 (0 : Int) t1_0 t1_1 t1_2 t1_3 t2.Name t2.Params t2.Constructors ([] : List ua1))
 | .p500 i7 C0 C1 C2 C3 D0 D1 D2 B2 =>
  if (decide (i7 < (List.length D2 : Int))) = true then
   (idx D2 i7) >>= fun t1 =>
   ud3 (.p128148 i7 (0 : Int) C0 C1 C2 C3 D0 D1 D2 B2 t1.Name ([] : List ua6))
  else
   some ((B2, ()), ())
 | .p128148 i7 k9 C0 C1 C2 C3 D0 D1 D2 B2 B3 B4 =>
  (idx D2 i7) >>= fun t1 =>
  if (decide (k9 < (List.length t1.Fields : Int))) = true then
   (idx D2 i7) >>= fun t2 =>
   (idx t2.Fields k9) >>= fun t3 =>
   (ug3 (.start t3.Type_.Kind t3.Type_.Value t3.Type_.Name t3.Type_.Parts D1 C3)) >>= fun t4 =>
   if (fits (List.length B4) (List.length ([(⟨t3.Name, (⟨t4.1.1.1, t4.1.1.2.1, t4.1.1.2.2.1, t4.1.1.2.2.2.1⟩ : ua3)⟩ : ua6)] : List ua6)) 72) = true then
    ud3 (.p128148 i7 (IntKind.wrap .i64 (k9 + (1 : Int))) C0 C1 C2 C3 D0 D1 D2 B2 B3 (B4 ++ ([(⟨t3.Name, (⟨t4.1.1.1, t4.1.1.2.1, t4.1.1.2.2.1, t4.1.1.2.2.2.1⟩ : ua3)⟩ : ua6)] : List ua6)))
   else none
  else
   if (fits (List.length B2) (List.length ([(⟨B3, B4⟩ : ua1)] : List ua1)) 40) = true then
    ud3 (.p500 (IntKind.wrap .i64 (i7 + (1 : Int))) C0 C1 C2 C3 D0 D1 D2 (B2 ++ ([(⟨B3, B4⟩ : ua1)] : List ua1)))
   else none
 partial_fixpoint
def uX4 : ub3 E := wb5.okc E_ok (run := ud3) (ud3.partial_correctness wb5.M fun run' ih => wb5.mk_ok E_ok [ww6, wc1] ih)
inductive wj7 where
 | start (l0 : (List ua2)) (t1_0 : Int) (t1_1 : Int) (t1_2 : ByteArray) (t1_3 : (List ua3)) (before2_0 : Int) (before2_1 : Int) (before2_2 : Int)
 | p31 (l0 : (List ua2)) (C0 : Int) (C1 : Int) (C2 : ByteArray) (C3 : (List ua3)) (D0 : Int) (D1 : Int) (D2 : Int) (G0 : Int) (G1 : Int) (G2 : Int)
 | p63 (l0 : (List ua2)) (C0 : Int) (C1 : Int) (C2 : ByteArray) (C3 : (List ua3)) (D0 : Int) (D1 : Int) (D2 : Int) (G0 : Int) (G1 : Int) (G2 : Int)
 | p127 (l0 : (List ua2)) (C0 : Int) (C1 : Int) (C2 : ByteArray) (C3 : (List ua3)) (D0 : Int) (D1 : Int) (D2 : Int) (G0 : Int) (G1 : Int) (G2 : Int)
 | p8180 (l0 : (List ua2)) (all8 : (List ua1)) (i9 : Int) (C0 : Int) (C1 : Int) (C2 : Int) (D0 : Int) (D1 : Int) (D2 : Int)
 | p523556 (l0 : (List ua2)) (all8 : (List ua1)) (i9 : Int) (k10 : Int) (C0 : Int) (C1 : Int) (C2 : Int) (D0 : Int) (D1 : Int) (D2 : Int)
def vV5 : Fb E wj7 ((Int × (Int × (Int × Unit))) × Unit) Unit := ⟨104, Tryz.f104, (.cons (.sl 103) (.cons (.agg (.cons (Rd.int .i64).w (.cons (Rd.int .i64).w (.cons Rd.str.w (.cons (.sl 25) .nil))))) (.cons (.agg (.cons (Rd.int .i64).w (.cons (Rd.int .i64).w (.cons (Rd.int .i64).w .nil)))) .nil))), .nil, fun a b => .start a.1 a.2.1.1 a.2.1.2.1 a.2.1.2.2.1 a.2.1.2.2.2.1 a.2.2.1.1 a.2.2.1.2.1 a.2.2.1.2.2.1, { rl := (.cons (.agg (.cons (.int .i64) (.cons (.int .i64) (.cons (.int .i64) .nil)))) .nil), rb := .nil, done := [0] }, [⟨31, { slots := [0, 4, 6, 7] }, (.cons (.sl 103 false) (.cons (.bp 0 0) (.cons (.bp 1 0) (.cons (.bp 2 0) .nil)))), (.cons (.var 25 (.cons (.int .i64) (.cons (.int .i64) (.cons .str (.cons (.sl 25 false) .nil))))) (.cons (.var 143 (.cons (.int .i64) (.cons (.int .i64) (.cons (.int .i64) .nil)))) (.cons (.var 143 (.cons (.int .i64) (.cons (.int .i64) (.cons (.int .i64) .nil)))) .nil))), fun a b => .p31 a.1 b.1.1 b.1.2.1 b.1.2.2.1 b.1.2.2.2.1 b.2.1.1 b.2.1.2.1 b.2.1.2.2.1 b.2.2.1.1 b.2.2.1.2.1 b.2.2.1.2.2.1⟩,
 ⟨63, { slots := [0, 4, 6, 7] }, (.cons (.sl 103 false) (.cons (.bp 0 0) (.cons (.bp 1 0) (.cons (.bp 2 0) .nil)))), (.cons (.var 25 (.cons (.int .i64) (.cons (.int .i64) (.cons .str (.cons (.sl 25 false) .nil))))) (.cons (.var 143 (.cons (.int .i64) (.cons (.int .i64) (.cons (.int .i64) .nil)))) (.cons (.var 143 (.cons (.int .i64) (.cons (.int .i64) (.cons (.int .i64) .nil)))) .nil))), fun a b => .p63 a.1 b.1.1 b.1.2.1 b.1.2.2.1 b.1.2.2.2.1 b.2.1.1 b.2.1.2.1 b.2.1.2.2.1 b.2.2.1.1 b.2.2.1.2.1 b.2.2.1.2.2.1⟩,
 ⟨127, { slots := [0, 4, 6, 7] }, (.cons (.sl 103 false) (.cons (.bp 0 0) (.cons (.bp 1 0) (.cons (.bp 2 0) .nil)))), (.cons (.var 25 (.cons (.int .i64) (.cons (.int .i64) (.cons .str (.cons (.sl 25 false) .nil))))) (.cons (.var 143 (.cons (.int .i64) (.cons (.int .i64) (.cons (.int .i64) .nil)))) (.cons (.var 143 (.cons (.int .i64) (.cons (.int .i64) (.cons (.int .i64) .nil)))) .nil))), fun a b => .p127 a.1 b.1.1 b.1.2.1 b.1.2.2.1 b.1.2.2.2.1 b.2.1.1 b.2.1.2.1 b.2.1.2.2.1 b.2.2.1.1 b.2.2.1.2.1 b.2.2.1.2.2.1⟩,
 ⟨8180, { slots := [0, 6, 7, 8, 9] }, (.cons (.sl 103 false) (.cons (.bp 0 0) (.cons (.bp 1 0) (.cons (.sl 56 false) (.cons (.int .i64) .nil))))), (.cons (.var 143 (.cons (.int .i64) (.cons (.int .i64) (.cons (.int .i64) .nil)))) (.cons (.var 143 (.cons (.int .i64) (.cons (.int .i64) (.cons (.int .i64) .nil)))) .nil)), fun a b => .p8180 a.1 a.2.2.2.1 a.2.2.2.2.1 b.1.1 b.1.2.1 b.1.2.2.1 b.2.1.1 b.2.1.2.1 b.2.1.2.2.1⟩,
 ⟨523556, { slots := [0, 6, 7, 8, 9, 10] }, (.cons (.sl 103 false) (.cons (.bp 0 0) (.cons (.bp 1 0) (.cons (.sl 56 false) (.cons (.int .i64) (.cons (.int .i64) .nil)))))), (.cons (.var 143 (.cons (.int .i64) (.cons (.int .i64) (.cons (.int .i64) .nil)))) (.cons (.var 143 (.cons (.int .i64) (.cons (.int .i64) (.cons (.int .i64) .nil)))) .nil)), fun a b => .p523556 a.1 a.2.2.2.1 a.2.2.2.2.1 a.2.2.2.2.2.1 b.1.1 b.1.2.1 b.1.2.2.1 b.2.1.1 b.2.1.2.1 b.2.1.2.2.1⟩], mkWr [] []⟩
def ub8 : wj7 → Option (((Int × (Int × (Int × Unit))) × Unit) × Unit)
 | .start l0 t1_0 t1_1 t1_2 t1_3 before2_0 before2_1 before2_2 =>
  (uR5 (.start t1_0 t1_1 t1_2 t1_3)) >>= fun t1 =>
  if (!t1.1.1) = true then
   some (((IntKind.wrap .i64 (before2_0 + (1 : Int)), ((8 : Int), (before2_2, ()))), ()), ())
  else
   if (t1_0 == (2 : Int)) = true then
    some (((IntKind.wrap .i64 (before2_0 + (1 : Int)), ((26 : Int), (before2_2, ()))), ()), ())
   else
    (um9 (.start t1_0 t1_1 t1_2 t1_3)) >>= fun t2 =>
    if t2.1.1 = true then
     (idx t1_3 (0 : Int)) >>= fun t3 =>
     if (t3.Kind != (2 : Int)) = true then
      some (((IntKind.wrap .i64 (before2_0 + (1 : Int)), ((26 : Int), (before2_2, ()))), ()), ())
     else
      ub8 (.p31 l0 t1_0 t1_1 t1_2 t1_3 (0 : Int) (0 : Int) (0 : Int) (IntKind.wrap .i64 (before2_0 + (1 : Int))) (0 : Int) before2_2)
    else
     ub8 (.p31 l0 t1_0 t1_1 t1_2 t1_3 (0 : Int) (0 : Int) (0 : Int) (IntKind.wrap .i64 (before2_0 + (1 : Int))) (0 : Int) before2_2)
 | .p31 l0 C0 C1 C2 C3 D0 D1 D2 G0 G1 G2 =>
  (um9 (.start C0 C1 C2 C3)) >>= fun t1 =>
  if t1.1.1 = true then
   (idx C3 (0 : Int)) >>= fun t2 =>
   (u22 (.start t2.Value)) >>= fun t3 =>
   if (!t3.1.1) = true then
    some (((G0, ((25 : Int), (G2, ()))), ()), ())
   else
    ub8 (.p63 l0 C0 C1 C2 C3 D0 D1 D2 G0 G1 G2)
  else
   ub8 (.p63 l0 C0 C1 C2 C3 D0 D1 D2 G0 G1 G2)
 | .p63 l0 C0 C1 C2 C3 D0 D1 D2 G0 G1 G2 =>
  if (decide (G0 > (200 : Int))) = true then
   some (((G0, ((8 : Int), (G2, ()))), ()), ())
  else
   if (decide (G2 ≥ (40 : Int))) = true then
    some (((G0, ((8 : Int), (G2, ()))), ()), ())
   else
    ub8 (.p127 l0 C0 C1 C2 C3 D0 D1 D2 G0 G1 G2)
 | .p127 l0 C0 C1 C2 C3 D0 D1 D2 G0 G1 G2 =>
  (um9 (.start C0 C1 C2 C3)) >>= fun t1 =>
  if t1.1.1 = true then
   some (((G0, (G1, (G2, ()))), ()), ())
  else
   (ud3 (.start l0 C0 C1 C2 C3)) >>= fun t2 =>
   ub8 (.p8180 l0 t2.1.1 (0 : Int) D0 D1 D2 G0 G1 G2)
 | .p8180 l0 all8 i9 C0 C1 C2 D0 D1 D2 =>
  if (decide (i9 < (List.length all8 : Int))) = true then
   ub8 (.p523556 l0 all8 i9 (0 : Int) C0 C1 C2 D0 D1 D2)
  else
   some (((D0, (D1, (D2, ()))), ()), ())
 | .p523556 l0 all8 i9 k10 C0 C1 C2 D0 D1 D2 =>
  (idx all8 i9) >>= fun t1 =>
  if (decide (k10 < (List.length t1.Fields : Int))) = true then
   (idx all8 i9) >>= fun t2 =>
   (idx t2.Fields k10) >>= fun t3 =>
   (ub8 (.start l0 t3.Type_.Kind t3.Type_.Value t3.Type_.Name t3.Type_.Parts D0 (0 : Int) (IntKind.wrap .i64 (D2 + (1 : Int))))) >>= fun t4 =>
   if (t4.1.1.2.1 != (0 : Int)) = true then
    some (((t4.1.1.1, (t4.1.1.2.1, (D2, ()))), ()), ())
   else
    ub8 (.p523556 l0 all8 i9 (IntKind.wrap .i64 (k10 + (1 : Int))) C0 C1 C2 t4.1.1.1 t4.1.1.2.1 D2)
  else
   ub8 (.p8180 l0 all8 (IntKind.wrap .i64 (i9 + (1 : Int))) C0 C1 C2 D0 D1 D2)
 partial_fixpoint
def ww7 : ub3 E := vV5.okc E_ok (run := ub8) (ub8.partial_correctness vV5.M fun run' ih => vV5.mk_ok E_ok [vV5.okc E_ok ih, uX4, wn1, u44, wc0] ih)
inductive wj8 where
 | start (n0 : Int)
def wb6 : Fb E wj8 (Int × Unit) Unit := ⟨18, Tryz.f18, (.cons (Rd.int .i64).w .nil), .nil, fun a b => .start a.1, { rl := (.cons (.int .i64) .nil), rb := .nil, done := [0] }, [], mkWr [] []⟩
def uo0 : wj8 → Option ((Int × Unit) × Unit)
 | .start n0 =>
  if (decide ((0 : Int) ≤ n0)) = true then
   some ((shl .i64 (1 : Int) n0, ()), ())
  else none
def vA1 : ub3 E := wb6.okc E_ok (run := uo0) (wb6.mk_ok E_ok [] wb6.none)
inductive wj9 where
 | start (count0 : Int)
 | p56 (count0 : Int) (n3 : Int)
def wb7 : Fb E wj9 (Int × Unit) Unit := ⟨46, Tryz.f46, (.cons (Rd.int .i64).w .nil), .nil, fun a b => .start a.1, { rl := (.cons (.int .i64) .nil), rb := .nil, done := [0] }, [⟨56, { slots := [0, 3] }, (.cons (.int .i64) (.cons (.int .i64) .nil)), .nil, fun a b => .p56 a.1 a.2.1⟩], mkWr [] []⟩
def uw2 : wj9 → Option ((Int × Unit) × Unit)
 | .start count0 =>
  uw2 (.p56 count0 (0 : Int))
 | .p56 count0 n3 =>
  (uo0 (.start n3)) >>= fun t1 =>
  if (decide (t1.1.1 < count0)) = true then
   uw2 (.p56 count0 (IntKind.wrap .i64 (n3 + (1 : Int))))
  else
   some ((n3, ()), ())
 partial_fixpoint
def ww8 : ub3 E := wb7.okc E_ok (run := uw2) (uw2.partial_correctness wb7.M fun run' ih => wb7.mk_ok E_ok [vA1] ih)
inductive wk0 where
 | start (l0 : (List ua2)) (c1_0 : ByteArray) (c1_1 : (List ua6))
 | p116 (l0 : (List ua2)) (n5 : Int) (i6 : Int) (C0 : ByteArray) (C1 : (List ua6))
def vz8 : Fb E wk0 (Int × Unit) Unit := ⟨87, Tryz.f87, (.cons (.sl 103) (.cons (.agg (.cons Rd.str.w (.cons (.sl 58) .nil))) .nil)), .nil, fun a b => .start a.1 a.2.1.1 a.2.1.2.1, { rl := (.cons (.int .i64) .nil), rb := .nil, done := [0] }, [⟨116, { slots := [0, 3, 5, 6] }, (.cons (.sl 103 false) (.cons (.bp 0 0) (.cons (.int .i64) (.cons (.int .i64) .nil)))), (.cons (.var 56 (.cons .str (.cons (.sl 58 false) .nil))) .nil), fun a b => .p116 a.1 a.2.2.1 a.2.2.2.1 b.1.1 b.1.2.1⟩], mkWr [] []⟩
inductive v09 where
 | start (l0 : (List ua2)) (t1_0 : Int) (t1_1 : Int) (t1_2 : ByteArray) (t1_3 : (List ua3))
def u54 : Fb E v09 (Int × Unit) Unit := ⟨13, Tryz.f13, (.cons (.sl 103) (.cons (.agg (.cons (Rd.int .i64).w (.cons (Rd.int .i64).w (.cons Rd.str.w (.cons (.sl 25) .nil))))) .nil)), .nil, fun a b => .start a.1 a.2.1.1 a.2.1.2.1 a.2.1.2.2.1 a.2.1.2.2.2.1, { rl := (.cons (.int .i64) .nil), rb := .nil, done := [0] }, [], mkWr [] []⟩
inductive v10 where
 | start (l0 : (List ua2)) (t1_0 : Int) (t1_1 : Int) (t1_2 : ByteArray) (t1_3 : (List ua3))
 | p116 (l0 : (List ua2)) (all5 : (List ua1)) (most6 : Int) (i7 : Int)
def u55 : Fb E v10 (Int × Unit) Unit := ⟨45, Tryz.f45, (.cons (.sl 103) (.cons (.agg (.cons (Rd.int .i64).w (.cons (Rd.int .i64).w (.cons Rd.str.w (.cons (.sl 25) .nil))))) .nil)), .nil, fun a b => .start a.1 a.2.1.1 a.2.1.2.1 a.2.1.2.2.1 a.2.1.2.2.2.1, { rl := (.cons (.int .i64) .nil), rb := .nil, done := [0] }, [⟨116, { slots := [0, 5, 6, 7] }, (.cons (.sl 103 false) (.cons (.sl 56 false) (.cons (.int .i64) (.cons (.int .i64) .nil)))), .nil, fun a b => .p116 a.1 a.2.1 a.2.2.1 a.2.2.2.1⟩], mkWr [] []⟩
mutual
def up6 : wk0 → Option ((Int × Unit) × Unit)
 | .start l0 c1_0 c1_1 =>
  up6 (.p116 l0 (0 : Int) (0 : Int) c1_0 c1_1)
 | .p116 l0 n5 i6 C0 C1 =>
  if (decide (i6 < (List.length C1 : Int))) = true then
   (idx C1 i6) >>= fun t1 =>
   (run_z100 (.start l0 t1.Type_.Kind t1.Type_.Value t1.Type_.Name t1.Type_.Parts)) >>= fun t2 =>
   up6 (.p116 l0 (IntKind.wrap .i64 (n5 + t2.1.1)) (IntKind.wrap .i64 (i6 + (1 : Int))) C0 C1)
  else
   some ((n5, ()), ())
 partial_fixpoint
def run_z100 : v09 → Option ((Int × Unit) × Unit)
 | .start l0 t1_0 t1_1 t1_2 t1_3 =>
  (um9 (.start t1_0 t1_1 t1_2 t1_3)) >>= fun t1 =>
  if t1.1.1 = true then
   (idx t1_3 (0 : Int)) >>= fun t2 =>
   some ((t2.Value, ()), ())
  else
   (ud3 (.start l0 t1_0 t1_1 t1_2 t1_3)) >>= fun t3 =>
   (uw2 (.start (List.length t3.1.1 : Int))) >>= fun t4 =>
   (run_z101 (.start l0 t1_0 t1_1 t1_2 t1_3)) >>= fun t5 =>
   some ((IntKind.wrap .i64 (t4.1.1 + t5.1.1), ()), ())
 partial_fixpoint
def run_z101 : v10 → Option ((Int × Unit) × Unit)
 | .start l0 t1_0 t1_1 t1_2 t1_3 =>
  (ud3 (.start l0 t1_0 t1_1 t1_2 t1_3)) >>= fun t1 =>
  run_z101 (.p116 l0 t1.1.1 (0 : Int) (0 : Int))
 | .p116 l0 all5 most6 i7 =>
  if (decide (i7 < (List.length all5 : Int))) = true then
   (idx all5 i7) >>= fun t1 =>
   (up6 (.start l0 t1.Name t1.Fields)) >>= fun t2 =>
   run_z101 (.p116 l0 all5 (if t2.1.1 > most6 then t2.1.1 else most6) (IntKind.wrap .i64 (i7 + (1 : Int))))
  else
   some ((most6, ()), ())
 partial_fixpoint
end
theorem uY8 : vz8.Ok up6 ∧ u54.Ok run_z100 ∧ u55.Ok run_z101 := by
  refine up6.mutual_partial_correctness vz8.M u54.M u55.M ?_ ?_ ?_
  · exact fun r_z99 r_z100 h_z99 h_z100 => vz8.mk_ok E_ok [u54.okc E_ok h_z100, vz8.okc E_ok h_z99] h_z99
  · exact fun r_z101 h_z101 => u54.mk_ok E_ok [u55.okc E_ok h_z101, ww8, uX4, u44] u54.none
  · exact fun r_z99 r_z101 h_z99 h_z101 => u55.mk_ok E_ok [u55.okc E_ok h_z101, vz8.okc E_ok h_z99, uX4] h_z101
def wn2 : ub3 E := vz8.okc E_ok uY8.1
def vg4 : ub3 E := u54.okc E_ok uY8.2.1
def vH0 : ub3 E := u55.okc E_ok uY8.2.2
inductive v11 where
 | start (l0 : (List ua2)) (t1_0 : Int) (t1_1 : Int) (t1_2 : ByteArray) (t1_3 : (List ua3))
def vF3 : Fb E v11 (Int × Unit) Unit := ⟨63, Tryz.f63, (.cons (.sl 103) (.cons (.agg (.cons (Rd.int .i64).w (.cons (Rd.int .i64).w (.cons Rd.str.w (.cons (.sl 25) .nil))))) .nil)), .nil, fun a b => .start a.1 a.2.1.1 a.2.1.2.1 a.2.1.2.2.1 a.2.1.2.2.2.1, { rl := (.cons (.int .i64) .nil), rb := .nil, done := [0] }, [], mkWr [] []⟩
def vd9 : v11 → Option ((Int × Unit) × Unit)
 | .start l0 t1_0 t1_1 t1_2 t1_3 =>
  (u20 (.start l0 ([]) t1_0 t1_1 t1_2 t1_3)) >>= fun t1 =>
  if (t1.1.1 != (0 : Int)) = true then
   some ((t1.1.1, ()), ())
  else
   (ub8 (.start l0 t1_0 t1_1 t1_2 t1_3 (0 : Int) (0 : Int) (0 : Int))) >>= fun t2 =>
   if (t2.1.1.2.1 != (0 : Int)) = true then
    some ((t2.1.1.2.1, ()), ())
   else
    (run_z100 (.start l0 t1_0 t1_1 t1_2 t1_3)) >>= fun t3 =>
    (u22 (.start t3.1.1)) >>= fun t4 =>
    if (!t4.1.1) = true then
     some (((25 : Int), ()), ())
    else
     some (((0 : Int), ()), ())
def wk4 : ub3 E := vF3.okc E_ok (run := vd9) (vF3.mk_ok E_ok [wn1, vg4, ww7, wn0] vF3.none)
inductive v12 where
 | start (l0 : (List ua2)) (t1_0 : Int) (t1_1 : Int) (t1_2 : ByteArray) (t1_3 : (List ua3))
def vF4 : Fb E v12 (Int × Unit) Unit := ⟨12, Tryz.f12, (.cons (.sl 103) (.cons (.agg (.cons (Rd.int .i64).w (.cons (Rd.int .i64).w (.cons Rd.str.w (.cons (.sl 25) .nil))))) .nil)), .nil, fun a b => .start a.1 a.2.1.1 a.2.1.2.1 a.2.1.2.2.1 a.2.1.2.2.2.1, { rl := (.cons (.int .i64) .nil), rb := .nil, done := [0] }, [], mkWr [] []⟩
def uV4 : v12 → Option ((Int × Unit) × Unit)
 | .start l0 t1_0 t1_1 t1_2 t1_3 =>
  (vs5 (.start l0)) >>= fun t1 =>
  if (t1.1.1 != (0 : Int)) = true then
   some ((t1.1.1, ()), ())
  else
   (vd9 (.start l0 t1_0 t1_1 t1_2 t1_3)) >>= fun t2 =>
   some ((t2.1.1, ()), ())
def wk5 : ub3 E := vF4.okc E_ok (run := uV4) (vF4.mk_ok E_ok [wk4, ww5] vF4.none)
inductive v13 where
 | start (v0_0 : ByteArray) (v0_1 : Int) (v0_2 : (List ua4)) (depth1 : Int) (count2 : Int)
 | p15 (depth1 : Int) (count2 : Int) (C0 : ByteArray) (C1 : Int) (C2 : (List ua4))
 | p244 (depth1 : Int) (count2 : Int) (i7 : Int) (C0 : ByteArray) (C1 : Int) (C2 : (List ua4))
 | p489 (depth1 : Int) (count2 : Int) (i7 : Int) (C0 : ByteArray) (C1 : Int) (C2 : (List ua4))
def vu1 : Fb E v13 (Int × Unit) Unit := ⟨72, Tryz.f72, (.cons (.agg (.cons Rd.str.w (.cons (Rd.int .i64).w (.cons (.sl 37) .nil)))) (.cons (Rd.int .i64).w (.cons (Rd.int .i64).w .nil))), .nil, fun a b => .start a.1.1 a.1.2.1 a.1.2.2.1 a.2.1 a.2.2.1, { rl := (.cons (.int .i64) .nil), rb := .nil, done := [0] }, [⟨15, { slots := [1, 2, 3] }, (.cons (.int .i64) (.cons (.int .i64) (.cons (.bp 0 0) .nil))), (.cons (.var 37 (.cons .str (.cons (.int .i64) (.cons (.sl 37 false) .nil)))) .nil), fun a b => .p15 a.1 a.2.1 b.1.1 b.1.2.1 b.1.2.2.1⟩,
 ⟨244, { slots := [1, 2, 3, 7] }, (.cons (.int .i64) (.cons (.int .i64) (.cons (.bp 0 0) (.cons (.int .i64) .nil)))), (.cons (.var 37 (.cons .str (.cons (.int .i64) (.cons (.sl 37 false) .nil)))) .nil), fun a b => .p244 a.1 a.2.1 a.2.2.2.1 b.1.1 b.1.2.1 b.1.2.2.1⟩,
 ⟨489, { slots := [1, 2, 3, 7] }, (.cons (.int .i64) (.cons (.int .i64) (.cons (.bp 0 0) (.cons (.int .i64) .nil)))), (.cons (.var 37 (.cons .str (.cons (.int .i64) (.cons (.sl 37 false) .nil)))) .nil), fun a b => .p489 a.1 a.2.1 a.2.2.2.1 b.1.1 b.1.2.1 b.1.2.2.1⟩], mkWr [] []⟩
def ug8 : v13 → Option ((Int × Unit) × Unit)
 | .start v0_0 v0_1 v0_2 depth1 count2 =>
  if (decide (depth1 > (40 : Int))) = true then
   some (((201 : Int), ()), ())
  else
   if (decide ((IntKind.wrap .i64 (count2 + (1 : Int))) > (200 : Int))) = true then
    some (((201 : Int), ()), ())
   else
    if (decide ((List.length v0_2 : Int) > (200 : Int))) = true then
     some (((201 : Int), ()), ())
    else
     ug8 (.p15 depth1 (IntKind.wrap .i64 (count2 + (1 : Int))) v0_0 v0_1 v0_2)
 | .p15 depth1 count2 C0 C1 C2 =>
  ug8 (.p244 depth1 count2 (0 : Int) C0 C1 C2)
 | .p244 depth1 count2 i7 C0 C1 C2 =>
  if (decide (i7 < (List.length C2 : Int))) = true then
   if (decide (count2 ≤ (200 : Int))) = true then
    ug8 (.p489 depth1 count2 i7 C0 C1 C2)
   else
    some ((count2, ()), ())
  else
   some ((count2, ()), ())
 | .p489 depth1 count2 i7 C0 C1 C2 =>
  (idx C2 i7) >>= fun t1 =>
  (ug8 (.start t1.Name t1.Number t1.Parts (IntKind.wrap .i64 (depth1 + (1 : Int))) count2)) >>= fun t2 =>
  ug8 (.p244 depth1 t2.1.1 (IntKind.wrap .i64 (i7 + (1 : Int))) C0 C1 C2)
 partial_fixpoint
def wk6 : ub3 E := vu1.okc E_ok (run := ug8) (ug8.partial_correctness vu1.M fun run' ih => vu1.mk_ok E_ok [vu1.okc E_ok ih] ih)
inductive v14 where
 | start (v0_0 : ByteArray) (v0_1 : Int) (v0_2 : (List ua4))
def vF5 : Fb E v14 (Bool × Unit) Unit := ⟨20, Tryz.f20, (.cons (.agg (.cons Rd.str.w (.cons (Rd.int .i64).w (.cons (.sl 37) .nil)))) .nil), .nil, fun a b => .start a.1.1 a.1.2.1 a.1.2.2.1, { rl := (.cons .bool .nil), rb := .nil, done := [0] }, [], mkWr [] []⟩
def uV5 : v14 → Option ((Bool × Unit) × Unit)
 | .start v0_0 v0_1 v0_2 =>
  (ug8 (.start v0_0 v0_1 v0_2 (1 : Int) (0 : Int))) >>= fun t1 =>
  some ((decide (t1.1.1 ≤ (200 : Int)), ()), ())
def wk7 : ub3 E := vF5.okc E_ok (run := uV5) (vF5.mk_ok E_ok [wk6] vF5.none)
inductive v16 where
 | start (all0 : (List ua1)) (name1 : ByteArray)
 | p52 (all0 : (List ua1)) (name1 : ByteArray) (i5 : Int)
def vF6 : Fb E v16 (Int × Unit) Unit := ⟨29, Tryz.f29, (.cons (.sl 56) (.cons Rd.str.w .nil)), .nil, fun a b => .start a.1 a.2.1, { rl := (.cons (.int .i64) .nil), rb := .nil, done := [0] }, [⟨52, { slots := [0, 1, 5] }, (.cons (.sl 56 false) (.cons .str (.cons (.int .i64) .nil))), .nil, fun a b => .p52 a.1 a.2.1 a.2.2.1⟩], mkWr [] []⟩
def uk9 : v16 → Option ((Int × Unit) × Unit)
 | .start all0 name1 =>
  uk9 (.p52 all0 name1 (0 : Int))
 | .p52 all0 name1 i5 =>
  if (decide (i5 < (List.length all0 : Int))) = true then
   (idx all0 i5) >>= fun t1 =>
   if (seq t1.Name name1) = true then
    some ((i5, ()), ())
   else
    uk9 (.p52 all0 name1 (IntKind.wrap .i64 (i5 + (1 : Int))))
  else
   some (((-1 : Int), ()), ())
 partial_fixpoint
def vH1 : ub3 E := vF6.okc E_ok (run := uk9) (uk9.partial_correctness vF6.M fun run' ih => vF6.mk_ok E_ok [] ih)
inductive v17 where
 | start (n0 : Int) (width1 : Int)
def vF7 : Fb E v17 (Bool × Unit) Unit := ⟨40, Tryz.f40, (.cons (Rd.int .i64).w (.cons (Rd.int .i64).w .nil)), .nil, fun a b => .start a.1 a.2.1, { rl := (.cons .bool .nil), rb := .nil, done := [0] }, [], mkWr [] []⟩
def uM9 : v17 → Option ((Bool × Unit) × Unit)
 | .start n0 width1 =>
  (uo0 (.start width1)) >>= fun t1 =>
  (uD0 (.start n0 (0 : Int) (IntKind.wrap .i64 (t1.1.1 - (1 : Int))))) >>= fun t2 =>
  some ((t2.1.1, ()), ())
def v30 : ub3 E := vF7.okc E_ok (run := uM9) (vF7.mk_ok E_ok [vW1, vA1] vF7.none)
inductive v18 where
 | start (l0 : (List ua2)) (t1_0 : Int) (t1_1 : Int) (t1_2 : ByteArray) (t1_3 : (List ua3)) (v2_0 : ByteArray) (v2_1 : Int) (v2_2 : (List ua4))
 | p53 (C0 : Int) (C1 : Int) (C2 : ByteArray) (C3 : (List ua3)) (D0 : ByteArray) (D1 : Int) (D2 : (List ua4))
 | p4084 (l0 : (List ua2)) (all7 : (List ua1)) (i8 : Int) (k9 : Int) (C0 : ByteArray) (C1 : Int) (C2 : (List ua4))
def vu2 : Fb E v18 (Int × Unit) Unit := ⟨85, Tryz.f85, (.cons (.sl 103) (.cons (.agg (.cons (Rd.int .i64).w (.cons (Rd.int .i64).w (.cons Rd.str.w (.cons (.sl 25) .nil))))) (.cons (.agg (.cons Rd.str.w (.cons (Rd.int .i64).w (.cons (.sl 37) .nil)))) .nil))), .nil, fun a b => .start a.1 a.2.1.1 a.2.1.2.1 a.2.1.2.2.1 a.2.1.2.2.2.1 a.2.2.1.1 a.2.2.1.2.1 a.2.2.1.2.2.1, { rl := (.cons (.int .i64) .nil), rb := .nil, done := [0] }, [⟨53, { slots := [4, 5] }, (.cons (.bp 0 0) (.cons (.bp 1 0) .nil)), (.cons (.var 25 (.cons (.int .i64) (.cons (.int .i64) (.cons .str (.cons (.sl 25 false) .nil))))) (.cons (.var 37 (.cons .str (.cons (.int .i64) (.cons (.sl 37 false) .nil)))) .nil)), fun a b => .p53 b.1.1 b.1.2.1 b.1.2.2.1 b.1.2.2.2.1 b.2.1.1 b.2.1.2.1 b.2.1.2.2.1⟩,
 ⟨4084, { slots := [0, 5, 7, 8, 9] }, (.cons (.sl 103 false) (.cons (.bp 0 0) (.cons (.sl 56 false) (.cons (.int .i64) (.cons (.int .i64) .nil))))), (.cons (.var 37 (.cons .str (.cons (.int .i64) (.cons (.sl 37 false) .nil)))) .nil), fun a b => .p4084 a.1 a.2.2.1 a.2.2.2.1 a.2.2.2.2.1 b.1.1 b.1.2.1 b.1.2.2.1⟩], mkWr [] []⟩
def ug9 : v18 → Option ((Int × Unit) × Unit)
 | .start l0 t1_0 t1_1 t1_2 t1_3 v2_0 v2_1 v2_2 =>
  (um9 (.start t1_0 t1_1 t1_2 t1_3)) >>= fun t1 =>
  if t1.1.1 = true then
   if (!(seq v2_0 (⟨#[]⟩ : ByteArray))) = true then
    some (((3 : Int), ()), ())
   else
    if (decide ((List.length v2_2 : Int) > (0 : Int))) = true then
     some (((3 : Int), ()), ())
    else
     ug9 (.p53 t1_0 t1_1 t1_2 t1_3 v2_0 v2_1 v2_2)
  else
   (ud3 (.start l0 t1_0 t1_1 t1_2 t1_3)) >>= fun t2 =>
   (uk9 (.start t2.1.1 v2_0)) >>= fun t3 =>
   if (decide (t3.1.1 < (0 : Int))) = true then
    some (((6 : Int), ()), ())
   else
    if (v2_1 != (0 : Int)) = true then
     some (((3 : Int), ()), ())
    else
     (idx t2.1.1 t3.1.1) >>= fun t4 =>
     if ((List.length v2_2 : Int) != (List.length t4.Fields : Int)) = true then
      some (((10 : Int), ()), ())
     else
      ug9 (.p4084 l0 t2.1.1 t3.1.1 (0 : Int) v2_0 v2_1 v2_2)
 | .p53 C0 C1 C2 C3 D0 D1 D2 =>
  (idx C3 (0 : Int)) >>= fun t1 =>
  (uM9 (.start D1 t1.Value)) >>= fun t2 =>
  if (!t2.1.1) = true then
   some (((2 : Int), ()), ())
  else
   some (((0 : Int), ()), ())
 | .p4084 l0 all7 i8 k9 C0 C1 C2 =>
  if (decide (k9 < (List.length C2 : Int))) = true then
   (idx all7 i8) >>= fun t1 =>
   (idx t1.Fields k9) >>= fun t2 =>
   (idx C2 k9) >>= fun t3 =>
   (ug9 (.start l0 t2.Type_.Kind t2.Type_.Value t2.Type_.Name t2.Type_.Parts t3.Name t3.Number t3.Parts)) >>= fun t4 =>
   if (t4.1.1 != (0 : Int)) = true then
    some ((t4.1.1, ()), ())
   else
    ug9 (.p4084 l0 all7 i8 (IntKind.wrap .i64 (k9 + (1 : Int))) C0 C1 C2)
  else
   some (((0 : Int), ()), ())
 partial_fixpoint
def wk8 : ub3 E := vu2.okc E_ok (run := ug9) (ug9.partial_correctness vu2.M fun run' ih => vu2.mk_ok E_ok [vu2.okc E_ok ih, v30, vH1, uX4, u44] ih)
inductive v19 where
 | start (l0 : (List ua2)) (t1_0 : Int) (t1_1 : Int) (t1_2 : ByteArray) (t1_3 : (List ua3)) (v2_0 : ByteArray) (v2_1 : Int) (v2_2 : (List ua4))
def vF8 : Fb E v19 (Int × Unit) Unit := ⟨35, Tryz.f35, (.cons (.sl 103) (.cons (.agg (.cons (Rd.int .i64).w (.cons (Rd.int .i64).w (.cons Rd.str.w (.cons (.sl 25) .nil))))) (.cons (.agg (.cons Rd.str.w (.cons (Rd.int .i64).w (.cons (.sl 37) .nil)))) .nil))), .nil, fun a b => .start a.1 a.2.1.1 a.2.1.2.1 a.2.1.2.2.1 a.2.1.2.2.2.1 a.2.2.1.1 a.2.2.1.2.1 a.2.2.1.2.2.1, { rl := (.cons (.int .i64) .nil), rb := .nil, done := [0] }, [], mkWr [] []⟩
def uV6 : v19 → Option ((Int × Unit) × Unit)
 | .start l0 t1_0 t1_1 t1_2 t1_3 v2_0 v2_1 v2_2 =>
  (uV5 (.start v2_0 v2_1 v2_2)) >>= fun t1 =>
  if (!t1.1.1) = true then
   some (((8 : Int), ()), ())
  else
   (ug9 (.start l0 t1_0 t1_1 t1_2 t1_3 v2_0 v2_1 v2_2)) >>= fun t2 =>
   some ((t2.1.1, ()), ())
def wk9 : ub3 E := vF8.okc E_ok (run := uV6) (vF8.mk_ok E_ok [wk8, wk7] vF8.none)
inductive v21 where
 | start (l0 : (List ua2)) (t1_0 : Int) (t1_1 : Int) (t1_2 : ByteArray) (t1_3 : (List ua3))
 | p244 (l0 : (List ua2)) (all5 : (List ua1)) (sum6 : Int) (i7 : Int)
def u56 : Fb E v21 (Int × Unit) Unit := ⟨38, Tryz.f38, (.cons (.sl 103) (.cons (.agg (.cons (Rd.int .i64).w (.cons (Rd.int .i64).w (.cons Rd.str.w (.cons (.sl 25) .nil))))) .nil)), .nil, fun a b => .start a.1 a.2.1.1 a.2.1.2.1 a.2.1.2.2.1 a.2.1.2.2.2.1, { rl := (.cons (.int .i64) .nil), rb := .nil, done := [0] }, [⟨244, { slots := [0, 5, 6, 7] }, (.cons (.sl 103 false) (.cons (.sl 56 false) (.cons (.int .i64) (.cons (.int .i64) .nil)))), .nil, fun a b => .p244 a.1 a.2.1 a.2.2.1 a.2.2.2.1⟩], mkWr [] []⟩
inductive v22 where
 | start (l0 : (List ua2)) (c1_0 : ByteArray) (c1_1 : (List ua6))
 | p116 (l0 : (List ua2)) (n5 : Int) (i6 : Int) (C0 : ByteArray) (C1 : (List ua6))
def u57 : Fb E v22 (Int × Unit) Unit := ⟨86, Tryz.f86, (.cons (.sl 103) (.cons (.agg (.cons Rd.str.w (.cons (.sl 58) .nil))) .nil)), .nil, fun a b => .start a.1 a.2.1.1 a.2.1.2.1, { rl := (.cons (.int .i64) .nil), rb := .nil, done := [0] }, [⟨116, { slots := [0, 3, 5, 6] }, (.cons (.sl 103 false) (.cons (.bp 0 0) (.cons (.int .i64) (.cons (.int .i64) .nil)))), (.cons (.var 56 (.cons .str (.cons (.sl 58 false) .nil))) .nil), fun a b => .p116 a.1 a.2.2.1 a.2.2.2.1 b.1.1 b.1.2.1⟩], mkWr [] []⟩
mutual
def ud9 : v21 → Option ((Int × Unit) × Unit)
 | .start l0 t1_0 t1_1 t1_2 t1_3 =>
  (um9 (.start t1_0 t1_1 t1_2 t1_3)) >>= fun t1 =>
  if t1.1.1 = true then
   (idx t1_3 (0 : Int)) >>= fun t2 =>
   (uo0 (.start t2.Value)) >>= fun t3 =>
   some ((t3.1.1, ()), ())
  else
   (ud3 (.start l0 t1_0 t1_1 t1_2 t1_3)) >>= fun t4 =>
   ud9 (.p244 l0 t4.1.1 (0 : Int) (0 : Int))
 | .p244 l0 all5 sum6 i7 =>
  if (decide (i7 < (List.length all5 : Int))) = true then
   (idx all5 i7) >>= fun t1 =>
   (run_z111 (.start l0 t1.Name t1.Fields)) >>= fun t2 =>
   ud9 (.p244 l0 all5 (IntKind.wrap .i64 (sum6 + t2.1.1)) (IntKind.wrap .i64 (i7 + (1 : Int))))
  else
   some ((sum6, ()), ())
 partial_fixpoint
def run_z111 : v22 → Option ((Int × Unit) × Unit)
 | .start l0 c1_0 c1_1 =>
  run_z111 (.p116 l0 (1 : Int) (0 : Int) c1_0 c1_1)
 | .p116 l0 n5 i6 C0 C1 =>
  if (decide (i6 < (List.length C1 : Int))) = true then
   (idx C1 i6) >>= fun t1 =>
   (ud9 (.start l0 t1.Type_.Kind t1.Type_.Value t1.Type_.Name t1.Type_.Parts)) >>= fun t2 =>
   run_z111 (.p116 l0 (IntKind.wrap .i64 (n5 * t2.1.1)) (IntKind.wrap .i64 (i6 + (1 : Int))) C0 C1)
  else
   some ((n5, ()), ())
 partial_fixpoint
end
theorem u66 : u56.Ok ud9 ∧ u57.Ok run_z111 := by
  refine ud9.mutual_partial_correctness u56.M u57.M ?_ ?_
  · exact fun r_z110 r_z111 h_z110 h_z111 => u56.mk_ok E_ok [u57.okc E_ok h_z111, u56.okc E_ok h_z110, uX4, vA1, u44] h_z110
  · exact fun r_z110 r_z111 h_z110 h_z111 => u57.mk_ok E_ok [u57.okc E_ok h_z111, u56.okc E_ok h_z110] h_z111
def vv2 : ub3 E := u56.okc E_ok u66.1
def vH2 : ub3 E := u57.okc E_ok u66.2
end
end Go.Proofs.YtaennkkcnhfglaaGreatDoor.Ev.F
