/- A part of the proof. -/
import Derived.Test.YtaennkkcnhfglaaGreatDoorSEvShelf
import Derived.Test.YtaennkkcnhfglaaGreatDoorSEvAny
import Derived.Test.YtaennkkcnhfglaaGreatDoorSShelf
import Derived.Test.YtaennkkcnhfglaaGreatDoorSEvLib
import Derived.Test.YtaennkkcnhfglaaGreatDoorSEvFun
import Derived.Test.YtaennkkcnhfglaaGreatDoorSEvRun
import Derived.Test.YtaennkkcnhfglaaGreatDoorProg
set_option linter.unusedVariables false
set_option maxRecDepth 100000
namespace Go.Proofs.YtaennkkcnhfglaaGreatDoor.Ev.F
open Go.Proofs Go.Proofs.YtaennkkcnhfglaaGreatDoor.Ev
noncomputable section
structure ua0 where
 Name : ByteArray
 Number : Int
 Parts : (List ua0)
structure ua3 where
 Kind : Int
 Value : Int
 Name : ByteArray
 Parts : (List ua3)
structure ua6 where
 Name : ByteArray
 Type_ : ua3
structure ua2 where
 Name : ByteArray
 Fields : (List ua6)
structure ua5 where
 Name : ByteArray
 Params : (List ByteArray)
 Constructors : (List ua2)
structure ul6 where
 list : (List ua5)
 params : (List ByteArray)
mutual
structure ua4 where
 bits : Int
 constructors : (Option (List data_variant))
structure data_variant where
 name : ByteArray
 fields : (List ua6)
 parts : (Option (List (Option ua4)))
end
def S : Nat → Type
 | 5 => Int
 | 9 => ByteArray
 | 25 => ua3
 | 29 => Int
 | 37 => ua0
 | 56 => ua2
 | 58 => ua6
 | 103 => ua5
 | 105 => (Option ua4)
 | 107 => ul6
 | 125 => data_variant
 | 128 => ua4
 | 168 => Bool
 | 188 => Int
 | _ => Unit
def pk (e : Nat) : Pk S (S e) :=
 if h : e = 5 then h ▸ ((Pk.int .u8) : Pk S Int) else
 if h : e = 9 then h ▸ (Pk.str : Pk S ByteArray) else
 if h : e = 25 then h ▸ ((Pk.iso (Pk.cons (Pk.int .i64) (Pk.cons (Pk.int .i64) (Pk.cons Pk.str (Pk.cons (Pk.sl 25) Pk.unit)))) (fun a => (⟨a.1, a.2.1, a.2.2.1, a.2.2.2.1⟩ : ua3)) (fun x => (x.Kind, x.Value, x.Name, x.Parts, ())) (fun x => by cases x; rfl)) : Pk S ua3) else
 if h : e = 29 then h ▸ ((Pk.int .i64) : Pk S Int) else
 if h : e = 37 then h ▸ ((Pk.iso (Pk.cons Pk.str (Pk.cons (Pk.int .i64) (Pk.cons (Pk.sl 37) Pk.unit))) (fun a => (⟨a.1, a.2.1, a.2.2.1⟩ : ua0)) (fun x => (x.Name, x.Number, x.Parts, ())) (fun x => by cases x; rfl)) : Pk S ua0) else
 if h : e = 56 then h ▸ ((Pk.iso (Pk.cons Pk.str (Pk.cons (Pk.sl 58) Pk.unit)) (fun a => (⟨a.1, a.2.1⟩ : ua2)) (fun x => (x.Name, x.Fields, ())) (fun _ => rfl)) : Pk S ua2) else
 if h : e = 58 then h ▸ ((Pk.iso (Pk.cons Pk.str (Pk.cons (Pk.iso (Pk.cons (Pk.int .i64) (Pk.cons (Pk.int .i64) (Pk.cons Pk.str (Pk.cons (Pk.sl 25) Pk.unit)))) (fun a => (⟨a.1, a.2.1, a.2.2.1, a.2.2.2.1⟩ : ua3)) (fun x => (x.Kind, x.Value, x.Name, x.Parts, ())) (fun x => by cases x; rfl)) Pk.unit)) (fun a => (⟨a.1, a.2.1⟩ : ua6)) (fun x => (x.Name, x.Type_, ())) (fun _ => rfl)) : Pk S ua6) else
 if h : e = 103 then h ▸ ((Pk.iso (Pk.cons Pk.str (Pk.cons (Pk.sl 9) (Pk.cons (Pk.sl 56) Pk.unit))) (fun a => (⟨a.1, a.2.1, a.2.2.1⟩ : ua5)) (fun x => (x.Name, x.Params, x.Constructors, ())) (fun _ => rfl)) : Pk S ua5) else
 if h : e = 105 then h ▸ ((Pk.op 128) : Pk S (Option ua4)) else
 if h : e = 107 then h ▸ ((Pk.iso (Pk.cons (Pk.sl 103) (Pk.cons (Pk.sl 9) Pk.unit)) (fun a => (⟨a.1, a.2.1⟩ : ul6)) (fun x => (x.list, x.params, ())) (fun _ => rfl)) : Pk S ul6) else
 if h : e = 125 then h ▸ ((Pk.iso (Pk.cons Pk.str (Pk.cons (Pk.sl 58) (Pk.cons (Pk.so 105) Pk.unit))) (fun a => (⟨a.1, a.2.1, a.2.2.1⟩ : data_variant)) (fun x => (x.name, x.fields, x.parts, ())) (fun x => by cases x; rfl)) : Pk S data_variant) else
 if h : e = 128 then h ▸ ((Pk.iso (Pk.cons (Pk.int .i64) (Pk.cons (Pk.so 125) Pk.unit)) (fun a => (⟨a.1, a.2.1⟩ : ua4)) (fun x => (x.bits, x.constructors, ())) (fun x => by cases x; rfl)) : Pk S ua4) else
 if h : e = 168 then h ▸ (Pk.err : Pk S Bool) else
 if h : e = 188 then h ▸ ((Pk.int .u64) : Pk S Int) else
 Pk.no (Tryz.prog.cellsOf e)
theorem vY4 (e : Nat) : (pk e).len = Tryz.prog.cellsOf e := by
  unfold pk
  by_cases h : e = 5
  · subst h; kernel_rfl
  refine (congrArg Pk.len (dif_neg h)).trans ?_; clear h
  by_cases h : e = 9
  · subst h; kernel_rfl
  refine (congrArg Pk.len (dif_neg h)).trans ?_; clear h
  by_cases h : e = 25
  · subst h; kernel_rfl
  refine (congrArg Pk.len (dif_neg h)).trans ?_; clear h
  by_cases h : e = 29
  · subst h; kernel_rfl
  refine (congrArg Pk.len (dif_neg h)).trans ?_; clear h
  by_cases h : e = 37
  · subst h; kernel_rfl
  refine (congrArg Pk.len (dif_neg h)).trans ?_; clear h
  by_cases h : e = 56
  · subst h; kernel_rfl
  refine (congrArg Pk.len (dif_neg h)).trans ?_; clear h
  by_cases h : e = 58
  · subst h; kernel_rfl
  refine (congrArg Pk.len (dif_neg h)).trans ?_; clear h
  by_cases h : e = 103
  · subst h; kernel_rfl
  refine (congrArg Pk.len (dif_neg h)).trans ?_; clear h
  by_cases h : e = 105
  · subst h; kernel_rfl
  refine (congrArg Pk.len (dif_neg h)).trans ?_; clear h
  by_cases h : e = 107
  · subst h; kernel_rfl
  refine (congrArg Pk.len (dif_neg h)).trans ?_; clear h
  by_cases h : e = 125
  · subst h; kernel_rfl
  refine (congrArg Pk.len (dif_neg h)).trans ?_; clear h
  by_cases h : e = 128
  · subst h; kernel_rfl
  refine (congrArg Pk.len (dif_neg h)).trans ?_; clear h
  by_cases h : e = 168
  · subst h; kernel_rfl
  refine (congrArg Pk.len (dif_neg h)).trans ?_; clear h
  by_cases h : e = 188
  · subst h; kernel_rfl
  refine (congrArg Pk.len (dif_neg h)).trans ?_; clear h
  exact Pk.no_len _
def plain : Nat → Bool := fun t => mem t []
def byt (e : Nat) (s : ByteArray) : Option (List (S e)) := if h : e = 5 then some (h ▸ (ua7 s : List Int)) else none
theorem vV4 : ∀ e s l, byt e s = some l → Tryz.prog.underlying e = some (.int .u8) ∧ Tryz.prog.cellsOf e = 1 ∧ l.length = s.size ∧ ∀ i x, l[i]? = some x → (pk e).wt x = [.v (.int .u8 ((s.data.toList.getD i 0).toNat : Int))] := by
  intro e s l h
  unfold byt at h
  split at h
  · rename_i he; subst he; obtain rfl := Option.some.inj h
    exact ⟨by kernel_rfl, by kernel_rfl, (uO6 s).1, fun i x hx => by rw [(uO6 s).2 i x hx]; kernel_rfl⟩
  cases h
def vX6 : List Int := [1, 10, 100, 1000, 10000, 100000, 1000000, 10000000, 100000000, 1000000000, 10000000000, 100000000000, 1000000000000, 10000000000000, 100000000000000, 1000000000000000, 10000000000000000, 100000000000000000, 1000000000000000000, 10000000000000000000]
def vX7 : List Int := [0, 1, 28, 2, 29, 14, 24, 3, 30, 22, 20, 15, 25, 17, 4, 8, 31, 27, 13, 23, 21, 19, 16, 7, 26, 12, 18, 6, 11, 5, 10, 9]
def vX8 : List Int := [0, 1, 56, 2, 57, 49, 28, 3, 61, 58, 42, 50, 38, 29, 17, 4, 62, 47, 59, 36, 45, 43, 51, 22, 53, 39, 33, 30, 24, 18, 12, 5, 63, 55, 48, 27, 60, 41, 37, 16, 46, 35, 44, 21, 52, 32, 23, 11, 54, 26, 40, 15, 34, 20, 31, 10, 25, 14, 19, 9, 13, 8, 7, 6]
def vq9 : Nat → Option (AV S)
 | 3 => some (.ar 188 vX6)
 | 4 => some (.ar 5 vX7)
 | 5 => some (.ar 5 vX8)
 | 1 => some (.el 168 true 0)
 | 2 => some (.el 168 true 0)
 | _ => none
theorem vD3 : ∀ g x, vq9 g = some x → idsV x = [] := by
 intro g x h
 unfold vq9 at h
 split at h <;> first | (cases h; done) | (obtain rfl := Option.some.inj h; rfl)
def nums : (e : Nat) → List (S e) → Option (List Int)
 | 5, l => some l
 | _, _ => none
theorem vQ5 : ∀ e l xs, nums e l = some xs → Tryz.prog.underlying e = some (.int .u8) ∧ xs.length = l.length ∧ ∀ (i : Nat) x n, l[i]? = some x → xs[i]? = some n → (pk e).wt x = [.v (.int .u8 n)] := by
  intro e l xs h
  unfold nums at h
  split at h
  · obtain rfl := Option.some.inj h
    exact ⟨by kernel_rfl, rfl, fun i x n hx hn => by obtain rfl : x = n := Option.some.inj (hx.symm.trans hn); kernel_rfl⟩
  · cases h
def held : Nat → Option (String × Array Value)
 | 3 => some ("internal/strconv.uint64pow10", (Go.Lib.pow10Tab.map fun z => Value.int .u64 z).toArray)
 | _ => none
def ro : Nat → Bool := fun f => mem f [113, 123, 161, 178]
def rc : Nat → List Nat
 | _ => []
def fr : Nat → Bool := fun f => mem f []
def flat : Nat → Bool := fun e => mem e []
def lk : Nat → Nat → Option Nat
 | 125, 2 => some 105
 | 128, 1 => some 125
 | _, _ => none
theorem v84 : ∀ e j e1, lk e j = some e1 → ∀ y l, ((pk e).rd (((pk e).wt y).set j (.sl e1 l false))).isSome = true := by
  intro e j e1 h
  unfold lk at h
  split at h
  · obtain rfl := Option.some.inj h; exact fun y l => by kernel_rfl
  · obtain rfl := Option.some.inj h; exact fun y l => by kernel_rfl
  · cases h
noncomputable abbrev E : Env := vY0 Tryz.prog S pk vq9 plain byt nums held ro rc fr flat lk
theorem E_ok : E.Ok := vD9 vY4 (by kernel_rfl) vD3 (fun t h => by cases h) vV4 vQ5 (fun e h => by cases h) v84
def uk2 : Con E := uJ8 E 127
theorem ux7 : uk2.Ok := vj4 (ρ := Tryz.laysC172_ren) Tryz.laysC172 rfl rfl rfl (g15 := 1) (g16 := 2) (fn := Tryz.f127) (by kernel_rfl) (by kernel_rfl) (by kernel_rfl) (e := 168) (x15 := (true : Bool)) (x16 := (true : Bool)) rfl rfl (by kernel_rfl) (by kernel_rfl)
def uP3 : ua8 E := ⟨uk2, ux7⟩
def uk3 : Con E := vp9 E 128
theorem ux8 : uk3.Ok := vj5 (fn := Tryz.f128) (by kernel_rfl) (by kernel_rfl) (by kernel_rfl) (g := 3) rfl (fun n w h0 h1 ht => Tryz.strconv_Itoa n h0 h1 w ht)
def ux1 : ua8 E := ⟨uk3, ux8⟩
def uk4 : Con E := vq0 E 136 9 uq5
theorem ux9 : uk4.Ok := vj6 (fn := Tryz.f136) (by kernel_rfl) (by kernel_rfl) (by kernel_rfl) (fun x => x) (fun _ => rfl) (by kernel_rfl) (fun p u => congrArg (fun l => uq5 (l, p.2) u) (List.map_id' p.1).symm) (fun a c sep w => Tryz.strings_Join_none a c sep w) (fun bk o c xs sep w => Tryz.strings_Join bk o c xs sep w)
def uP4 : ua8 E := ⟨uk4, ux9⟩
def ub5 : Con E := un1 E 189
theorem uf4 : ub5.Ok := ut6 189 (fn := Tryz.f189) (by kernel_rfl) (by kernel_rfl) (by kernel_rfl) (by kernel_rfl) (by kernel_rfl)
def ui2 : ua8 E := ⟨ub5, uf4⟩
def base : Spec E.S := (Con.add ub5 (Con.add uk4 (Con.add uk3 (Con.add uk2 vs1))))
inductive P_z0 where
 | start
def b_z0 : Fb E P_z0 ((List ua5) × Unit) Unit := ⟨57, Tryz.f57, .nil, .nil, fun a b => .start, { rl := (.cons (.sl 103 true) .nil), rb := .nil, done := [0] }, [], mkWr [] []⟩
def uM8 : P_z0 → Option (((List ua5) × Unit) × Unit)
 | .start =>
  some ((([(⟨(⟨#[77, 97, 121, 98, 101]⟩ : ByteArray), ([(⟨#[97]⟩ : ByteArray)] : List ByteArray), ([(⟨(⟨#[78, 111, 110, 101]⟩ : ByteArray), []⟩ : ua2), (⟨(⟨#[83, 111, 109, 101]⟩ : ByteArray), ([(⟨(⟨#[118, 97, 108, 117, 101]⟩ : ByteArray), (⟨(0 : Int), (0 : Int), (⟨#[97]⟩ : ByteArray), []⟩ : ua3)⟩ : ua6)] : List ua6)⟩ : ua2)] : List ua2)⟩ : ua5), (⟨(⟨#[80, 97, 105, 114]⟩ : ByteArray), ([(⟨#[97]⟩ : ByteArray), (⟨#[98]⟩ : ByteArray)] : List ByteArray), ([(⟨(⟨#[80, 97, 105, 114]⟩ : ByteArray), ([(⟨(⟨#[108, 101, 102, 116]⟩ : ByteArray), (⟨(0 : Int), (0 : Int), (⟨#[97]⟩ : ByteArray), []⟩ : ua3)⟩ : ua6), (⟨(⟨#[114, 105, 103, 104, 116]⟩ : ByteArray), (⟨(0 : Int), (0 : Int), (⟨#[98]⟩ : ByteArray), []⟩ : ua3)⟩ : ua6)] : List ua6)⟩ : ua2)] : List ua2)⟩ : ua5), (⟨(⟨#[67, 111, 108, 111, 114]⟩ : ByteArray), [], ([(⟨(⟨#[82, 101, 100]⟩ : ByteArray), []⟩ : ua2), (⟨(⟨#[71, 114, 101, 101, 110]⟩ : ByteArray), []⟩ : ua2), (⟨(⟨#[66, 108, 117, 101]⟩ : ByteArray), []⟩ : ua2)] : List ua2)⟩ : ua5)] : List ua5), ()), ())
def c_z0 : ua8 E := b_z0.okc E_ok (run := uM8) (b_z0.mk_ok E_ok [] b_z0.none)
inductive P_z1 where
 | start (n0 : Int)
def b_z1 : Fb E P_z1 ((Int × (Int × (ByteArray × (Unit × Unit)))) × Unit) Unit := ⟨101, Tryz.f101, (.cons (Rd.int .i64).w .nil), .nil, fun a b => .start a.1, { rl := (.cons (.agg (.cons (.int .i64) (.cons (.int .i64) (.cons .str (.cons Rd.nl .nil))))) .nil), rb := .nil, done := [0] }, [], mkWr [] []⟩
def vg6 : P_z1 → Option (((Int × (Int × (ByteArray × (Unit × Unit)))) × Unit) × Unit)
 | .start n0 =>
  some ((((2 : Int), (n0, ((⟨#[]⟩ : ByteArray), ((), ())))), ()), ())
def c_z1 : ua8 E := b_z1.okc E_ok (run := vg6) (b_z1.mk_ok E_ok [] b_z1.none)
inductive P_z2 where
 | start (name0 : ByteArray) (parts1 : (List ua3))
def b_z2 : Fb E P_z2 ((Int × (Int × (ByteArray × ((List ua3) × Unit)))) × Unit) Unit := ⟨58, Tryz.f58, (.cons Rd.str.w (.cons (.sl 25) .nil)), .nil, fun a b => .start a.1 a.2.1, { rl := (.cons (.agg (.cons (.int .i64) (.cons (.int .i64) (.cons .str (.cons (.sl 25 false) .nil))))) .nil), rb := .nil, done := [0] }, [], mkWr [] []⟩
def uu6 : P_z2 → Option (((Int × (Int × (ByteArray × ((List ua3) × Unit)))) × Unit) × Unit)
 | .start name0 parts1 =>
  some ((((1 : Int), ((0 : Int), (name0, (parts1, ())))), ()), ())
def c_z2 : ua8 E := b_z2.okc E_ok (run := uu6) (b_z2.mk_ok E_ok [] b_z2.none)
inductive P_z3 where
 | start (n0 : Int)
def b_z3 : Fb E P_z3 ((Int × (Int × (ByteArray × ((List ua3) × Unit)))) × Unit) Unit := ⟨59, Tryz.f59, (.cons (Rd.int .i64).w .nil), .nil, fun a b => .start a.1, { rl := (.cons (.agg (.cons (.int .i64) (.cons (.int .i64) (.cons .str (.cons (.sl 25 false) .nil))))) .nil), rb := .nil, done := [0] }, [], mkWr [] []⟩
def uS2 : P_z3 → Option (((Int × (Int × (ByteArray × ((List ua3) × Unit)))) × Unit) × Unit)
 | .start n0 =>
  (vg6 (.start n0)) >>= fun t1 =>
  (uu6 (.start (⟨#[66, 105, 116]⟩ : ByteArray) ([(⟨t1.1.1.1, t1.1.1.2.1, t1.1.1.2.2.1, []⟩ : ua3)] : List ua3))) >>= fun t2 =>
  some (((t2.1.1.1, (t2.1.1.2.1, (t2.1.1.2.2.1, (t2.1.1.2.2.2.1, ())))), ()), ())
def c_z3 : ua8 E := b_z3.okc E_ok (run := uS2) (b_z3.mk_ok E_ok [c_z2, c_z1] b_z3.none)
inductive P_z4 where
 | start (s0 : (List ByteArray))
def b_z4 : Fb E P_z4 ((List ByteArray) × Unit) Unit := ⟨78, Tryz.f78, (.cons (.sl 9) .nil), .nil, fun a b => .start a.1, { rl := (.cons (.sl 9 true) .nil), rb := .nil, done := [0] }, [], mkWr [] []⟩
def u37 : P_z4 → Option (((List ByteArray) × Unit) × Unit)
 | .start s0 =>
  (bif decide ((List.length s0 : Int) = (List.length s0 : Int)) then span (List.length s0) (0 : Int) (List.length s0 : Int) else none) >>= fun t1 =>
  some ((cut s0 t1, ()), ())
def c_z4 : ua8 E := b_z4.okc E_ok (run := u37) (b_z4.mk_ok E_ok [] b_z4.none)
inductive P_z5 where
 | start (n0 : Int) (lo1 : Int) (hi2 : Int)
def b_z5 : Fb E P_z5 (Bool × Unit) Unit := ⟨70, Tryz.f70, (.cons (Rd.int .i64).w (.cons (Rd.int .i64).w (.cons (Rd.int .i64).w .nil))), .nil, fun a b => .start a.1 a.2.1 a.2.2.1, { rl := (.cons .bool .nil), rb := .nil, done := [0] }, [], mkWr [] []⟩
def ug5 : P_z5 → Option ((Bool × Unit) × Unit)
 | .start n0 lo1 hi2 =>
  if (decide (lo1 ≤ n0)) = true then
   some ((decide (n0 ≤ hi2), ()), ())
  else
   some ((false, ()), ())
def c_z5 : ua8 E := b_z5.okc E_ok (run := ug5) (b_z5.mk_ok E_ok [] b_z5.none)
inductive P_z6 where
 | start (s0 : ByteArray)
 | p52 (s0 : ByteArray) (s7 : (List Int)) (s8 : Int) (s9 : Int)
 | p3379 (s0 : ByteArray) (i3 : Int) (c4 : Int) (letter5 : Bool) (s7 : (List Int)) (s8 : Int) (s9 : Int)
def b_z6 : Fb E P_z6 (Bool × Unit) Unit := ⟨129, Tryz.f129, (.cons Rd.str.w .nil), .nil, fun a b => .start a.1, { rl := (.cons .bool .nil), rb := .nil, done := [0] }, [⟨52, { slots := [0, 7, 8, 9] }, (.cons .str (.cons (.sl 5 false) (.cons (.int .i64) (.cons (.int .i64) .nil)))), .nil, fun a b => .p52 a.1 a.2.1 a.2.2.1 a.2.2.2.1⟩,
 ⟨3379, { slots := [0, 3, 4, 5, 7, 8, 9] }, (.cons .str (.cons (.int .i64) (.cons (.int .u8) (.cons .bool (.cons (.sl 5 false) (.cons (.int .i64) (.cons (.int .i64) .nil))))))), .nil, fun a b => .p3379 a.1 a.2.1 a.2.2.1 a.2.2.2.1 a.2.2.2.2.1 a.2.2.2.2.2.1 a.2.2.2.2.2.2.1⟩], mkWr [] []⟩
def ud9 : P_z6 → Option ((Bool × Unit) × Unit)
 | .start s0 =>
  ud9 (.p52 s0 (ua7 s0) (List.length (ua7 s0) : Int) (0 : Int))
 | .p52 s0 s7 s8 s9 =>
  if (decide (s9 < s8)) = true then
   (idx s7 s9) >>= fun t1 =>
   if (decide ((97 : Int) ≤ t1)) = true then
    if (decide (t1 ≤ (122 : Int))) = true then
     ud9 (.p3379 s0 s9 t1 true s7 s8 s9)
    else
     if (decide ((65 : Int) ≤ t1)) = true then
      ud9 (.p3379 s0 s9 t1 (decide (t1 ≤ (90 : Int))) s7 s8 s9)
     else
      ud9 (.p3379 s0 s9 t1 false s7 s8 s9)
   else
    if (decide ((65 : Int) ≤ t1)) = true then
     ud9 (.p3379 s0 s9 t1 (decide (t1 ≤ (90 : Int))) s7 s8 s9)
    else
     ud9 (.p3379 s0 s9 t1 false s7 s8 s9)
  else
   (ug5 (.start (s0.size : Int) (1 : Int) (16 : Int))) >>= fun t2 =>
   some ((t2.1.1, ()), ())
 | .p3379 s0 i3 c4 letter5 s7 s8 s9 =>
  if (!letter5) = true then
   if (i3 == (0 : Int)) = true then
    some ((false, ()), ())
   else
    if (c4 != (95 : Int)) = true then
     if (decide (c4 < (48 : Int))) = true then
      some ((false, ()), ())
     else
      if (decide (c4 > (57 : Int))) = true then
       some ((false, ()), ())
      else
       ud9 (.p52 s0 s7 s8 (IntKind.wrap .i64 (s9 + (1 : Int))))
    else
     ud9 (.p52 s0 s7 s8 (IntKind.wrap .i64 (s9 + (1 : Int))))
  else
   ud9 (.p52 s0 s7 s8 (IntKind.wrap .i64 (s9 + (1 : Int))))
 partial_fixpoint
def c_z6 : ua8 E := b_z6.okc E_ok (run := ud9) (ud9.partial_correctness b_z6.M fun run' ih => b_z6.mk_ok E_ok [c_z5] ih)
inductive P_z7 where
 | start (is0 : Bool) (e1 : Int)
def b_z7 : Fb E P_z7 (Int × Unit) Unit := ⟨111, Tryz.f111, (.cons Rd.bool.w (.cons (Rd.int .i64).w .nil)), .nil, fun a b => .start a.1 a.2.1, { rl := (.cons (.int .i64) .nil), rb := .nil, done := [0] }, [], mkWr [] []⟩
def ub3 : P_z7 → Option ((Int × Unit) × Unit)
 | .start is0 e1 =>
  if is0 = true then
   some (((0 : Int), ()), ())
  else
   some ((e1, ()), ())
def c_z7 : ua8 E := b_z7.okc E_ok (run := ub3) (b_z7.mk_ok E_ok [] b_z7.none)
inductive P_z8 where
 | start (s0 : (List ByteArray)) (v1 : ByteArray)
 | p52 (s0 : (List ByteArray)) (v1 : ByteArray) (s7 : Int) (s8 : Int)
def b_z8 : Fb E P_z8 (Int × Unit) Unit := ⟨163, Tryz.f163, (.cons (.sl 9) (.cons Rd.str.w .nil)), .nil, fun a b => .start a.1 a.2.1, { rl := (.cons (.int .i64) .nil), rb := .nil, done := [0] }, [⟨52, { slots := [0, 1, 7, 8] }, (.cons (.sl 9 false) (.cons .str (.cons (.int .i64) (.cons (.int .i64) .nil)))), .nil, fun a b => .p52 a.1 a.2.1 a.2.2.1 a.2.2.2.1⟩], mkWr [] []⟩
def uG7 : P_z8 → Option ((Int × Unit) × Unit)
 | .start s0 v1 =>
  uG7 (.p52 s0 v1 (List.length s0 : Int) (0 : Int))
 | .p52 s0 v1 s7 s8 =>
  if (decide (s8 < s7)) = true then
   (idx s0 s8) >>= fun t1 =>
   if (seq v1 t1) = true then
    some ((s8, ()), ())
   else
    uG7 (.p52 s0 v1 s7 (IntKind.wrap .i64 (s8 + (1 : Int))))
  else
   some (((-1 : Int), ()), ())
 partial_fixpoint
def c_z8 : ua8 E := b_z8.okc E_ok (run := uG7) (uG7.partial_correctness b_z8.M fun run' ih => b_z8.mk_ok E_ok [] ih)
inductive P_z9 where
 | start (s0 : (List ByteArray)) (v1 : ByteArray)
def b_z9 : Fb E P_z9 (Bool × Unit) Unit := ⟨144, Tryz.f144, (.cons (.sl 9) (.cons Rd.str.w .nil)), .nil, fun a b => .start a.1 a.2.1, { rl := (.cons .bool .nil), rb := .nil, done := [0] }, [], mkWr [] []⟩
def u38 : P_z9 → Option ((Bool × Unit) × Unit)
 | .start s0 v1 =>
  (uG7 (.start s0 v1)) >>= fun t1 =>
  some ((decide (t1.1.1 ≥ (0 : Int)), ()), ())
def c_z9 : ua8 E := b_z9.okc E_ok (run := u38) (b_z9.mk_ok E_ok [c_z8] b_z9.none)
inductive vu8 where
 | start (l0 : (List Int))
 | p52 (s5 : (List Int)) (s6 : Int) (s7 : Int)
def vI5 : Fb E vu8 (Int × Unit) Unit := ⟨69, Tryz.f69, (.cons (.sl 29) .nil), .nil, fun a b => .start a.1, { rl := (.cons (.int .i64) .nil), rb := .nil, done := [0] }, [⟨52, { slots := [5, 6, 7] }, (.cons (.sl 29 false) (.cons (.int .i64) (.cons (.int .i64) .nil))), .nil, fun a b => .p52 a.1 a.2.1 a.2.2.1⟩], mkWr [] []⟩
def ub9 : vu8 → Option ((Int × Unit) × Unit)
 | .start l0 =>
  ub9 (.p52 l0 (List.length l0 : Int) (0 : Int))
 | .p52 s5 s6 s7 =>
  if (decide (s7 < s6)) = true then
   (idx s5 s7) >>= fun t1 =>
   if (t1 != (0 : Int)) = true then
    some ((t1, ()), ())
   else
    ub9 (.p52 s5 s6 (IntKind.wrap .i64 (s7 + (1 : Int))))
  else
   some (((0 : Int), ()), ())
 partial_fixpoint
def u59 : ua8 E := vI5.okc E_ok (run := ub9) (ub9.partial_correctness vI5.M fun run' ih => vI5.mk_ok E_ok [] ih)
inductive vu9 where
 | start (name0 : ByteArray) (known1 : (List ByteArray))
def vI6 : Fb E vu9 (Int × Unit) Unit := ⟨110, Tryz.f110, (.cons Rd.str.w (.cons (.sl 9) .nil)), .nil, fun a b => .start a.1 a.2.1, { rl := (.cons (.int .i64) .nil), rb := .nil, done := [0] }, [], mkWr [] []⟩
def uy9 : vu9 → Option ((Int × Unit) × Unit)
 | .start name0 known1 =>
  (ud9 (.start name0)) >>= fun t1 =>
  (ub3 (.start t1.1.1 (4 : Int))) >>= fun t2 =>
  (u38 (.start known1 name0)) >>= fun t3 =>
  (ub3 (.start (!t3.1.1) (5 : Int))) >>= fun t4 =>
  (ub9 (.start ([t2.1.1, t4.1.1] : List Int))) >>= fun t5 =>
  some ((t5.1.1, ()), ())
def vC1 : ua8 E := vI6.okc E_ok (run := uy9) (vI6.mk_ok E_ok [u59, c_z9, c_z7, c_z6] vI6.none)
inductive vv0 where
 | start (i0 : Int) (p1 : ByteArray) (s2 : ua5)
def vI7 : Fb E vv0 (Int × Unit) Unit := ⟨113, Tryz.f113, (.cons (Rd.int .i64).w (.cons Rd.str.w (.cons (Rd.el 103 0).w .nil))), .nil, fun a b => .start a.1 a.2.1 a.2.2.1, { rl := (.cons (.int .i64) .nil), rb := .nil, done := [0] }, [], mkWr [] []⟩
def uX1 : vv0 → Option ((Int × Unit) × Unit)
 | .start i0 p1 s2 =>
  (span (List.length s2.Params) (0 : Int) i0) >>= fun t1 =>
  (uy9 (.start p1 (cut s2.Params t1))) >>= fun t2 =>
  some ((t2.1.1, ()), ())
def v07 : ua8 E := vI7.okc E_ok (run := uX1) (vI7.mk_ok E_ok [vC1] vI7.none)
inductive vv1 where
 | start (l0 : (List ByteArray)) (C0 : ByteArray) (C1 : (List ByteArray)) (C2 : (List ua2))
 | p52 (s9 : (List ByteArray)) (s10 : Int) (s11 : Int) (C0 : ByteArray) (C1 : (List ByteArray)) (C2 : (List ua2))
def vI8 : Fb E vv1 (Int × (Int × Unit)) ((ByteArray × ((List ByteArray) × ((List ua2) × Unit))) × Unit) := ⟨112, Tryz.f112, (.cons (.sl 9) (.cons (Rd.fn 113 (.cons (.bp 0 0) .nil)).w .nil)), (.cons (.var 103 (.cons .str (.cons (.sl 9 false) (.cons (.sl 56 false) .nil)))) .nil), fun a b => .start a.1 b.1.1 b.1.2.1 b.1.2.2.1, { rl := (.cons (.int .i64) (.cons (.int .i64) .nil)), rb := (.cons (.var 103 (.cons .str (.cons (.sl 9 false) (.cons (.sl 56 false) .nil)))) .nil), keep := 1, done := [0, 1] }, [⟨52, { slots := [1, 9, 10, 11], keep := 1 }, (.cons (Rd.fn 113 (.cons (.bp 0 0) .nil)) (.cons (.sl 9 false) (.cons (.int .i64) (.cons (.int .i64) .nil)))), (.cons (.var 103 (.cons .str (.cons (.sl 9 false) (.cons (.sl 56 false) .nil)))) .nil), fun a b => .p52 a.2.1 a.2.2.1 a.2.2.2.1 b.1.1 b.1.2.1 b.1.2.2.1⟩], mkWr [] []⟩
def uz0 : vv1 → Option ((Int × (Int × Unit)) × ((ByteArray × ((List ByteArray) × ((List ua2) × Unit))) × Unit))
 | .start l0 C0 C1 C2 =>
  uz0 (.p52 l0 (List.length l0 : Int) (0 : Int) C0 C1 C2)
 | .p52 s9 s10 s11 C0 C1 C2 =>
  if (decide (s11 < s10)) = true then
   (idx s9 s11) >>= fun t1 =>
   (uX1 (.start s11 t1 (⟨C0, C1, C2⟩ : ua5))) >>= fun t2 =>
   if (t2.1.1 != (0 : Int)) = true then
    some ((s11, (t2.1.1, ())), ((C0, (C1, (C2, ()))), ()))
   else
    uz0 (.p52 s9 s10 (IntKind.wrap .i64 (s11 + (1 : Int))) C0 C1 C2)
  else
   some (((0 : Int), ((0 : Int), ())), ((C0, (C1, (C2, ()))), ()))
 partial_fixpoint
def v08 : ua8 E := vI8.okc E_ok (run := uz0) (uz0.partial_correctness vI8.M fun run' ih => vI8.mk_ok E_ok [v07] ih)
inductive vv2 where
 | start (t0_0 : Int) (t0_1 : Int) (t0_2 : ByteArray) (t0_3 : (List ua3))
def vI9 : Fb E vv2 ((List ua3) × Unit) Unit := ⟨140, Tryz.f140, (.cons (.agg (.cons (Rd.int .i64).w (.cons (Rd.int .i64).w (.cons Rd.str.w (.cons (.sl 25) .nil))))) .nil), .nil, fun a b => .start a.1.1 a.1.2.1 a.1.2.2.1 a.1.2.2.2.1, { rl := (.cons (.sl 25 false) .nil), rb := .nil, done := [0] }, [], mkWr [] []⟩
def uX2 : vv2 → Option (((List ua3) × Unit) × Unit)
 | .start t0_0 t0_1 t0_2 t0_3 =>
  some ((t0_3, ()), ())
def v09 : ua8 E := vI9.okc E_ok (run := uX2) (vI9.mk_ok E_ok [] vI9.none)
inductive vv3 where
 | start (x0_0 : Int) (x0_1 : Int) (x0_2 : ByteArray) (x0_3 : (List ua3)) (depth1 : Int) (B0 : Int)
 | p15 (depth1 : Int) (B0 : Int) (H0 : Int) (H1 : Int) (H2 : ByteArray) (H3 : (List ua3))
 | p244 (depth1 : Int) (s20 : (List ua3)) (s21 : Int) (s22 : Int) (B0 : Int)
def vA4 : Fb E vv3 (Bool × Unit) ((Int × Unit) × ((Unit × Unit) × (((Unit × (Unit × (Unit × Unit))) × Unit) × Unit))) := ⟨158, Tryz.f158, (.cons (.agg (.cons (Rd.int .i64).w (.cons (Rd.int .i64).w (.cons Rd.str.w (.cons (.sl 25) .nil))))) (.cons (Rd.int .i64).w (.cons (Rd.bp 0 0).w (.cons (Rd.bp 1 0).w (.cons (Rd.bp 2 0).w .nil))))), (.cons (.var 3 (.cons (.int .i64) .nil)) (.cons (.var 182 (.cons (Rd.fn 140 .nil) .nil)) (.cons (.var 200 (.cons (Rd.fn 158 (.cons (.bp 0 0) (.cons (.bp 1 0) (.cons (.bp 2 0) .nil)))) .nil)) .nil))), fun a b => .start a.1.1 a.1.2.1 a.1.2.2.1 a.1.2.2.2.1 a.2.1 b.1.1, { rl := (.cons .bool .nil), rb := (.cons (.var 3 (.cons (.int .i64) .nil)) (.cons (.var 182 (.cons (Rd.fn 140 .nil) .nil)) (.cons (.var 200 (.cons (Rd.fn 158 (.cons (.bp 0 0) (.cons (.bp 1 0) (.cons (.bp 2 0) .nil)))) .nil)) .nil))), keep := 3, done := [0] }, [⟨15, { slots := [1, 3, 4, 5], keep := 3 }, (.cons (.int .i64) (.cons (.bp 1 0) (.cons (.bp 2 0) (.cons (.bp 3 0) .nil)))), (.cons (.var 3 (.cons (.int .i64) .nil)) (.cons (.var 182 (.cons (Rd.fn 140 .nil) .nil)) (.cons (.var 200 (.cons (Rd.fn 158 (.cons (.bp 0 0) (.cons (.bp 1 0) (.cons (.bp 2 0) .nil)))) .nil)) (.cons (.var 25 (.cons (.int .i64) (.cons (.int .i64) (.cons .str (.cons (.sl 25 false) .nil))))) .nil)))), fun a b => .p15 a.1 b.1.1 b.2.2.2.1.1 b.2.2.2.1.2.1 b.2.2.2.1.2.2.1 b.2.2.2.1.2.2.2.1⟩,
 ⟨244, { slots := [1, 4, 20, 21, 22], keep := 3 }, (.cons (.int .i64) (.cons (.bp 2 0) (.cons (.sl 25 false) (.cons (.int .i64) (.cons (.int .i64) .nil))))), (.cons (.var 3 (.cons (.int .i64) .nil)) (.cons (.var 182 (.cons (Rd.fn 140 .nil) .nil)) (.cons (.var 200 (.cons (Rd.fn 158 (.cons (.bp 0 0) (.cons (.bp 1 0) (.cons (.bp 2 0) .nil)))) .nil)) .nil))), fun a b => .p244 a.1 a.2.2.1 a.2.2.2.1 a.2.2.2.2.1 b.1.1⟩], mkWr [] []⟩
def ur8 : vv3 → Option ((Bool × Unit) × ((Int × Unit) × ((Unit × Unit) × (((Unit × (Unit × (Unit × Unit))) × Unit) × Unit))))
 | .start x0_0 x0_1 x0_2 x0_3 depth1 B0 =>
  if (decide ((IntKind.wrap .i64 (B0 + (1 : Int))) > (200 : Int))) = true then
   some ((false, ()), ((IntKind.wrap .i64 (B0 + (1 : Int)), ()), (((), ()), ((((), ((), ((), ()))), ()), ()))))
  else
   if (decide (depth1 > (40 : Int))) = true then
    some ((false, ()), ((IntKind.wrap .i64 (B0 + (1 : Int)), ()), (((), ()), ((((), ((), ((), ()))), ()), ()))))
   else
    ur8 (.p15 depth1 (IntKind.wrap .i64 (B0 + (1 : Int))) x0_0 x0_1 x0_2 x0_3)
 | .p15 depth1 B0 H0 H1 H2 H3 =>
  (uX2 (.start H0 H1 H2 H3)) >>= fun t1 =>
  ur8 (.p244 depth1 t1.1.1 (List.length t1.1.1 : Int) (0 : Int) B0)
 | .p244 depth1 s20 s21 s22 B0 =>
  if (decide (s22 < s21)) = true then
   (idx s20 s22) >>= fun t1 =>
   (ur8 (.start t1.Kind t1.Value t1.Name t1.Parts (IntKind.wrap .i64 (depth1 + (1 : Int))) B0)) >>= fun t2 =>
   if (!t2.1.1) = true then
    some ((false, ()), ((t2.2.1.1, ()), (((), ()), ((((), ((), ((), ()))), ()), ()))))
   else
    ur8 (.p244 depth1 s20 s21 (IntKind.wrap .i64 (s22 + (1 : Int))) t2.2.1.1)
  else
   some ((true, ()), ((B0, ()), (((), ()), ((((), ((), ((), ()))), ()), ()))))
 partial_fixpoint
def v10 : ua8 E := vA4.okc E_ok (run := ur8) (ur8.partial_correctness vA4.M fun run' ih => vA4.mk_ok E_ok [vA4.okc E_ok ih, v09] ih)
inductive vv4 where
 | start (root0_0 : Int) (root0_1 : Int) (root0_2 : ByteArray) (root0_3 : (List ua3))
def vJ0 : Fb E vv4 (Int × Unit) Unit := ⟨139, Tryz.f139, (.cons (.agg (.cons (Rd.int .i64).w (.cons (Rd.int .i64).w (.cons Rd.str.w (.cons (.sl 25) .nil))))) (.cons (Rd.fn 140 .nil).w .nil)), .nil, fun a b => .start a.1.1 a.1.2.1 a.1.2.2.1 a.1.2.2.2.1, { rl := (.cons (.int .i64) .nil), rb := .nil, done := [0] }, [], mkWr [] []⟩
def uM9 : vv4 → Option ((Int × Unit) × Unit)
 | .start root0_0 root0_1 root0_2 root0_3 =>
  (ur8 (.start root0_0 root0_1 root0_2 root0_3 (1 : Int) (0 : Int))) >>= fun t1 =>
  (ub3 (.start t1.1.1 (8 : Int))) >>= fun t2 =>
  some ((t2.1.1, ()), ())
def vV5 : ua8 E := vJ0.okc E_ok (run := uM9) (vJ0.mk_ok E_ok [c_z7, v10] vJ0.none)
inductive vv5 where
 | start (d0_0 : ByteArray) (d0_1 : (List ByteArray)) (d0_2 : (List ua2)) (s1 : ByteArray)
def vJ1 : Fb E vv5 (Bool × Unit) Unit := ⟨178, Tryz.f178, (.cons (.agg (.cons Rd.str.w (.cons (.sl 9) (.cons (.sl 56) .nil)))) (.cons (Rd.el 9 0).w .nil)), .nil, fun a b => .start a.1.1 a.1.2.1 a.1.2.2.1 a.2.1, { rl := (.cons .bool .nil), rb := .nil, done := [0] }, [], mkWr [] []⟩
def uX3 : vv5 → Option ((Bool × Unit) × Unit)
 | .start d0_0 d0_1 d0_2 s1 =>
  some ((seq d0_0 s1, ()), ())
def v11 : ua8 E := vJ1.okc E_ok (run := uX3) (vJ1.mk_ok E_ok [] vJ1.none)
inductive vv6 where
 | start (s0 : (List ua5)) (B0 : ByteArray)
 | p52 (s0 : (List ua5)) (s7 : Int) (s8 : Int) (B0 : ByteArray)
def vJ2 : Fb E vv6 (Int × Unit) ((ByteArray × Unit) × Unit) := ⟨177, Tryz.f177, (.cons (.sl 103) (.cons (Rd.fn 178 (.cons (.bp 0 0) .nil)).w .nil)), (.cons (.var 9 (.cons .str .nil)) .nil), fun a b => .start a.1 b.1.1, { rl := (.cons (.int .i64) .nil), rb := (.cons (.var 9 (.cons .str .nil)) .nil), keep := 1, done := [0] }, [⟨52, { slots := [0, 1, 7, 8], keep := 1 }, (.cons (.sl 103 false) (.cons (Rd.fn 178 (.cons (.bp 0 0) .nil)) (.cons (.int .i64) (.cons (.int .i64) .nil)))), (.cons (.var 9 (.cons .str .nil)) .nil), fun a b => .p52 a.1 a.2.2.1 a.2.2.2.1 b.1.1⟩], mkWr [] []⟩
def uz1 : vv6 → Option ((Int × Unit) × ((ByteArray × Unit) × Unit))
 | .start s0 B0 =>
  uz1 (.p52 s0 (List.length s0 : Int) (0 : Int) B0)
 | .p52 s0 s7 s8 B0 =>
  if (decide (s8 < s7)) = true then
   (idx s0 s8) >>= fun t1 =>
   (uX3 (.start t1.Name t1.Params t1.Constructors B0)) >>= fun t2 =>
   if t2.1.1 = true then
    some ((s8, ()), ((B0, ()), ()))
   else
    uz1 (.p52 s0 s7 (IntKind.wrap .i64 (s8 + (1 : Int))) B0)
  else
   some (((-1 : Int), ()), ((B0, ()), ()))
 partial_fixpoint
def v12 : ua8 E := vJ2.okc E_ok (run := uz1) (uz1.partial_correctness vJ2.M fun run' ih => vJ2.mk_ok E_ok [v11] ih)
inductive vv7 where
 | start (s0_0 : (List ua5)) (s0_1 : (List ByteArray)) (name1 : ByteArray)
def vJ3 : Fb E vv7 ((ByteArray × ((List ByteArray) × ((List ua2) × Unit))) × (Bool × Unit)) Unit := ⟨159, Tryz.f159, (.cons (.agg (.cons (.sl 103) (.cons (.sl 9) .nil))) (.cons Rd.str.w .nil)), .nil, fun a b => .start a.1.1 a.1.2.1 a.2.1, { rl := (.cons (.agg (.cons .str (.cons (.sl 9 false) (.cons (.sl 56 false) .nil)))) (.cons .bool .nil)), rb := .nil, deep := [(false, 0, 1, 9), (false, 0, 2, 56)], done := [0, 1] }, [], mkWr [] []⟩
def uN0 : vv7 → Option (((ByteArray × ((List ByteArray) × ((List ua2) × Unit))) × (Bool × Unit)) × Unit)
 | .start s0_0 s0_1 name1 =>
  (uz1 (.start s0_0 name1)) >>= fun t1 =>
  if (decide (t1.1.1 < (0 : Int))) = true then
   some ((((⟨#[]⟩ : ByteArray), ([], ([], ()))), (false, ())), ())
  else
   (idx s0_0 t1.1.1) >>= fun t2 =>
   some (((t2.Name, (t2.Params, (t2.Constructors, ()))), (true, ())), ())
def vV6 : ua8 E := vJ3.okc E_ok (run := uN0) (vJ3.mk_ok E_ok [v12] vJ3.none)
inductive vv8 where
 | start (s0 : Int) (x1_0 : Int) (x1_1 : Int) (x1_2 : ByteArray) (x1_3 : (List ua3)) (s2 : ul6)
def vo5 : Fb E vv8 (Int × Unit) Unit := ⟨161, Tryz.f161, (.cons (Rd.int .i64).w (.cons (.agg (.cons (Rd.int .i64).w (.cons (Rd.int .i64).w (.cons Rd.str.w (.cons (.sl 25) .nil))))) (.cons (Rd.el 107 0).w .nil))), .nil, fun a b => .start a.1 a.2.1.1 a.2.1.2.1 a.2.1.2.2.1 a.2.1.2.2.2.1 a.2.2.1, { rl := (.cons (.int .i64) .nil), rb := .nil, done := [0] }, [], mkWr [] []⟩
inductive vn0 where
 | start (s0_0 : (List ua5)) (s0_1 : (List ByteArray)) (t1_0 : Int) (t1_1 : Int) (t1_2 : ByteArray) (t1_3 : (List ua3))
 | p15 (count5 : Int) (C0 : (List ua5)) (C1 : (List ByteArray)) (D0 : Int) (D1 : Int) (D2 : ByteArray) (D3 : (List ua3))
 | p63 (C0 : (List ua5)) (C1 : (List ByteArray)) (D0 : Int) (D1 : Int) (D2 : ByteArray) (D3 : (List ua3))
def vi2 : Fb E vn0 (Int × Unit) Unit := ⟨141, Tryz.f141, (.cons (.agg (.cons (.sl 103) (.cons (.sl 9) .nil))) (.cons (.agg (.cons (Rd.int .i64).w (.cons (Rd.int .i64).w (.cons Rd.str.w (.cons (.sl 25) .nil))))) .nil)), .nil, fun a b => .start a.1.1 a.1.2.1 a.2.1.1 a.2.1.2.1 a.2.1.2.2.1 a.2.1.2.2.2.1, { rl := (.cons (.int .i64) .nil), rb := .nil, done := [0] }, [⟨15, { slots := [2, 3, 5] }, (.cons (.bp 0 0) (.cons (.bp 1 0) (.cons (.int .i64) .nil))), (.cons (.var 107 (.cons (.sl 103 false) (.cons (.sl 9 false) .nil))) (.cons (.var 25 (.cons (.int .i64) (.cons (.int .i64) (.cons .str (.cons (.sl 25 false) .nil))))) .nil)), fun a b => .p15 a.2.2.1 b.1.1 b.1.2.1 b.2.1.1 b.2.1.2.1 b.2.1.2.2.1 b.2.1.2.2.2.1⟩,
 ⟨63, { slots := [2, 3] }, (.cons (.bp 0 0) (.cons (.bp 1 0) .nil)), (.cons (.var 107 (.cons (.sl 103 false) (.cons (.sl 9 false) .nil))) (.cons (.var 25 (.cons (.int .i64) (.cons (.int .i64) (.cons .str (.cons (.sl 25 false) .nil))))) .nil)), fun a b => .p63 b.1.1 b.1.2.1 b.2.1.1 b.2.1.2.1 b.2.1.2.2.1 b.2.1.2.2.2.1⟩], mkWr [] []⟩
inductive vv9 where
 | start (l0 : (List ua3)) (C0 : (List ua5)) (C1 : (List ByteArray))
 | p52 (s9 : (List ua3)) (s10 : Int) (s11 : Int) (C0 : (List ua5)) (C1 : (List ByteArray))
def vo6 : Fb E vv9 (Int × (Int × Unit)) (((List ua5) × ((List ByteArray) × Unit)) × Unit) := ⟨160, Tryz.f160, (.cons (.sl 25) (.cons (Rd.fn 161 (.cons (.bp 0 0) .nil)).w .nil)), (.cons (.var 107 (.cons (.sl 103 false) (.cons (.sl 9 false) .nil))) .nil), fun a b => .start a.1 b.1.1 b.1.2.1, { rl := (.cons (.int .i64) (.cons (.int .i64) .nil)), rb := (.cons (.var 107 (.cons (.sl 103 false) (.cons (.sl 9 false) .nil))) .nil), keep := 1, done := [0, 1] }, [⟨52, { slots := [1, 9, 10, 11], keep := 1 }, (.cons (Rd.fn 161 (.cons (.bp 0 0) .nil)) (.cons (.sl 25 false) (.cons (.int .i64) (.cons (.int .i64) .nil)))), (.cons (.var 107 (.cons (.sl 103 false) (.cons (.sl 9 false) .nil))) .nil), fun a b => .p52 a.2.1 a.2.2.1 a.2.2.2.1 b.1.1 b.1.2.1⟩], mkWr [] []⟩
mutual
def uN1 : vv8 → Option ((Int × Unit) × Unit)
 | .start s0 x1_0 x1_1 x1_2 x1_3 s2 =>
  (run_z21 (.start s2.list s2.params x1_0 x1_1 x1_2 x1_3)) >>= fun t1 =>
  some ((t1.1.1, ()), ())
 partial_fixpoint
def run_z21 : vn0 → Option ((Int × Unit) × Unit)
 | .start s0_0 s0_1 t1_0 t1_1 t1_2 t1_3 =>
  if (t1_0 == (0 : Int)) = true then
   (u38 (.start s0_1 t1_2)) >>= fun t1 =>
   if (!t1.1.1) = true then
    some (((6 : Int), ()), ())
   else
    run_z21 (.p15 (0 : Int) s0_0 s0_1 t1_0 t1_1 t1_2 t1_3)
  else
   if (t1_0 == (1 : Int)) = true then
    (uN0 (.start s0_0 s0_1 t1_2)) >>= fun t2 =>
    if t2.1.2.1 = true then
     run_z21 (.p15 (List.length t2.1.1.2.1 : Int) s0_0 s0_1 t1_0 t1_1 t1_2 t1_3)
    else
     if (seq t1_2 (⟨#[66, 105, 116]⟩ : ByteArray)) = true then
      run_z21 (.p15 (1 : Int) s0_0 s0_1 t1_0 t1_1 t1_2 t1_3)
     else
      if (!(seq t1_2 (⟨#[66, 111, 111, 108]⟩ : ByteArray))) = true then
       some (((6 : Int), ()), ())
      else
       run_z21 (.p15 (0 : Int) s0_0 s0_1 t1_0 t1_1 t1_2 t1_3)
   else
    if (t1_0 == (2 : Int)) = true then
     run_z21 (.p15 (0 : Int) s0_0 s0_1 t1_0 t1_1 t1_2 t1_3)
    else
     some (((15 : Int), ()), ())
 | .p15 count5 C0 C1 D0 D1 D2 D3 =>
  if ((List.length D3 : Int) != count5) = true then
   some (((10 : Int), ()), ())
  else
   if (D0 == (2 : Int)) = true then
    (ug5 (.start D1 (0 : Int) (1000000000 : Int))) >>= fun t1 =>
    if (!t1.1.1) = true then
     some (((2 : Int), ()), ())
    else
     run_z21 (.p63 C0 C1 D0 D1 D2 D3)
   else
    run_z21 (.p63 C0 C1 D0 D1 D2 D3)
 | .p63 C0 C1 D0 D1 D2 D3 =>
  (run_z22 (.start D3 C0 C1)) >>= fun t1 =>
  some ((t1.1.2.1, ()), ())
 partial_fixpoint
def run_z22 : vv9 → Option ((Int × (Int × Unit)) × (((List ua5) × ((List ByteArray) × Unit)) × Unit))
 | .start l0 C0 C1 =>
  run_z22 (.p52 l0 (List.length l0 : Int) (0 : Int) C0 C1)
 | .p52 s9 s10 s11 C0 C1 =>
  if (decide (s11 < s10)) = true then
   (idx s9 s11) >>= fun t1 =>
   (uN1 (.start s11 t1.Kind t1.Value t1.Name t1.Parts (⟨C0, C1⟩ : ul6))) >>= fun t2 =>
   if (t2.1.1 != (0 : Int)) = true then
    some ((s11, (t2.1.1, ())), ((C0, (C1, ())), ()))
   else
    run_z22 (.p52 s9 s10 (IntKind.wrap .i64 (s11 + (1 : Int))) C0 C1)
  else
   some (((0 : Int), ((0 : Int), ())), ((C0, (C1, ())), ()))
 partial_fixpoint
end
theorem vr0 : vo5.Ok uN1 ∧ vi2.Ok run_z21 ∧ vo6.Ok run_z22 := by
  refine uN1.mutual_partial_correctness vo5.M vi2.M vo6.M ?_ ?_ ?_
  · exact fun r_z21 h_z21 => vo5.mk_ok E_ok [vi2.okc E_ok h_z21] vo5.none
  · exact fun r_z21 r_z22 h_z21 h_z22 => vi2.mk_ok E_ok [vo6.okc E_ok h_z22, vi2.okc E_ok h_z21, c_z5, vV6, c_z9] h_z21
  · exact fun r_z20 r_z22 h_z20 h_z22 => vo6.mk_ok E_ok [vo6.okc E_ok h_z22, vo5.okc E_ok h_z20] h_z22
def v13 : ua8 E := vi2.okc E_ok vr0.2.1
inductive vw0 where
 | start (s0_0 : (List ua5)) (s0_1 : (List ByteArray)) (t1_0 : Int) (t1_1 : Int) (t1_2 : ByteArray) (t1_3 : (List ua3))
def vJ4 : Fb E vw0 (Int × Unit) Unit := ⟨105, Tryz.f105, (.cons (.agg (.cons (.sl 103) (.cons (.sl 9) .nil))) (.cons (.agg (.cons (Rd.int .i64).w (.cons (Rd.int .i64).w (.cons Rd.str.w (.cons (.sl 25) .nil))))) .nil)), .nil, fun a b => .start a.1.1 a.1.2.1 a.2.1.1 a.2.1.2.1 a.2.1.2.2.1 a.2.1.2.2.2.1, { rl := (.cons (.int .i64) .nil), rb := .nil, done := [0] }, [], mkWr [] []⟩
def uN2 : vw0 → Option ((Int × Unit) × Unit)
 | .start s0_0 s0_1 t1_0 t1_1 t1_2 t1_3 =>
  (uM9 (.start t1_0 t1_1 t1_2 t1_3)) >>= fun t1 =>
  if (t1.1.1 != (0 : Int)) = true then
   some ((t1.1.1, ()), ())
  else
   (run_z21 (.start s0_0 s0_1 t1_0 t1_1 t1_2 t1_3)) >>= fun t2 =>
   some ((t2.1.1, ()), ())
def vV7 : ua8 E := vJ4.okc E_ok (run := uN2) (vJ4.mk_ok E_ok [v13, vV5] vJ4.none)
inductive vw1 where
 | start (s0 : Int) (f1_0 : ByteArray) (f1_1 : Int) (f1_2 : Int) (f1_3 : ByteArray) (f1_4 : (List ua3)) (D0 : (List ua5)) (D1 : (List ByteArray)) (B2 : (List ByteArray))
def vJ5 : Fb E vw1 (Int × Unit) ((Unit × Unit) × (((List ua5) × ((List ByteArray) × Unit)) × ((List ByteArray) × Unit))) := ⟨117, Tryz.f117, (.cons (Rd.int .i64).w (.cons (.agg (.cons Rd.str.w (.cons (Rd.int .i64).w (.cons (Rd.int .i64).w (.cons Rd.str.w (.cons (.sl 25) .nil)))))) (.cons (Rd.bp 0 0).w (.cons (Rd.bp 1 0).w .nil)))), (.cons (.var 101 (.cons (Rd.rw 2) .nil)) (.cons (.var 107 (.cons (.sl 103 false) (.cons (.sl 9 false) .nil))) (.cons (.row 9 false) .nil))), fun a b => .start a.1 a.2.1.1 a.2.1.2.1 a.2.1.2.2.1 a.2.1.2.2.2.1 a.2.1.2.2.2.2.1 b.2.1.1 b.2.1.2.1 b.2.2.1, { rl := (.cons (.int .i64) .nil), rb := (.cons (.var 101 (.cons (Rd.rw 2) .nil)) (.cons (.var 107 (.cons (.sl 103 false) (.cons (.sl 9 false) .nil))) (.cons (.row 9 false) .nil))), keep := 2, done := [0] }, [], mkWr [] []⟩
def uX4 : vw1 → Option ((Int × Unit) × ((Unit × Unit) × (((List ua5) × ((List ByteArray) × Unit)) × ((List ByteArray) × Unit))))
 | .start s0 f1_0 f1_1 f1_2 f1_3 f1_4 D0 D1 B2 =>
  (uy9 (.start f1_0 B2)) >>= fun t1 =>
  if (t1.1.1 != (0 : Int)) = true then
   some ((t1.1.1, ()), (((), ()), ((D0, (D1, ())), (B2, ()))))
  else
   if (fits (List.length B2) (List.length ([f1_0] : List ByteArray)) 16) = true then
    (uN2 (.start D0 D1 f1_1 f1_2 f1_3 f1_4)) >>= fun t2 =>
    some ((t2.1.1, ()), (((), ()), ((D0, (D1, ())), (B2 ++ ([f1_0] : List ByteArray), ()))))
   else none
def v14 : ua8 E := vJ5.okc E_ok (run := uX4) (vJ5.mk_ok E_ok [vV7, vC1] vJ5.none)
inductive vw2 where
 | start (l0 : (List ua6)) (D0 : (List ua5)) (D1 : (List ByteArray))
 | p52 (s9 : (List ua6)) (s10 : Int) (s11 : Int) (D0 : (List ua5)) (D1 : (List ByteArray)) (B2 : (List ByteArray))
def vJ6 : Fb E vw2 (Int × (Int × Unit)) ((Unit × Unit) × (((List ua5) × ((List ByteArray) × Unit)) × ((List ByteArray) × Unit))) := ⟨116, Tryz.f116, (.cons (.sl 58) (.cons (Rd.fn 117 (.cons (.bp 0 0) (.cons (.bp 1 0) .nil))).w .nil)), (.cons (.var 101 (.cons Rd.nl .nil)) (.cons (.var 107 (.cons (.sl 103 false) (.cons (.sl 9 false) .nil))) .nil)), fun a b => .start a.1 b.2.1.1 b.2.1.2.1, { rl := (.cons (.int .i64) (.cons (.int .i64) .nil)), rb := (.cons (.var 101 (.cons (Rd.rw 2) .nil)) (.cons (.var 107 (.cons (.sl 103 false) (.cons (.sl 9 false) .nil))) (.cons (.row 9 true) .nil))), keep := 2, done := [0, 1, 100000] }, [⟨52, { slots := [1, 9, 10, 11], keep := 2, up := [(true, 100000, 0, 9)] }, (.cons (Rd.fn 117 (.cons (.bp 0 0) (.cons (.bp 1 0) .nil))) (.cons (.sl 58 false) (.cons (.int .i64) (.cons (.int .i64) .nil)))), (.cons (.var 101 (.cons (Rd.rw 2) .nil)) (.cons (.var 107 (.cons (.sl 103 false) (.cons (.sl 9 false) .nil))) (.cons (.row 9 false) .nil))), fun a b => .p52 a.2.1 a.2.2.1 a.2.2.2.1 b.2.1.1 b.2.1.2.1 b.2.2.1⟩], mkWr [] []⟩
def uz2 : vw2 → Option ((Int × (Int × Unit)) × ((Unit × Unit) × (((List ua5) × ((List ByteArray) × Unit)) × ((List ByteArray) × Unit))))
 | .start l0 D0 D1 =>
  uz2 (.p52 l0 (List.length l0 : Int) (0 : Int) D0 D1 ([] : List ByteArray))
 | .p52 s9 s10 s11 D0 D1 B2 =>
  if (decide (s11 < s10)) = true then
   (idx s9 s11) >>= fun t1 =>
   (uX4 (.start s11 t1.Name t1.Type_.Kind t1.Type_.Value t1.Type_.Name t1.Type_.Parts D0 D1 B2)) >>= fun t2 =>
   if (t2.1.1 != (0 : Int)) = true then
    some ((s11, (t2.1.1, ())), (((), ()), ((t2.2.2.1.1, (t2.2.2.1.2.1, ())), (t2.2.2.2.1, ()))))
   else
    uz2 (.p52 s9 s10 (IntKind.wrap .i64 (s11 + (1 : Int))) t2.2.2.1.1 t2.2.2.1.2.1 t2.2.2.2.1)
  else
   some (((0 : Int), ((0 : Int), ())), (((), ()), ((D0, (D1, ())), (B2, ()))))
 partial_fixpoint
def v16 : ua8 E := vJ6.okc E_ok (run := uz2) (uz2.partial_correctness vJ6.M fun run' ih => vJ6.mk_ok E_ok [v14] ih)
inductive vw3 where
 | start (s0 : Int) (c1_0 : ByteArray) (c1_1 : (List ua6)) (D0 : (List ua5)) (D1 : (List ByteArray)) (B2 : (List ByteArray))
def vJ7 : Fb E vw3 (Int × Unit) ((Unit × Unit) × (((List ua5) × ((List ByteArray) × Unit)) × ((List ByteArray) × Unit))) := ⟨115, Tryz.f115, (.cons (Rd.int .i64).w (.cons (.agg (.cons Rd.str.w (.cons (.sl 58) .nil))) (.cons (Rd.bp 0 0).w (.cons (Rd.bp 1 0).w .nil)))), (.cons (.var 101 (.cons (Rd.rw 2) .nil)) (.cons (.var 107 (.cons (.sl 103 false) (.cons (.sl 9 false) .nil))) (.cons (.row 9 true) .nil))), fun a b => .start a.1 a.2.1.1 a.2.1.2.1 b.2.1.1 b.2.1.2.1 b.2.2.1, { rl := (.cons (.int .i64) .nil), rb := (.cons (.var 101 (.cons (Rd.rw 2) .nil)) (.cons (.var 107 (.cons (.sl 103 false) (.cons (.sl 9 false) .nil))) (.cons (.row 9 true) .nil))), keep := 2, done := [0] }, [], mkWr [] []⟩
def uX5 : vw3 → Option ((Int × Unit) × ((Unit × Unit) × (((List ua5) × ((List ByteArray) × Unit)) × ((List ByteArray) × Unit))))
 | .start s0 c1_0 c1_1 D0 D1 B2 =>
  (uy9 (.start c1_0 B2)) >>= fun t1 =>
  (ub3 (.start (decide ((List.length c1_1 : Int) ≤ (8 : Int))) (8 : Int))) >>= fun t2 =>
  (ub9 (.start ([t1.1.1, t2.1.1] : List Int))) >>= fun t3 =>
  if (t3.1.1 != (0 : Int)) = true then
   some ((t3.1.1, ()), (((), ()), ((D0, (D1, ())), (B2, ()))))
  else
   if (fits (List.length B2) (List.length ([c1_0] : List ByteArray)) 16) = true then
    (uz2 (.start c1_1 D0 D1)) >>= fun t4 =>
    some ((t4.1.2.1, ()), (((), ()), ((t4.2.2.1.1, (t4.2.2.1.2.1, ())), (B2 ++ ([c1_0] : List ByteArray), ()))))
   else none
def v17 : ua8 E := vJ7.okc E_ok (run := uX5) (vJ7.mk_ok E_ok [v16, u59, c_z7, vC1] vJ7.none)
inductive vw4 where
 | start (l0 : (List ua2)) (D0 : (List ua5)) (D1 : (List ByteArray)) (B2 : (List ByteArray))
 | p52 (s9 : (List ua2)) (s10 : Int) (s11 : Int) (D0 : (List ua5)) (D1 : (List ByteArray)) (B2 : (List ByteArray))
def vJ8 : Fb E vw4 (Int × (Int × Unit)) ((Unit × Unit) × (((List ua5) × ((List ByteArray) × Unit)) × ((List ByteArray) × Unit))) := ⟨114, Tryz.f114, (.cons (.sl 56) (.cons (Rd.fn 115 (.cons (.bp 0 0) (.cons (.bp 1 0) .nil))).w .nil)), (.cons (.var 101 (.cons (Rd.rw 2) .nil)) (.cons (.var 107 (.cons (.sl 103 false) (.cons (.sl 9 false) .nil))) (.cons (.row 9 true) .nil))), fun a b => .start a.1 b.2.1.1 b.2.1.2.1 b.2.2.1, { rl := (.cons (.int .i64) (.cons (.int .i64) .nil)), rb := (.cons (.var 101 (.cons (Rd.rw 2) .nil)) (.cons (.var 107 (.cons (.sl 103 false) (.cons (.sl 9 false) .nil))) (.cons (.row 9 true) .nil))), keep := 2, done := [0, 1] }, [⟨52, { slots := [1, 9, 10, 11], keep := 2 }, (.cons (Rd.fn 115 (.cons (.bp 0 0) (.cons (.bp 1 0) .nil))) (.cons (.sl 56 false) (.cons (.int .i64) (.cons (.int .i64) .nil)))), (.cons (.var 101 (.cons (Rd.rw 2) .nil)) (.cons (.var 107 (.cons (.sl 103 false) (.cons (.sl 9 false) .nil))) (.cons (.row 9 true) .nil))), fun a b => .p52 a.2.1 a.2.2.1 a.2.2.2.1 b.2.1.1 b.2.1.2.1 b.2.2.1⟩], mkWr [] []⟩
def uz3 : vw4 → Option ((Int × (Int × Unit)) × ((Unit × Unit) × (((List ua5) × ((List ByteArray) × Unit)) × ((List ByteArray) × Unit))))
 | .start l0 D0 D1 B2 =>
  uz3 (.p52 l0 (List.length l0 : Int) (0 : Int) D0 D1 B2)
 | .p52 s9 s10 s11 D0 D1 B2 =>
  if (decide (s11 < s10)) = true then
   (idx s9 s11) >>= fun t1 =>
   (uX5 (.start s11 t1.Name t1.Fields D0 D1 B2)) >>= fun t2 =>
   if (t2.1.1 != (0 : Int)) = true then
    some ((s11, (t2.1.1, ())), (((), ()), ((t2.2.2.1.1, (t2.2.2.1.2.1, ())), (t2.2.2.2.1, ()))))
   else
    uz3 (.p52 s9 s10 (IntKind.wrap .i64 (s11 + (1 : Int))) t2.2.2.1.1 t2.2.2.1.2.1 t2.2.2.2.1)
  else
   some (((0 : Int), ((0 : Int), ())), (((), ()), ((D0, (D1, ())), (B2, ()))))
 partial_fixpoint
def v18 : ua8 E := vJ8.okc E_ok (run := uz3) (uz3.partial_correctness vJ8.M fun run' ih => vJ8.mk_ok E_ok [v17] ih)
inductive vw5 where
 | start (s0_0 : (List ua5)) (s0_1 : (List ByteArray)) (d1_0 : ByteArray) (d1_1 : (List ByteArray)) (d1_2 : (List ua2)) (names2 : (List ByteArray)) (constructors3 : (List ByteArray))
 | p7 (constructors3 : (List ByteArray)) (e9 : Int) (C0 : (List ua5)) (C1 : (List ByteArray)) (D0 : ByteArray) (D1 : (List ByteArray)) (D2 : (List ua2))
def vJ9 : Fb E vw5 (Int × Unit) Unit := ⟨77, Tryz.f77, (.cons (.agg (.cons (.sl 103) (.cons (.sl 9) .nil))) (.cons (.agg (.cons Rd.str.w (.cons (.sl 9) (.cons (.sl 56) .nil)))) (.cons (Rd.sl 9 true).w (.cons (Rd.sl 9 true).w .nil)))), .nil, fun a b => .start a.1.1 a.1.2.1 a.2.1.1 a.2.1.2.1 a.2.1.2.2.1 a.2.2.1 a.2.2.2.1, { rl := (.cons (.int .i64) .nil), rb := .nil, done := [0] }, [⟨7, { slots := [3, 4, 5, 9] }, (.cons (.sl 9 true) (.cons (.bp 0 0) (.cons (.bp 1 0) (.cons (.int .i64) .nil)))), (.cons (.var 107 (.cons (.sl 103 false) (.cons (.sl 9 false) .nil))) (.cons (.var 103 (.cons .str (.cons (.sl 9 false) (.cons (.sl 56 false) .nil)))) .nil)), fun a b => .p7 a.1 a.2.2.2.1 b.1.1 b.1.2.1 b.2.1.1 b.2.1.2.1 b.2.1.2.2.1⟩], mkWr [] []⟩
def uz4 : vw5 → Option ((Int × Unit) × Unit)
 | .start s0_0 s0_1 d1_0 d1_1 d1_2 names2 constructors3 =>
  if (fits (List.length names2) (List.length ([(⟨#[66, 105, 116]⟩ : ByteArray), (⟨#[66, 111, 111, 108]⟩ : ByteArray), (⟨#[73, 110, 116, 101, 103, 101, 114]⟩ : ByteArray)] : List ByteArray)) 16) = true then
   (uy9 (.start d1_0 (names2 ++ ([(⟨#[66, 105, 116]⟩ : ByteArray), (⟨#[66, 111, 111, 108]⟩ : ByteArray), (⟨#[73, 110, 116, 101, 103, 101, 114]⟩ : ByteArray)] : List ByteArray)))) >>= fun t1 =>
   if (decide ((List.length d1_1 : Int) ≤ (4 : Int))) = true then
    (ub3 (.start (decide ((List.length d1_2 : Int) ≤ (16 : Int))) (8 : Int))) >>= fun t2 =>
    (ub3 (.start (decide ((List.length d1_2 : Int) > (0 : Int))) (10 : Int))) >>= fun t3 =>
    (ub9 (.start ([t1.1.1, t2.1.1, t3.1.1] : List Int))) >>= fun t4 =>
    uz4 (.p7 constructors3 t4.1.1 s0_0 s0_1 d1_0 d1_1 d1_2)
   else
    (ub3 (.start false (8 : Int))) >>= fun t5 =>
    (ub3 (.start (decide ((List.length d1_2 : Int) > (0 : Int))) (10 : Int))) >>= fun t6 =>
    (ub9 (.start ([t1.1.1, t5.1.1, t6.1.1] : List Int))) >>= fun t7 =>
    uz4 (.p7 constructors3 t7.1.1 s0_0 s0_1 d1_0 d1_1 d1_2)
  else none
 | .p7 constructors3 e9 C0 C1 D0 D1 D2 =>
  if (e9 != (0 : Int)) = true then
   some ((e9, ()), ())
  else
   (uz0 (.start D1 D0 D1 D2)) >>= fun t1 =>
   if (t1.1.2.1 != (0 : Int)) = true then
    some ((t1.1.2.1, ()), ())
   else
    if (fits (List.length constructors3) (List.length ([(⟨#[70, 97, 108, 115, 101]⟩ : ByteArray), (⟨#[84, 114, 117, 101]⟩ : ByteArray)] : List ByteArray)) 16) = true then
     (uz3 (.start t1.2.1.2.2.1 C0 t1.2.1.2.1 (constructors3 ++ ([(⟨#[70, 97, 108, 115, 101]⟩ : ByteArray), (⟨#[84, 114, 117, 101]⟩ : ByteArray)] : List ByteArray)))) >>= fun t2 =>
     some ((t2.1.2.1, ()), ())
    else none
 partial_fixpoint
def v19 : ua8 E := vJ9.okc E_ok (run := uz4) (uz4.partial_correctness vJ9.M fun run' ih => vJ9.mk_ok E_ok [v18, v08, u59, c_z7, vC1] ih)
inductive vw6 where
 | start (i0 : Int) (d1_0 : ByteArray) (d1_1 : (List ByteArray)) (d1_2 : (List ua2)) (B0 : (List ua5)) (B3 : (List ByteArray)) (B4 : (List ByteArray))
 | p244 (e8 : Int) (s27 : (List ua2)) (s28 : Int) (s29 : Int) (B0 : (List ua5)) (B3 : (List ByteArray)) (B4 : (List ByteArray))
def vK0 : Fb E vw6 (Int × Unit) (((List ua5) × Unit) × ((Unit × Unit) × ((Unit × Unit) × ((List ByteArray) × ((List ByteArray) × Unit))))) := ⟨76, Tryz.f76, (.cons (Rd.int .i64).w (.cons (.agg (.cons Rd.str.w (.cons (.sl 9) (.cons (.sl 56) .nil)))) (.cons (Rd.bp 0 0).w (.cons (Rd.bp 1 0).w (.cons (Rd.bp 2 0).w .nil))))), (.cons (.var 22 (.cons (.sl 103 false) .nil)) (.cons (.var 101 (.cons (Rd.rw 3) .nil)) (.cons (.var 101 (.cons (Rd.rw 4) .nil)) (.cons (.row 9 true) (.cons (.row 9 true) .nil))))), fun a b => .start a.1 a.2.1.1 a.2.1.2.1 a.2.1.2.2.1 b.1.1 b.2.2.2.1 b.2.2.2.2.1, { rl := (.cons (.int .i64) .nil), rb := (.cons (.var 22 (.cons (.sl 103 false) .nil)) (.cons (.var 101 (.cons (Rd.rw 3) .nil)) (.cons (.var 101 (.cons (Rd.rw 4) .nil)) (.cons (.row 9 true) (.cons (.row 9 true) .nil))))), keep := 3, done := [0] }, [⟨244, { slots := [4, 8, 27, 28, 29], keep := 3 }, (.cons (.bp 2 0) (.cons (.int .i64) (.cons (.sl 56 false) (.cons (.int .i64) (.cons (.int .i64) .nil))))), (.cons (.var 22 (.cons (.sl 103 false) .nil)) (.cons (.var 101 (.cons (Rd.rw 3) .nil)) (.cons (.var 101 (.cons (Rd.rw 4) .nil)) (.cons (.row 9 true) (.cons (.row 9 true) .nil))))), fun a b => .p244 a.2.1 a.2.2.1 a.2.2.2.1 a.2.2.2.2.1 b.1.1 b.2.2.2.1 b.2.2.2.2.1⟩], mkWr [] []⟩
def uz5 : vw6 → Option ((Int × Unit) × (((List ua5) × Unit) × ((Unit × Unit) × ((Unit × Unit) × ((List ByteArray) × ((List ByteArray) × Unit))))))
 | .start i0 d1_0 d1_1 d1_2 B0 B3 B4 =>
  (span (List.length B0) (0 : Int) i0) >>= fun t1 =>
  (u37 (.start B3)) >>= fun t2 =>
  (u37 (.start B4)) >>= fun t3 =>
  (uz4 (.start (cut B0 t1) ([]) d1_0 d1_1 d1_2 t2.1.1 t3.1.1)) >>= fun t4 =>
  if (fits (List.length B3) (List.length ([d1_0] : List ByteArray)) 16) = true then
   uz5 (.p244 t4.1.1 d1_2 (List.length d1_2 : Int) (0 : Int) B0 (B3 ++ ([d1_0] : List ByteArray)) B4)
  else none
 | .p244 e8 s27 s28 s29 B0 B3 B4 =>
  if (decide (s29 < s28)) = true then
   (idx s27 s29) >>= fun t1 =>
   if (fits (List.length B4) (List.length ([t1.Name] : List ByteArray)) 16) = true then
    uz5 (.p244 e8 s27 s28 (IntKind.wrap .i64 (s29 + (1 : Int))) B0 B3 (B4 ++ ([t1.Name] : List ByteArray)))
   else none
  else
   some ((e8, ()), ((B0, ()), (((), ()), (((), ()), (B3, (B4, ()))))))
 partial_fixpoint
def v22 : ua8 E := vK0.okc E_ok (run := uz5) (uz5.partial_correctness vK0.M fun run' ih => vK0.mk_ok E_ok [v19, c_z4] ih)
inductive vw7 where
 | start (l0 : (List ua5)) (B0 : (List ua5))
 | p52 (s9 : (List ua5)) (s10 : Int) (s11 : Int) (B0 : (List ua5)) (B3 : (List ByteArray)) (B4 : (List ByteArray))
def vK1 : Fb E vw7 (Int × (Int × Unit)) (((List ua5) × Unit) × ((Unit × Unit) × ((Unit × Unit) × ((List ByteArray) × ((List ByteArray) × Unit))))) := ⟨75, Tryz.f75, (.cons (.sl 103) (.cons (Rd.fn 76 (.cons (.bp 0 0) (.cons (.bp 1 0) (.cons (.bp 2 0) .nil)))).w .nil)), (.cons (.var 22 (.cons (.sl 103 false) .nil)) (.cons (.var 101 (.cons Rd.nl .nil)) (.cons (.var 101 (.cons Rd.nl .nil)) .nil))), fun a b => .start a.1 b.1.1, { rl := (.cons (.int .i64) (.cons (.int .i64) .nil)), rb := (.cons (.var 22 (.cons (.sl 103 false) .nil)) (.cons (.var 101 (.cons (Rd.rw 3) .nil)) (.cons (.var 101 (.cons (Rd.rw 4) .nil)) (.cons (.row 9 true) (.cons (.row 9 true) .nil))))), keep := 3, done := [0, 1, 100002] }, [⟨52, { slots := [1, 9, 10, 11], keep := 3, up := [(true, 100001, 0, 9), (true, 100002, 0, 9)], done := [1] }, (.cons (Rd.fn 76 (.cons (.bp 0 0) (.cons (.bp 1 0) (.cons (.bp 2 0) .nil)))) (.cons (.sl 103 false) (.cons (.int .i64) (.cons (.int .i64) .nil)))), (.cons (.var 22 (.cons (.sl 103 false) .nil)) (.cons (.var 101 (.cons (Rd.rw 3) .nil)) (.cons (.var 101 (.cons (Rd.rw 4) .nil)) (.cons (.row 9 true) (.cons (.row 9 true) .nil))))), fun a b => .p52 a.2.1 a.2.2.1 a.2.2.2.1 b.1.1 b.2.2.2.1 b.2.2.2.2.1⟩], mkWr [] []⟩
def uz6 : vw7 → Option ((Int × (Int × Unit)) × (((List ua5) × Unit) × ((Unit × Unit) × ((Unit × Unit) × ((List ByteArray) × ((List ByteArray) × Unit))))))
 | .start l0 B0 =>
  uz6 (.p52 l0 (List.length l0 : Int) (0 : Int) B0 ([] : List ByteArray) ([] : List ByteArray))
 | .p52 s9 s10 s11 B0 B3 B4 =>
  if (decide (s11 < s10)) = true then
   (idx s9 s11) >>= fun t1 =>
   (uz5 (.start s11 t1.Name t1.Params t1.Constructors B0 B3 B4)) >>= fun t2 =>
   if (t2.1.1 != (0 : Int)) = true then
    some ((s11, (t2.1.1, ())), ((t2.2.1.1, ()), (((), ()), (((), ()), (t2.2.2.2.2.1, (t2.2.2.2.2.2.1, ()))))))
   else
    uz6 (.p52 s9 s10 (IntKind.wrap .i64 (s11 + (1 : Int))) t2.2.1.1 t2.2.2.2.2.1 t2.2.2.2.2.2.1)
  else
   some (((0 : Int), ((0 : Int), ())), ((B0, ()), (((), ()), (((), ()), (B3, (B4, ()))))))
 partial_fixpoint
def v23 : ua8 E := vK1.okc E_ok (run := uz6) (uz6.partial_correctness vK1.M fun run' ih => vK1.mk_ok E_ok [v22] ih)
inductive vw8 where
 | start (l0 : (List ua5))
def vK2 : Fb E vw8 (Int × (Int × Unit)) Unit := ⟨23, Tryz.f23, (.cons (.sl 103) .nil), .nil, fun a b => .start a.1, { rl := (.cons (.int .i64) (.cons (.int .i64) .nil)), rb := .nil, done := [0, 1] }, [], mkWr [] []⟩
def uX6 : vw8 → Option ((Int × (Int × Unit)) × Unit)
 | .start l0 =>
  if (decide ((List.length l0 : Int) > (20 : Int))) = true then
   some (((0 : Int), ((8 : Int), ())), ())
  else
   (uz6 (.start l0 l0)) >>= fun t1 =>
   some ((t1.1.1, (t1.1.2.1, ())), ())
def v24 : ua8 E := vK2.okc E_ok (run := uX6) (vK2.mk_ok E_ok [v23] vK2.none)
inductive vw9 where
 | start (t0_0 : Int) (t0_1 : Int) (t0_2 : ByteArray) (t0_3 : (List ua3)) (params1 : (List ByteArray)) (args2 : (List ua3))
 | p27 (params1 : (List ByteArray)) (args2 : (List ua3)) (i7 : Int) (s21 : Bool) (C0 : Int) (C1 : Int) (C2 : ByteArray) (C3 : (List ua3)) (D0 : Int) (D1 : Int) (D2 : ByteArray)
 | p500 (params1 : (List ByteArray)) (args2 : (List ua3)) (s30 : (List ua3)) (s31 : Int) (s32 : Int) (C0 : Int) (C1 : Int) (C2 : ByteArray) (D0 : Int) (D1 : Int) (D2 : ByteArray) (B2 : (List ua3))
def vA5 : Fb E vw9 ((Int × (Int × (ByteArray × ((List ua3) × Unit)))) × Unit) Unit := ⟨162, Tryz.f162, (.cons (.agg (.cons (Rd.int .i64).w (.cons (Rd.int .i64).w (.cons Rd.str.w (.cons (.sl 25) .nil))))) (.cons (.sl 9) (.cons (.sl 25) .nil))), .nil, fun a b => .start a.1.1 a.1.2.1 a.1.2.2.1 a.1.2.2.2.1 a.2.1 a.2.2.1, { rl := (.cons (.agg (.cons (.int .i64) (.cons (.int .i64) (.cons .str (.cons (.sl 25 false) .nil))))) .nil), rb := .nil, deep := [(false, 0, 3, 25)], done := [0] }, [⟨27, { slots := [1, 2, 3, 6, 7, 21] }, (.cons (.sl 9 false) (.cons (.sl 25 false) (.cons (.bp 0 0) (.cons (.bp 1 0) (.cons (.int .i64) (.cons .bool .nil)))))), (.cons (.var 25 (.cons (.int .i64) (.cons (.int .i64) (.cons .str (.cons (.sl 25 false) .nil))))) (.cons (.var 25 (.cons (.int .i64) (.cons (.int .i64) (.cons .str (.cons Rd.nl .nil))))) .nil)), fun a b => .p27 a.1 a.2.1 a.2.2.2.2.1 a.2.2.2.2.2.1 b.1.1 b.1.2.1 b.1.2.2.1 b.1.2.2.2.1 b.2.1.1 b.2.1.2.1 b.2.1.2.2.1⟩,
 ⟨500, { slots := [1, 2, 6, 8, 30, 31, 32], up := [(true, 8, 3, 25)] }, (.cons (.sl 9 false) (.cons (.sl 25 false) (.cons (.bp 0 0) (.cons (.bp 1 0) (.cons (.sl 25 false) (.cons (.int .i64) (.cons (.int .i64) .nil))))))), (.cons (.var 25 (.cons (.int .i64) (.cons (.int .i64) (.cons .str (.cons Rd.nl .nil))))) (.cons (.var 25 (.cons (.int .i64) (.cons (.int .i64) (.cons .str (.cons (Rd.rw 2) .nil))))) (.cons (.row 25 false) .nil))), fun a b => .p500 a.1 a.2.1 a.2.2.2.2.1 a.2.2.2.2.2.1 a.2.2.2.2.2.2.1 b.1.1 b.1.2.1 b.1.2.2.1 b.2.1.1 b.2.1.2.1 b.2.1.2.2.1 b.2.2.1⟩], mkWr [] []⟩
def um4 : vw9 → Option (((Int × (Int × (ByteArray × ((List ua3) × Unit)))) × Unit) × Unit)
 | .start t0_0 t0_1 t0_2 t0_3 params1 args2 =>
  (uG7 (.start params1 t0_2)) >>= fun t1 =>
  if (t0_0 == (0 : Int)) = true then
   um4 (.p27 params1 args2 t1.1.1 (decide (t1.1.1 ≥ (0 : Int))) t0_0 t0_1 t0_2 t0_3 (0 : Int) (0 : Int) (⟨#[]⟩ : ByteArray))
  else
   um4 (.p27 params1 args2 t1.1.1 false t0_0 t0_1 t0_2 t0_3 (0 : Int) (0 : Int) (⟨#[]⟩ : ByteArray))
 | .p27 params1 args2 i7 s21 C0 C1 C2 C3 D0 D1 D2 =>
  if s21 = true then
   (idx args2 i7) >>= fun t1 =>
   (um4 (.start t1.Kind t1.Value t1.Name t1.Parts ([]) ([]))) >>= fun t2 =>
   some (((t2.1.1.1, (t2.1.1.2.1, (t2.1.1.2.2.1, (t2.1.1.2.2.2.1, ())))), ()), ())
  else
   um4 (.p500 params1 args2 C3 (List.length C3 : Int) (0 : Int) D0 D1 D2 C0 C1 C2 ([] : List ua3))
 | .p500 params1 args2 s30 s31 s32 C0 C1 C2 D0 D1 D2 B2 =>
  if (decide (s32 < s31)) = true then
   (idx s30 s32) >>= fun t1 =>
   (um4 (.start t1.Kind t1.Value t1.Name t1.Parts params1 args2)) >>= fun t2 =>
   if (fits (List.length B2) (List.length ([(⟨t2.1.1.1, t2.1.1.2.1, t2.1.1.2.2.1, t2.1.1.2.2.2.1⟩ : ua3)] : List ua3)) 56) = true then
    um4 (.p500 params1 args2 s30 s31 (IntKind.wrap .i64 (s32 + (1 : Int))) C0 C1 C2 D0 D1 D2 (B2 ++ ([(⟨t2.1.1.1, t2.1.1.2.1, t2.1.1.2.2.1, t2.1.1.2.2.2.1⟩ : ua3)] : List ua3)))
   else none
  else
   some (((D0, (D1, (D2, (B2, ())))), ()), ())
 partial_fixpoint
def v25 : ua8 E := vA5.okc E_ok (run := um4) (um4.partial_correctness vA5.M fun run' ih => vA5.mk_ok E_ok [vA5.okc E_ok ih, c_z8] ih)
inductive vx0 where
 | start (s0_0 : (List ua5)) (s0_1 : (List ByteArray)) (t1_0 : Int) (t1_1 : Int) (t1_2 : ByteArray) (t1_3 : (List ua3))
 | p500 (s26 : (List ua2)) (s27 : Int) (s28 : Int) (C0 : Int) (C1 : Int) (C2 : ByteArray) (C3 : (List ua3)) (D0 : ByteArray) (D1 : (List ByteArray)) (D2 : (List ua2)) (B2 : (List data_variant))
 | p512820 (s26 : (List ua2)) (s27 : Int) (s28 : Int) (s36 : (List ua6)) (s37 : Int) (s38 : Int) (C0 : Int) (C1 : Int) (C2 : ByteArray) (C3 : (List ua3)) (D0 : ByteArray) (D1 : (List ByteArray)) (D2 : (List ua2)) (B2 : (List data_variant)) (B3 : ByteArray) (B4 : (List ua6))
def vK3 : Fb E vx0 (Unit × Unit) ((List data_variant) × Unit) := ⟨142, Tryz.f142, (.cons (.agg (.cons (.sl 103) (.cons (.sl 9) .nil))) (.cons (.agg (.cons (Rd.int .i64).w (.cons (Rd.int .i64).w (.cons Rd.str.w (.cons (.sl 25) .nil))))) .nil)), .nil, fun a b => .start a.1.1 a.1.2.1 a.2.1.1 a.2.1.2.1 a.2.1.2.2.1 a.2.1.2.2.2.1, { rl := (.cons (Rd.rw 0) .nil), rb := (.cons (.row 125 false) .nil), rows := [(0, 125)] }, [⟨500, { slots := [3, 5, 7, 26, 27, 28], rows := [(7, 125)] }, (.cons (.bp 0 0) (.cons (.bp 1 0) (.cons (Rd.rw 2) (.cons (.sl 56 false) (.cons (.int .i64) (.cons (.int .i64) .nil)))))), (.cons (.var 25 (.cons (.int .i64) (.cons (.int .i64) (.cons .str (.cons (.sl 25 false) .nil))))) (.cons (.var 103 (.cons .str (.cons (.sl 9 false) (.cons (.sl 56 false) .nil)))) (.cons (.row 125 false) .nil))), fun a b => .p500 a.2.2.2.1 a.2.2.2.2.1 a.2.2.2.2.2.1 b.1.1 b.1.2.1 b.1.2.2.1 b.1.2.2.2.1 b.2.1.1 b.2.1.2.1 b.2.1.2.2.1 b.2.2.1⟩,
 ⟨512820, { slots := [3, 5, 7, 10, 26, 27, 28, 36, 37, 38], up := [(true, 10, 1, 58)] }, (.cons (.bp 0 0) (.cons (.bp 1 0) (.cons (Rd.rw 2) (.cons (.bp 3 0) (.cons (.sl 56 false) (.cons (.int .i64) (.cons (.int .i64) (.cons (.sl 58 false) (.cons (.int .i64) (.cons (.int .i64) .nil)))))))))), (.cons (.var 25 (.cons (.int .i64) (.cons (.int .i64) (.cons .str (.cons (.sl 25 false) .nil))))) (.cons (.var 103 (.cons .str (.cons (.sl 9 false) (.cons (.sl 56 false) .nil)))) (.cons (.row 125 false) (.cons (.var 125 (.cons .str (.cons (Rd.rw 4) (.cons Rd.nl .nil)))) (.cons (.row 58 false) .nil))))), fun a b => .p512820 a.2.2.2.2.1 a.2.2.2.2.2.1 a.2.2.2.2.2.2.1 a.2.2.2.2.2.2.2.1 a.2.2.2.2.2.2.2.2.1 a.2.2.2.2.2.2.2.2.2.1 b.1.1 b.1.2.1 b.1.2.2.1 b.1.2.2.2.1 b.2.1.1 b.2.1.2.1 b.2.1.2.2.1 b.2.2.1 b.2.2.2.1.1 b.2.2.2.2.1⟩], mkWr [4, 7, 24, 58, 61, 63] [(64103, [10])]⟩
def ur9 : vx0 → Option ((Unit × Unit) × ((List data_variant) × Unit))
 | .start s0_0 s0_1 t1_0 t1_1 t1_2 t1_3 =>
  (uN0 (.start s0_0 s0_1 t1_2)) >>= fun t1 =>
  if (!t1.1.2.1) = true then
   some (((), ()), (([(⟨(⟨#[70, 97, 108, 115, 101]⟩ : ByteArray), [], none⟩ : data_variant), (⟨(⟨#[84, 114, 117, 101]⟩ : ByteArray), [], none⟩ : data_variant)] : List data_variant), ()))
  else
   ur9 (.p500 t1.1.1.2.2.1 (List.length t1.1.1.2.2.1 : Int) (0 : Int) t1_0 t1_1 t1_2 t1_3 t1.1.1.1 t1.1.1.2.1 t1.1.1.2.2.1 ([] : List data_variant))
 | .p500 s26 s27 s28 C0 C1 C2 C3 D0 D1 D2 B2 =>
  if (decide (s28 < s27)) = true then
   (idx s26 s28) >>= fun t1 =>
   ur9 (.p512820 s26 s27 s28 t1.Fields (List.length t1.Fields : Int) (0 : Int) C0 C1 C2 C3 D0 D1 D2 B2 t1.Name ([] : List ua6))
  else
   some (((), ()), (B2, ()))
 | .p512820 s26 s27 s28 s36 s37 s38 C0 C1 C2 C3 D0 D1 D2 B2 B3 B4 =>
  if (decide (s38 < s37)) = true then
   (idx s36 s38) >>= fun t1 =>
   (um4 (.start t1.Type_.Kind t1.Type_.Value t1.Type_.Name t1.Type_.Parts D1 C3)) >>= fun t2 =>
   if (fits (List.length B4) (List.length ([(⟨t1.Name, (⟨t2.1.1.1, t2.1.1.2.1, t2.1.1.2.2.1, t2.1.1.2.2.2.1⟩ : ua3)⟩ : ua6)] : List ua6)) 72) = true then
    ur9 (.p512820 s26 s27 s28 s36 s37 (IntKind.wrap .i64 (s38 + (1 : Int))) C0 C1 C2 C3 D0 D1 D2 B2 B3 (B4 ++ ([(⟨t1.Name, (⟨t2.1.1.1, t2.1.1.2.1, t2.1.1.2.2.1, t2.1.1.2.2.2.1⟩ : ua3)⟩ : ua6)] : List ua6)))
   else none
  else
   if (fits (List.length B2) (List.length ([(⟨B3, B4, none⟩ : data_variant)] : List data_variant)) 64) = true then
    ur9 (.p500 s26 s27 (IntKind.wrap .i64 (s28 + (1 : Int))) C0 C1 C2 C3 D0 D1 D2 (B2 ++ ([(⟨B3, B4, none⟩ : data_variant)] : List data_variant)))
   else none
 partial_fixpoint
def v26 : ua8 E := vK3.okc E_ok (run := ur9) (ur9.partial_correctness vK3.M fun run' ih => vK3.mk_ok E_ok [v25, vV6] ih)
inductive vx1 where
 | start (s0_0 : (List ua5)) (s0_1 : (List ByteArray)) (t1_0 : Int) (t1_1 : Int) (t1_2 : ByteArray) (t1_3 : (List ua3)) (deep3 : Int) (B0 : Int)
 | p31 (deep3 : Int) (few11 : Int) (B0 : Int) (D0 : (List ua5)) (D1 : (List ByteArray)) (G0 : Int) (G1 : Int) (G2 : ByteArray) (G3 : (List ua3))
 | p8180 (deep3 : Int) (s76 : Int) (s77 : Int) (B0 : Int) (D0 : (List ua5)) (D1 : (List ByteArray)) (B2 : Int) (B3 : (List data_variant))
 | p4188572 (deep3 : Int) (v15 : Int) (s76 : Int) (s77 : Int) (s89 : (List ua6)) (s90 : Int) (s91 : Int) (B0 : Int) (D0 : (List ua5)) (D1 : (List ByteArray)) (B2 : Int) (B3 : ((List data_variant) × Nat)) (B4 : (List (Option ua4)))
def vA6 : Fb E vx1 ((Option ua4) × (Int × Unit)) ((Int × Unit) × Unit) := ⟨106, Tryz.f106, (.cons (.agg (.cons (.sl 103) (.cons (.sl 9) .nil))) (.cons (.agg (.cons (Rd.int .i64).w (.cons (Rd.int .i64).w (.cons Rd.str.w (.cons (.sl 25) .nil))))) (.cons (Rd.bp 0 0).w (.cons (Rd.int .i64).w .nil)))), (.cons (.var 3 (.cons (.int .i64) .nil)) .nil), fun a b => .start a.1.1 a.1.2.1 a.2.1.1 a.2.1.2.1 a.2.1.2.2.1 a.2.1.2.2.2.1 a.2.2.2.1 b.1.1, { rl := (.cons (Rd.op 128) (.cons (.int .i64) .nil)), rb := (.cons (.var 3 (.cons (.int .i64) .nil)) .nil), keep := 1, done := [0, 1], ptrs := [(0, 128)] }, [⟨31, { slots := [2, 3, 4, 5, 11], keep := 1 }, (.cons (.bp 0 0) (.cons (.int .i64) (.cons (.bp 1 0) (.cons (.bp 2 0) (.cons (.int .i64) .nil))))), (.cons (.var 3 (.cons (.int .i64) .nil)) (.cons (.var 107 (.cons (.sl 103 false) (.cons (.sl 9 false) .nil))) (.cons (.var 25 (.cons (.int .i64) (.cons (.int .i64) (.cons .str (.cons (.sl 25 false) .nil))))) .nil))), fun a b => .p31 a.2.1 a.2.2.2.2.1 b.1.1 b.2.1.1 b.2.1.2.1 b.2.2.1.1 b.2.2.1.2.1 b.2.2.1.2.2.1 b.2.2.1.2.2.2.1⟩,
 ⟨8180, { slots := [2, 3, 4, 13, 76, 77], keep := 1, close := [13] }, (.cons (.bp 0 0) (.cons (.int .i64) (.cons (.bp 1 0) (.cons (.bp 2 0) (.cons (.int .i64) (.cons (.int .i64) .nil)))))), (.cons (.var 3 (.cons (.int .i64) .nil)) (.cons (.var 107 (.cons (.sl 103 false) (.cons (.sl 9 false) .nil))) (.cons (.var 128 (.cons (.int .i64) (.cons (Rd.rw 3) .nil))) (.cons (.row 125 false) .nil)))), fun a b => .p8180 a.2.1 a.2.2.2.2.1 a.2.2.2.2.2.1 b.1.1 b.2.1.1 b.2.1.2.1 b.2.2.1.1 b.2.2.2.1⟩,
 ⟨4188572, { slots := [2, 3, 4, 13, 15, 76, 77, 89, 90, 91], keep := 1 }, (.cons (.bp 0 0) (.cons (.int .i64) (.cons (.bp 1 0) (.cons (.bp 2 0) (.cons (Rd.rp 3 125 0) (.cons (.int .i64) (.cons (.int .i64) (.cons (.sl 58 false) (.cons (.int .i64) (.cons (.int .i64) .nil)))))))))), (.cons (.var 3 (.cons (.int .i64) .nil)) (.cons (.var 107 (.cons (.sl 103 false) (.cons (.sl 9 false) .nil))) (.cons (.var 128 (.cons (.int .i64) (.cons (Rd.rw 3) .nil))) (.cons (RdB.lk 125 2 4) (.cons (.row 105 false) .nil))))), fun a b => .p4188572 a.2.1 a.2.2.2.2.1 a.2.2.2.2.2.1 a.2.2.2.2.2.2.1 a.2.2.2.2.2.2.2.1 a.2.2.2.2.2.2.2.2.1 a.2.2.2.2.2.2.2.2.2.1 b.1.1 b.2.1.1 b.2.1.2.1 b.2.2.1.1 b.2.2.2.1 b.2.2.2.2.1⟩], mkWr [8, 13, 15, 17, 50, 51, 52, 69, 70, 71, 72, 73, 74, 75, 80, 81, 82, 83, 85, 86, 87, 88, 89, 93, 94, 97, 98, 108, 109, 110, 111, 112, 115, 116, 117, 120] [] [] [(85, 2)]⟩
def uk5 : vx1 → Option (((Option ua4) × (Int × Unit)) × ((Int × Unit) × Unit))
 | .start s0_0 s0_1 t1_0 t1_1 t1_2 t1_3 deep3 B0 =>
  (uM9 (.start t1_0 t1_1 t1_2 t1_3)) >>= fun t1 =>
  if (t1.1.1 != (0 : Int)) = true then
   some ((none, (t1.1.1, ())), ((B0, ()), ()))
  else
   if (decide ((IntKind.wrap .i64 (B0 + (1 : Int))) ≤ (200 : Int))) = true then
    (ub3 (.start (decide (deep3 ≤ (40 : Int))) (8 : Int))) >>= fun t2 =>
    uk5 (.p31 deep3 t2.1.1 (IntKind.wrap .i64 (B0 + (1 : Int))) s0_0 s0_1 t1_0 t1_1 t1_2 t1_3)
   else
    (ub3 (.start false (8 : Int))) >>= fun t3 =>
    uk5 (.p31 deep3 t3.1.1 (IntKind.wrap .i64 (B0 + (1 : Int))) s0_0 s0_1 t1_0 t1_1 t1_2 t1_3)
 | .p31 deep3 few11 B0 D0 D1 G0 G1 G2 G3 =>
  if (G0 == (2 : Int)) = true then
   some ((none, ((26 : Int), ())), ((B0, ()), ()))
  else
   if (seq G2 (⟨#[66, 105, 116]⟩ : ByteArray)) = true then
    (idx G3 (0 : Int)) >>= fun t1 =>
    (ub3 (.start (t1.Kind == (2 : Int)) (26 : Int))) >>= fun t2 =>
    (ug5 (.start t1.Value (1 : Int) (16 : Int))) >>= fun t3 =>
    (ub3 (.start t3.1.1 (25 : Int))) >>= fun t4 =>
    (ub9 (.start ([t2.1.1, t4.1.1, few11] : List Int))) >>= fun t5 =>
    some ((some (⟨t1.Value, none⟩ : ua4), (t5.1.1, ())), ((B0, ()), ()))
   else
    if (few11 != (0 : Int)) = true then
     some ((none, (few11, ())), ((B0, ()), ()))
    else
     (ur9 (.start D0 D1 G0 G1 G2 G3)) >>= fun t6 =>
     uk5 (.p8180 deep3 (List.length t6.2.1 : Int) (0 : Int) B0 D0 D1 (0 : Int) t6.2.1)
 | .p8180 deep3 s76 s77 B0 D0 D1 B2 B3 =>
  if (decide (s77 < s76)) = true then
   if (decide ((0 : Int) ≤ s77) && decide (s77 < (List.length B3 : Int))) = true then
    (idx B3 s77) >>= fun t1 =>
    if (Option.isNone t1.parts) = true then
     (if s77 = (Int.toNat s77 : Int) then B3[Int.toNat s77]? else none) >>= fun t2 =>
     uk5 (.p4188572 deep3 s77 s76 s77 t2.fields (List.length t2.fields : Int) (0 : Int) B0 D0 D1 B2 (B3, Int.toNat s77) ([] : List (Option ua4)))
    else none
   else none
  else
   some ((some (⟨B2, (some B3)⟩ : ua4), ((0 : Int), ())), ((B0, ()), ()))
 | .p4188572 deep3 v15 s76 s77 s89 s90 s91 B0 D0 D1 B2 B3 B4 =>
  if (decide (s91 < s90)) = true then
   (idx s89 s91) >>= fun t1 =>
   (uk5 (.start D0 D1 t1.Type_.Kind t1.Type_.Value t1.Type_.Name t1.Type_.Parts (IntKind.wrap .i64 (deep3 + (1 : Int))) B0)) >>= fun t2 =>
   if (t2.1.2.1 != (0 : Int)) = true then
    some ((none, (t2.1.2.1, ())), ((t2.2.1.1, ()), ()))
   else
    (if v15 = (B3.2 : Int) then B3.1[B3.2]? else none) >>= fun t3 =>
    if (fits (List.length B4) (List.length ([t2.1.1] : List (Option ua4))) 8) = true then
     if v15 = (B3.2 : Int) then
      uk5 (.p4188572 deep3 v15 s76 s77 s89 s90 (IntKind.wrap .i64 (s91 + (1 : Int))) t2.2.1.1 D0 D1 B2 (B3.1, B3.2) (B4 ++ ([t2.1.1] : List (Option ua4))))
     else none
    else none
  else
   uk5 (.p8180 deep3 s76 (IntKind.wrap .i64 (s77 + (1 : Int))) B0 D0 D1 B2 (List.modify B3.1 B3.2 (fun y => (⟨y.name, y.fields, (some B4)⟩ : data_variant))))
 partial_fixpoint
def v27 : ua8 E := vA6.okc E_ok (run := uk5) (uk5.partial_correctness vA6.M fun run' ih => vA6.mk_ok E_ok [vA6.okc E_ok ih, v26, u59, c_z5, c_z7, vV5] ih)
inductive vx2 where
 | start (x0 : (Option ua4))
def vK4 : Fb E vx2 (Bool × Unit) Unit := ⟨88, Tryz.f88, (.cons (Rd.op 128).w .nil), .nil, fun a b => .start a.1, { rl := (.cons .bool .nil), rb := .nil, done := [0] }, [], mkWr [] []⟩
def us0 : vx2 → Option ((Bool × Unit) × Unit)
 | .start x0 =>
  x0 >>= fun t1 =>
  (vS0 t1.constructors) >>= fun t2 =>
  some ((t2, ()), ())
def vj2 : ua8 E := vK4.okc E_ok (run := us0) (vK4.mk_ok E_ok [] vK4.none)
inductive vx3 where
 | start (x0 : Int)
 | p7 (x0 : Int) (n2 : Int)
 | p15 (x0 : Int) (n2 : Int)
 | p31 (x0 : Int) (n2 : Int)
def vK5 : Fb E vx3 (Int × Unit) Unit := ⟨146, Tryz.f146, (.cons (Rd.int .u64).w .nil), .nil, fun a b => .start a.1, { rl := (.cons (.int .i64) .nil), rb := .nil, done := [0] }, [⟨7, { slots := [0, 2] }, (.cons (.int .u64) (.cons (.int .i64) .nil)), .nil, fun a b => .p7 a.1 a.2.1⟩,
 ⟨15, { slots := [0, 2] }, (.cons (.int .u64) (.cons (.int .i64) .nil)), .nil, fun a b => .p15 a.1 a.2.1⟩,
 ⟨31, { slots := [0, 2] }, (.cons (.int .u64) (.cons (.int .i64) .nil)), .nil, fun a b => .p31 a.1 a.2.1⟩], mkWr [] []⟩
def um5 : vx3 → Option ((Int × Unit) × Unit)
 | .start x0 =>
  if (decide (x0 ≥ (4294967296 : Int))) = true then
   if (decide ((0 : Int) ≤ (32 : Int))) = true then
    um5 (.p7 (shr .u64 x0 (32 : Int)) (32 : Int))
   else none
  else
   um5 (.p7 x0 (0 : Int))
 | .p7 x0 n2 =>
  if (decide (x0 ≥ (65536 : Int))) = true then
   if (decide ((0 : Int) ≤ (16 : Int))) = true then
    um5 (.p15 (shr .u64 x0 (16 : Int)) (IntKind.wrap .i64 (n2 + (16 : Int))))
   else none
  else
   um5 (.p15 x0 n2)
 | .p15 x0 n2 =>
  if (decide (x0 ≥ (256 : Int))) = true then
   if (decide ((0 : Int) ≤ (8 : Int))) = true then
    um5 (.p31 (shr .u64 x0 (8 : Int)) (IntKind.wrap .i64 (n2 + (8 : Int))))
   else none
  else
   um5 (.p31 x0 n2)
 | .p31 x0 n2 =>
  (sidx (⟨#[0, 1, 2, 2, 3, 3, 3, 3, 4, 4, 4, 4, 4, 4, 4, 4, 5, 5, 5, 5, 5, 5, 5, 5, 5, 5, 5, 5, 5, 5, 5, 5, 6, 6, 6, 6, 6, 6, 6, 6, 6, 6, 6, 6, 6, 6, 6, 6, 6, 6, 6, 6, 6, 6, 6, 6, 6, 6, 6, 6, 6, 6, 6, 6, 7, 7, 7, 7, 7, 7, 7, 7, 7, 7, 7, 7, 7, 7, 7, 7, 7, 7, 7, 7, 7, 7, 7, 7, 7, 7, 7, 7, 7, 7, 7, 7, 7, 7, 7, 7, 7, 7, 7, 7, 7, 7, 7, 7, 7, 7, 7, 7, 7, 7, 7, 7, 7, 7, 7, 7, 7, 7, 7, 7, 7, 7, 7, 7, 8, 8, 8, 8, 8, 8, 8, 8, 8, 8, 8, 8, 8, 8, 8, 8, 8, 8, 8, 8, 8, 8, 8, 8, 8, 8, 8, 8, 8, 8, 8, 8, 8, 8, 8, 8, 8, 8, 8, 8, 8, 8, 8, 8, 8, 8, 8, 8, 8, 8, 8, 8, 8, 8, 8, 8, 8, 8, 8, 8, 8, 8, 8, 8, 8, 8, 8, 8, 8, 8, 8, 8, 8, 8, 8, 8, 8, 8, 8, 8, 8, 8, 8, 8, 8, 8, 8, 8, 8, 8, 8, 8, 8, 8, 8, 8, 8, 8, 8, 8, 8, 8, 8, 8, 8, 8, 8, 8, 8, 8, 8, 8, 8, 8, 8, 8, 8, 8, 8, 8, 8, 8, 8, 8, 8, 8, 8, 8]⟩ : ByteArray) (IntKind.wrap .u8 x0)) >>= fun t1 =>
  some ((IntKind.wrap .i64 (n2 + (IntKind.wrap .i64 t1)), ()), ())
 partial_fixpoint
def v28 : ua8 E := vK5.okc E_ok (run := um5) (um5.partial_correctness vK5.M fun run' ih => vK5.mk_ok E_ok [] ih)
inductive vx4 where
 | start (x0 : Int)
def vK6 : Fb E vx4 (Int × Unit) Unit := ⟨124, Tryz.f124, (.cons (Rd.int .u64).w .nil), .nil, fun a b => .start a.1, { rl := (.cons (.int .i64) .nil), rb := .nil, done := [0] }, [], mkWr [] []⟩
def uX7 : vx4 → Option ((Int × Unit) × Unit)
 | .start x0 =>
  (um5 (.start x0)) >>= fun t1 =>
  some ((t1.1.1, ()), ())
def v29 : ua8 E := vK6.okc E_ok (run := uX7) (vK6.mk_ok E_ok [v28] vK6.none)
inductive vx5 where
 | start (x0 : (Option ua4))
def vK7 : Fb E vx5 (Int × Unit) Unit := ⟨91, Tryz.f91, (.cons (Rd.op 128).w .nil), .nil, fun a b => .start a.1, { rl := (.cons (.int .i64) .nil), rb := .nil, done := [0] }, [], mkWr [] []⟩
def uX8 : vx5 → Option ((Int × Unit) × Unit)
 | .start x0 =>
  x0 >>= fun t1 =>
  (uX7 (.start (IntKind.wrap .u64 (IntKind.wrap .i64 ((List.length (Option.getD t1.constructors []) : Int) - (1 : Int)))))) >>= fun t2 =>
  some ((t2.1.1, ()), ())
def v30 : ua8 E := vK7.okc E_ok (run := uX8) (vK7.mk_ok E_ok [v29] vK7.none)
inductive vn1 where
 | start (v0_0 : ByteArray) (v0_1 : (List ua6)) (v0_2 : (Option (List (Option ua4))))
 | p116 (sum3 : Int) (s7 : (Option (List (Option ua4)))) (s8 : Int) (s9 : Int)
def vi3 : Fb E vn1 (Int × Unit) Unit := ⟨89, Tryz.f89, (.cons (.agg (.cons Rd.str.w (.cons (.sl 58) (.cons (Rd.so 105).w .nil)))) .nil), .nil, fun a b => .start a.1.1 a.1.2.1 a.1.2.2.1, { rl := (.cons (.int .i64) .nil), rb := .nil, done := [0] }, [⟨116, { slots := [3, 7, 8, 9] }, (.cons (.int .i64) (.cons (Rd.so 105) (.cons (.int .i64) (.cons (.int .i64) .nil)))), .nil, fun a b => .p116 a.1 a.2.1 a.2.2.1 a.2.2.2.1⟩], mkWr [] []⟩
inductive vn2 where
 | start (x0 : (Option ua4))
def vi4 : Fb E vn2 (Int × Unit) Unit := ⟨65, Tryz.f65, (.cons (Rd.op 128).w .nil), .nil, fun a b => .start a.1, { rl := (.cons (.int .i64) .nil), rb := .nil, done := [0] }, [], mkWr [] []⟩
inductive vn3 where
 | start (x0 : (Option ua4))
 | p116 (most3 : Int) (s9 : (Option (List data_variant))) (s10 : Int) (s11 : Int)
def vi5 : Fb E vn3 (Int × Unit) Unit := ⟨90, Tryz.f90, (.cons (Rd.op 128).w .nil), .nil, fun a b => .start a.1, { rl := (.cons (.int .i64) .nil), rb := .nil, done := [0] }, [⟨116, { slots := [3, 9, 10, 11] }, (.cons (.int .i64) (.cons (Rd.so 125) (.cons (.int .i64) (.cons (.int .i64) .nil)))), .nil, fun a b => .p116 a.1 a.2.1 a.2.2.1 a.2.2.2.1⟩], mkWr [] []⟩
mutual
def us1 : vn1 → Option ((Int × Unit) × Unit)
 | .start v0_0 v0_1 v0_2 =>
  us1 (.p116 (0 : Int) v0_2 (List.length (Option.getD v0_2 []) : Int) (0 : Int))
 | .p116 sum3 s7 s8 s9 =>
  if (decide (s9 < s8)) = true then
   (idx (Option.getD s7 []) s9) >>= fun t1 =>
   (run_z41 (.start t1)) >>= fun t2 =>
   us1 (.p116 (IntKind.wrap .i64 (sum3 + t2.1.1)) s7 s8 (IntKind.wrap .i64 (s9 + (1 : Int))))
  else
   some ((sum3, ()), ())
 partial_fixpoint
def run_z41 : vn2 → Option ((Int × Unit) × Unit)
 | .start x0 =>
  (us0 (.start x0)) >>= fun t1 =>
  if t1.1.1 = true then
   x0 >>= fun t2 =>
   some ((t2.bits, ()), ())
  else
   (uX8 (.start x0)) >>= fun t3 =>
   (run_z42 (.start x0)) >>= fun t4 =>
   some ((IntKind.wrap .i64 (t3.1.1 + t4.1.1), ()), ())
 partial_fixpoint
def run_z42 : vn3 → Option ((Int × Unit) × Unit)
 | .start x0 =>
  x0 >>= fun t1 =>
  run_z42 (.p116 (0 : Int) t1.constructors (List.length (Option.getD t1.constructors []) : Int) (0 : Int))
 | .p116 most3 s9 s10 s11 =>
  if (decide (s11 < s10)) = true then
   (idx (Option.getD s9 []) s11) >>= fun t1 =>
   (us1 (.start t1.name t1.fields t1.parts)) >>= fun t2 =>
   run_z42 (.p116 (if t2.1.1 > most3 then t2.1.1 else most3) s9 s10 (IntKind.wrap .i64 (s11 + (1 : Int))))
  else
   some ((most3, ()), ())
 partial_fixpoint
end
theorem uK8 : vi3.Ok us1 ∧ vi4.Ok run_z41 ∧ vi5.Ok run_z42 := by
  refine us1.mutual_partial_correctness vi3.M vi4.M vi5.M ?_ ?_ ?_
  · exact fun r_z40 r_z41 h_z40 h_z41 => vi3.mk_ok E_ok [vi4.okc E_ok h_z41, vi3.okc E_ok h_z40] h_z40
  · exact fun r_z42 h_z42 => vi4.mk_ok E_ok [vi5.okc E_ok h_z42, v30, vj2] vi4.none
  · exact fun r_z40 r_z42 h_z40 h_z42 => vi5.mk_ok E_ok [vi5.okc E_ok h_z42, vi3.okc E_ok h_z40] h_z42
def v32 : ua8 E := vi3.okc E_ok uK8.1
def vp4 : ua8 E := vi4.okc E_ok uK8.2.1
def vV8 : ua8 E := vi5.okc E_ok uK8.2.2
inductive vx6 where
 | start (l0 : (List ua5)) (t1_0 : Int) (t1_1 : Int) (t1_2 : ByteArray) (t1_3 : (List ua3))
def vK8 : Fb E vx6 ((Option ua4) × (((List ua5) × (Unit × Unit)) × (Int × Unit))) Unit := ⟨64, Tryz.f64, (.cons (.sl 103) (.cons (.agg (.cons (Rd.int .i64).w (.cons (Rd.int .i64).w (.cons Rd.str.w (.cons (.sl 25) .nil))))) .nil)), .nil, fun a b => .start a.1 a.2.1.1 a.2.1.2.1 a.2.1.2.2.1 a.2.1.2.2.2.1, { rl := (.cons (Rd.op 128) (.cons (.agg (.cons (.sl 103 false) (.cons Rd.nl .nil))) (.cons (.int .i64) .nil))), rb := .nil, done := [0, 1, 2], ptrs := [(0, 128)] }, [], mkWr [] []⟩
def uz7 : vx6 → Option (((Option ua4) × (((List ua5) × (Unit × Unit)) × (Int × Unit))) × Unit)
 | .start l0 t1_0 t1_1 t1_2 t1_3 =>
  (uX6 (.start l0)) >>= fun t1 =>
  if (t1.1.2.1 != (0 : Int)) = true then
   some ((none, ((l0, ((), ())), (t1.1.2.1, ()))), ())
  else
   (uN2 (.start l0 ([]) t1_0 t1_1 t1_2 t1_3)) >>= fun t2 =>
   if (t2.1.1 != (0 : Int)) = true then
    some ((none, ((l0, ((), ())), (t2.1.1, ()))), ())
   else
    (uk5 (.start l0 ([]) t1_0 t1_1 t1_2 t1_3 (1 : Int) (0 : Int))) >>= fun t3 =>
    if (t3.1.2.1 == (0 : Int)) = true then
     (run_z41 (.start t3.1.1)) >>= fun t4 =>
     (ug5 (.start t4.1.1 (1 : Int) (16 : Int))) >>= fun t5 =>
     if (!t5.1.1) = true then
      some ((t3.1.1, ((l0, ((), ())), ((25 : Int), ()))), ())
     else
      some ((t3.1.1, ((l0, ((), ())), (t3.1.2.1, ()))), ())
    else
     some ((t3.1.1, ((l0, ((), ())), (t3.1.2.1, ()))), ())
def vC2 : ua8 E := vK8.okc E_ok (run := uz7) (vK8.mk_ok E_ok [c_z5, vp4, v27, vV7, v24] vK8.none)
inductive vx7 where
 | start (l0 : (List ua5)) (t1_0 : Int) (t1_1 : Int) (t1_2 : ByteArray) (t1_3 : (List ua3))
def vK9 : Fb E vx7 (Int × (Int × Unit)) Unit := ⟨14, Tryz.f14, (.cons (.sl 103) (.cons (.agg (.cons (Rd.int .i64).w (.cons (Rd.int .i64).w (.cons Rd.str.w (.cons (.sl 25) .nil))))) .nil)), .nil, fun a b => .start a.1 a.2.1.1 a.2.1.2.1 a.2.1.2.2.1 a.2.1.2.2.2.1, { rl := (.cons (.int .i64) (.cons (.int .i64) .nil)), rb := .nil, done := [0, 1] }, [], mkWr [] []⟩
def uX9 : vx7 → Option ((Int × (Int × Unit)) × Unit)
 | .start l0 t1_0 t1_1 t1_2 t1_3 =>
  (uz7 (.start l0 t1_0 t1_1 t1_2 t1_3)) >>= fun t1 =>
  if (t1.1.2.2.1 != (0 : Int)) = true then
   some (((0 : Int), (t1.1.2.2.1, ())), ())
  else
   (run_z41 (.start t1.1.1)) >>= fun t2 =>
   some ((t2.1.1, ((0 : Int), ())), ())
def v33 : ua8 E := vK9.okc E_ok (run := uX9) (vK9.mk_ok E_ok [vp4, vC2] vK9.none)
inductive vx8 where
 | start (name0 : ByteArray) (parts1 : (List ua0))
def vL0 : Fb E vx8 ((ByteArray × (Int × ((List ua0) × Unit))) × Unit) Unit := ⟨60, Tryz.f60, (.cons Rd.str.w (.cons (.sl 37) .nil)), .nil, fun a b => .start a.1 a.2.1, { rl := (.cons (.agg (.cons .str (.cons (.int .i64) (.cons (.sl 37 false) .nil)))) .nil), rb := .nil, done := [0] }, [], mkWr [] []⟩
def uo3 : vx8 → Option (((ByteArray × (Int × ((List ua0) × Unit))) × Unit) × Unit)
 | .start name0 parts1 =>
  some (((name0, ((0 : Int), (parts1, ()))), ()), ())
def v34 : ua8 E := vL0.okc E_ok (run := uo3) (vL0.mk_ok E_ok [] vL0.none)
inductive vx9 where
 | start (v0_0 : ByteArray) (v0_1 : Int) (v0_2 : (List ua0))
def vL1 : Fb E vx9 ((List ua0) × Unit) Unit := ⟨95, Tryz.f95, (.cons (.agg (.cons Rd.str.w (.cons (Rd.int .i64).w (.cons (.sl 37) .nil)))) .nil), .nil, fun a b => .start a.1.1 a.1.2.1 a.1.2.2.1, { rl := (.cons (.sl 37 false) .nil), rb := .nil, done := [0] }, [], mkWr [] []⟩
def uN3 : vx9 → Option (((List ua0) × Unit) × Unit)
 | .start v0_0 v0_1 v0_2 =>
  some ((v0_2, ()), ())
def v35 : ua8 E := vL1.okc E_ok (run := uN3) (vL1.mk_ok E_ok [] vL1.none)
inductive vy0 where
 | start (x0_0 : ByteArray) (x0_1 : Int) (x0_2 : (List ua0)) (depth1 : Int) (B0 : Int)
 | p15 (depth1 : Int) (B0 : Int) (H0 : ByteArray) (H1 : Int) (H2 : (List ua0))
 | p244 (depth1 : Int) (s20 : (List ua0)) (s21 : Int) (s22 : Int) (B0 : Int)
def vA7 : Fb E vy0 (Bool × Unit) ((Int × Unit) × ((Unit × Unit) × (((Unit × (Unit × (Unit × Unit))) × Unit) × Unit))) := ⟨131, Tryz.f131, (.cons (.agg (.cons Rd.str.w (.cons (Rd.int .i64).w (.cons (.sl 37) .nil)))) (.cons (Rd.int .i64).w (.cons (Rd.bp 0 0).w (.cons (Rd.bp 1 0).w (.cons (Rd.bp 2 0).w .nil))))), (.cons (.var 3 (.cons (.int .i64) .nil)) (.cons (.var 136 (.cons (Rd.fn 95 .nil) .nil)) (.cons (.var 173 (.cons (Rd.fn 131 (.cons (.bp 0 0) (.cons (.bp 1 0) (.cons (.bp 2 0) .nil)))) .nil)) .nil))), fun a b => .start a.1.1 a.1.2.1 a.1.2.2.1 a.2.1 b.1.1, { rl := (.cons .bool .nil), rb := (.cons (.var 3 (.cons (.int .i64) .nil)) (.cons (.var 136 (.cons (Rd.fn 95 .nil) .nil)) (.cons (.var 173 (.cons (Rd.fn 131 (.cons (.bp 0 0) (.cons (.bp 1 0) (.cons (.bp 2 0) .nil)))) .nil)) .nil))), keep := 3, done := [0] }, [⟨15, { slots := [1, 3, 4, 5], keep := 3 }, (.cons (.int .i64) (.cons (.bp 1 0) (.cons (.bp 2 0) (.cons (.bp 3 0) .nil)))), (.cons (.var 3 (.cons (.int .i64) .nil)) (.cons (.var 136 (.cons (Rd.fn 95 .nil) .nil)) (.cons (.var 173 (.cons (Rd.fn 131 (.cons (.bp 0 0) (.cons (.bp 1 0) (.cons (.bp 2 0) .nil)))) .nil)) (.cons (.var 37 (.cons .str (.cons (.int .i64) (.cons (.sl 37 false) .nil)))) .nil)))), fun a b => .p15 a.1 b.1.1 b.2.2.2.1.1 b.2.2.2.1.2.1 b.2.2.2.1.2.2.1⟩,
 ⟨244, { slots := [1, 4, 20, 21, 22], keep := 3 }, (.cons (.int .i64) (.cons (.bp 2 0) (.cons (.sl 37 false) (.cons (.int .i64) (.cons (.int .i64) .nil))))), (.cons (.var 3 (.cons (.int .i64) .nil)) (.cons (.var 136 (.cons (Rd.fn 95 .nil) .nil)) (.cons (.var 173 (.cons (Rd.fn 131 (.cons (.bp 0 0) (.cons (.bp 1 0) (.cons (.bp 2 0) .nil)))) .nil)) .nil))), fun a b => .p244 a.1 a.2.2.1 a.2.2.2.1 a.2.2.2.2.1 b.1.1⟩], mkWr [] []⟩
def ug7 : vy0 → Option ((Bool × Unit) × ((Int × Unit) × ((Unit × Unit) × (((Unit × (Unit × (Unit × Unit))) × Unit) × Unit))))
 | .start x0_0 x0_1 x0_2 depth1 B0 =>
  if (decide ((IntKind.wrap .i64 (B0 + (1 : Int))) > (200 : Int))) = true then
   some ((false, ()), ((IntKind.wrap .i64 (B0 + (1 : Int)), ()), (((), ()), ((((), ((), ((), ()))), ()), ()))))
  else
   if (decide (depth1 > (40 : Int))) = true then
    some ((false, ()), ((IntKind.wrap .i64 (B0 + (1 : Int)), ()), (((), ()), ((((), ((), ((), ()))), ()), ()))))
   else
    ug7 (.p15 depth1 (IntKind.wrap .i64 (B0 + (1 : Int))) x0_0 x0_1 x0_2)
 | .p15 depth1 B0 H0 H1 H2 =>
  (uN3 (.start H0 H1 H2)) >>= fun t1 =>
  ug7 (.p244 depth1 t1.1.1 (List.length t1.1.1 : Int) (0 : Int) B0)
 | .p244 depth1 s20 s21 s22 B0 =>
  if (decide (s22 < s21)) = true then
   (idx s20 s22) >>= fun t1 =>
   (ug7 (.start t1.Name t1.Number t1.Parts (IntKind.wrap .i64 (depth1 + (1 : Int))) B0)) >>= fun t2 =>
   if (!t2.1.1) = true then
    some ((false, ()), ((t2.2.1.1, ()), (((), ()), ((((), ((), ((), ()))), ()), ()))))
   else
    ug7 (.p244 depth1 s20 s21 (IntKind.wrap .i64 (s22 + (1 : Int))) t2.2.1.1)
  else
   some ((true, ()), ((B0, ()), (((), ()), ((((), ((), ((), ()))), ()), ()))))
 partial_fixpoint
def v36 : ua8 E := vA7.okc E_ok (run := ug7) (ug7.partial_correctness vA7.M fun run' ih => vA7.mk_ok E_ok [vA7.okc E_ok ih, v35] ih)
inductive vy1 where
 | start (root0_0 : ByteArray) (root0_1 : Int) (root0_2 : (List ua0))
def vL2 : Fb E vy1 (Int × Unit) Unit := ⟨94, Tryz.f94, (.cons (.agg (.cons Rd.str.w (.cons (Rd.int .i64).w (.cons (.sl 37) .nil)))) (.cons (Rd.fn 95 .nil).w .nil)), .nil, fun a b => .start a.1.1 a.1.2.1 a.1.2.2.1, { rl := (.cons (.int .i64) .nil), rb := .nil, done := [0] }, [], mkWr [] []⟩
def uu7 : vy1 → Option ((Int × Unit) × Unit)
 | .start root0_0 root0_1 root0_2 =>
  (ug7 (.start root0_0 root0_1 root0_2 (1 : Int) (0 : Int))) >>= fun t1 =>
  (ub3 (.start t1.1.1 (8 : Int))) >>= fun t2 =>
  some ((t2.1.1, ()), ())
def vO2 : ua8 E := vL2.okc E_ok (run := uu7) (vL2.mk_ok E_ok [c_z7, v36] vL2.none)
inductive vy2 where
 | start (v0_0 : ByteArray) (v0_1 : (List ua6)) (v0_2 : (Option (List (Option ua4)))) (s1 : ByteArray)
def vL3 : Fb E vy2 (Bool × Unit) Unit := ⟨123, Tryz.f123, (.cons (.agg (.cons Rd.str.w (.cons (.sl 58) (.cons (Rd.so 105).w .nil)))) (.cons (Rd.el 9 0).w .nil)), .nil, fun a b => .start a.1.1 a.1.2.1 a.1.2.2.1 a.2.1, { rl := (.cons .bool .nil), rb := .nil, done := [0] }, [], mkWr [] []⟩
def uY0 : vy2 → Option ((Bool × Unit) × Unit)
 | .start v0_0 v0_1 v0_2 s1 =>
  some ((seq v0_0 s1, ()), ())
def v38 : ua8 E := vL3.okc E_ok (run := uY0) (vL3.mk_ok E_ok [] vL3.none)
inductive vy3 where
 | start (s0 : (Option (List data_variant))) (B0 : ByteArray)
 | p52 (s0 : (Option (List data_variant))) (s7 : Int) (s8 : Int) (B0 : ByteArray)
def vL4 : Fb E vy3 (Int × Unit) ((ByteArray × Unit) × Unit) := ⟨122, Tryz.f122, (.cons (Rd.so 125).w (.cons (Rd.fn 123 (.cons (.bp 0 0) .nil)).w .nil)), (.cons (.var 9 (.cons .str .nil)) .nil), fun a b => .start a.1 b.1.1, { rl := (.cons (.int .i64) .nil), rb := (.cons (.var 9 (.cons .str .nil)) .nil), keep := 1, done := [0] }, [⟨52, { slots := [0, 1, 7, 8], keep := 1 }, (.cons (Rd.so 125) (.cons (Rd.fn 123 (.cons (.bp 0 0) .nil)) (.cons (.int .i64) (.cons (.int .i64) .nil)))), (.cons (.var 9 (.cons .str .nil)) .nil), fun a b => .p52 a.1 a.2.2.1 a.2.2.2.1 b.1.1⟩], mkWr [] []⟩
def uz8 : vy3 → Option ((Int × Unit) × ((ByteArray × Unit) × Unit))
 | .start s0 B0 =>
  uz8 (.p52 s0 (List.length (Option.getD s0 []) : Int) (0 : Int) B0)
 | .p52 s0 s7 s8 B0 =>
  if (decide (s8 < s7)) = true then
   (idx (Option.getD s0 []) s8) >>= fun t1 =>
   (uY0 (.start t1.name t1.fields t1.parts B0)) >>= fun t2 =>
   if t2.1.1 = true then
    some ((s8, ()), ((B0, ()), ()))
   else
    uz8 (.p52 s0 s7 (IntKind.wrap .i64 (s8 + (1 : Int))) B0)
  else
   some (((-1 : Int), ()), ((B0, ()), ()))
 partial_fixpoint
def v39 : ua8 E := vL4.okc E_ok (run := uz8) (uz8.partial_correctness vL4.M fun run' ih => vL4.mk_ok E_ok [v38] ih)
inductive vy4 where
 | start (x0 : (Option ua4)) (name1 : ByteArray)
def vL5 : Fb E vy4 (Int × Unit) Unit := ⟨80, Tryz.f80, (.cons (Rd.op 128).w (.cons Rd.str.w .nil)), .nil, fun a b => .start a.1 a.2.1, { rl := (.cons (.int .i64) .nil), rb := .nil, done := [0] }, [], mkWr [] []⟩
def uN4 : vy4 → Option ((Int × Unit) × Unit)
 | .start x0 name1 =>
  x0 >>= fun t1 =>
  (uz8 (.start t1.constructors name1)) >>= fun t2 =>
  some ((t2.1.1, ()), ())
def vV9 : ua8 E := vL5.okc E_ok (run := uN4) (vL5.mk_ok E_ok [v39] vL5.none)
inductive vy5 where
 | start (i0 : Int) (part1_0 : ByteArray) (part1_1 : Int) (part1_2 : (List ua0)) (C0 : ByteArray) (C1 : (List ua6)) (C2 : (Option (List (Option ua4))))
def vo7 : Fb E vy5 (Int × Unit) ((ByteArray × ((List ua6) × ((Option (List (Option ua4))) × Unit))) × Unit) := ⟨143, Tryz.f143, (.cons (Rd.int .i64).w (.cons (.agg (.cons Rd.str.w (.cons (Rd.int .i64).w (.cons (.sl 37) .nil)))) (.cons (Rd.bp 0 0).w .nil))), (.cons (.var 125 (.cons .str (.cons (.sl 58 false) (.cons (Rd.so 105) .nil)))) .nil), fun a b => .start a.1 a.2.1.1 a.2.1.2.1 a.2.1.2.2.1 b.1.1 b.1.2.1 b.1.2.2.1, { rl := (.cons (.int .i64) .nil), rb := (.cons (.var 125 (.cons .str (.cons (.sl 58 false) (.cons (Rd.so 105) .nil)))) .nil), keep := 1, done := [0] }, [], mkWr [] []⟩
inductive vn4 where
 | start (x0 : (Option ua4)) (v1_0 : ByteArray) (v1_1 : Int) (v1_2 : (List ua0))
def vi6 : Fb E vn4 (Int × Unit) Unit := ⟨109, Tryz.f109, (.cons (Rd.op 128).w (.cons (.agg (.cons Rd.str.w (.cons (Rd.int .i64).w (.cons (.sl 37) .nil)))) .nil)), .nil, fun a b => .start a.1 a.2.1.1 a.2.1.2.1 a.2.1.2.2.1, { rl := (.cons (.int .i64) .nil), rb := .nil, done := [0] }, [], mkWr [] []⟩
inductive vy6 where
 | start (l0 : (List ua0)) (C0 : ByteArray) (C1 : (List ua6)) (C2 : (Option (List (Option ua4))))
 | p52 (s9 : (List ua0)) (s10 : Int) (s11 : Int) (C0 : ByteArray) (C1 : (List ua6)) (C2 : (Option (List (Option ua4))))
def vo8 : Fb E vy6 (Int × (Int × Unit)) ((ByteArray × ((List ua6) × ((Option (List (Option ua4))) × Unit))) × Unit) := ⟨134, Tryz.f134, (.cons (.sl 37) (.cons (Rd.fn 143 (.cons (.bp 0 0) .nil)).w .nil)), (.cons (.var 125 (.cons .str (.cons (.sl 58 false) (.cons (Rd.so 105) .nil)))) .nil), fun a b => .start a.1 b.1.1 b.1.2.1 b.1.2.2.1, { rl := (.cons (.int .i64) (.cons (.int .i64) .nil)), rb := (.cons (.var 125 (.cons .str (.cons (.sl 58 false) (.cons (Rd.so 105) .nil)))) .nil), keep := 1, done := [0, 1] }, [⟨52, { slots := [1, 9, 10, 11], keep := 1 }, (.cons (Rd.fn 143 (.cons (.bp 0 0) .nil)) (.cons (.sl 37 false) (.cons (.int .i64) (.cons (.int .i64) .nil)))), (.cons (.var 125 (.cons .str (.cons (.sl 58 false) (.cons (Rd.so 105) .nil)))) .nil), fun a b => .p52 a.2.1 a.2.2.1 a.2.2.2.1 b.1.1 b.1.2.1 b.1.2.2.1⟩], mkWr [] []⟩
mutual
def uN5 : vy5 → Option ((Int × Unit) × ((ByteArray × ((List ua6) × ((Option (List (Option ua4))) × Unit))) × Unit))
 | .start i0 part1_0 part1_1 part1_2 C0 C1 C2 =>
  (idx (Option.getD C2 []) i0) >>= fun t1 =>
  (run_z53 (.start t1 part1_0 part1_1 part1_2)) >>= fun t2 =>
  some ((t2.1.1, ()), ((C0, (C1, (C2, ()))), ()))
 partial_fixpoint
def run_z53 : vn4 → Option ((Int × Unit) × Unit)
 | .start x0 v1_0 v1_1 v1_2 =>
  (us0 (.start x0)) >>= fun t1 =>
  if t1.1.1 = true then
   if (seq v1_0 (⟨#[]⟩ : ByteArray)) = true then
    (ub3 (.start ((List.length v1_2 : Int) == (0 : Int)) (3 : Int))) >>= fun t2 =>
    x0 >>= fun t3 =>
    if (decide ((0 : Int) ≤ t3.bits)) = true then
     (ug5 (.start v1_1 (0 : Int) (IntKind.wrap .i64 ((shl .i64 (1 : Int) t3.bits) - (1 : Int))))) >>= fun t4 =>
     (ub3 (.start t4.1.1 (2 : Int))) >>= fun t5 =>
     (ub9 (.start ([t2.1.1, t5.1.1] : List Int))) >>= fun t6 =>
     some ((t6.1.1, ()), ())
    else none
   else
    (ub3 (.start false (3 : Int))) >>= fun t7 =>
    x0 >>= fun t8 =>
    if (decide ((0 : Int) ≤ t8.bits)) = true then
     (ug5 (.start v1_1 (0 : Int) (IntKind.wrap .i64 ((shl .i64 (1 : Int) t8.bits) - (1 : Int))))) >>= fun t9 =>
     (ub3 (.start t9.1.1 (2 : Int))) >>= fun t10 =>
     (ub9 (.start ([t7.1.1, t10.1.1] : List Int))) >>= fun t11 =>
     some ((t11.1.1, ()), ())
    else none
  else
   (uN4 (.start x0 v1_0)) >>= fun t12 =>
   if (decide (t12.1.1 < (0 : Int))) = true then
    some (((6 : Int), ()), ())
   else
    x0 >>= fun t13 =>
    (idx (Option.getD t13.constructors []) t12.1.1) >>= fun t14 =>
    (ub3 (.start (v1_1 == (0 : Int)) (3 : Int))) >>= fun t15 =>
    (ub3 (.start ((List.length v1_2 : Int) == (List.length (Option.getD t14.parts []) : Int)) (10 : Int))) >>= fun t16 =>
    (ub9 (.start ([t15.1.1, t16.1.1] : List Int))) >>= fun t17 =>
    if (t17.1.1 != (0 : Int)) = true then
     some ((t17.1.1, ()), ())
    else
     (run_z54 (.start v1_2 t14.name t14.fields t14.parts)) >>= fun t18 =>
     some ((t18.1.2.1, ()), ())
 partial_fixpoint
def run_z54 : vy6 → Option ((Int × (Int × Unit)) × ((ByteArray × ((List ua6) × ((Option (List (Option ua4))) × Unit))) × Unit))
 | .start l0 C0 C1 C2 =>
  run_z54 (.p52 l0 (List.length l0 : Int) (0 : Int) C0 C1 C2)
 | .p52 s9 s10 s11 C0 C1 C2 =>
  if (decide (s11 < s10)) = true then
   (idx s9 s11) >>= fun t1 =>
   (uN5 (.start s11 t1.Name t1.Number t1.Parts C0 C1 C2)) >>= fun t2 =>
   if (t2.1.1 != (0 : Int)) = true then
    some ((s11, (t2.1.1, ())), ((t2.2.1.1, (t2.2.1.2.1, (t2.2.1.2.2.1, ()))), ()))
   else
    run_z54 (.p52 s9 s10 (IntKind.wrap .i64 (s11 + (1 : Int))) t2.2.1.1 t2.2.1.2.1 t2.2.1.2.2.1)
  else
   some (((0 : Int), ((0 : Int), ())), ((C0, (C1, (C2, ()))), ()))
 partial_fixpoint
end
theorem vr1 : vo7.Ok uN5 ∧ vi6.Ok run_z53 ∧ vo8.Ok run_z54 := by
  refine uN5.mutual_partial_correctness vo7.M vi6.M vo8.M ?_ ?_ ?_
  · exact fun r_z53 h_z53 => vo7.mk_ok E_ok [vi6.okc E_ok h_z53] vo7.none
  · exact fun r_z54 h_z54 => vi6.mk_ok E_ok [vo8.okc E_ok h_z54, vV9, u59, c_z5, c_z7, vj2] vi6.none
  · exact fun r_z52 r_z54 h_z52 h_z54 => vo8.mk_ok E_ok [vo8.okc E_ok h_z54, vo7.okc E_ok h_z52] h_z54
def v40 : ua8 E := vi6.okc E_ok vr1.2.1
inductive vy7 where
 | start (l0 : (List ua5)) (t1_0 : Int) (t1_1 : Int) (t1_2 : ByteArray) (t1_3 : (List ua3)) (v2_0 : ByteArray) (v2_1 : Int) (v2_2 : (List ua0))
 | p15 (x8 : (Option ua4)) (e10 : Int) (C0 : ByteArray) (C1 : Int) (C2 : (List ua0))
def vL6 : Fb E vy7 ((Option ua4) × (Int × Unit)) Unit := ⟨73, Tryz.f73, (.cons (.sl 103) (.cons (.agg (.cons (Rd.int .i64).w (.cons (Rd.int .i64).w (.cons Rd.str.w (.cons (.sl 25) .nil))))) (.cons (.agg (.cons Rd.str.w (.cons (Rd.int .i64).w (.cons (.sl 37) .nil)))) .nil))), .nil, fun a b => .start a.1 a.2.1.1 a.2.1.2.1 a.2.1.2.2.1 a.2.1.2.2.2.1 a.2.2.1.1 a.2.2.1.2.1 a.2.2.1.2.2.1, { rl := (.cons (Rd.op 128) (.cons (.int .i64) .nil)), rb := .nil, done := [0, 1] }, [⟨15, { slots := [5, 8, 10] }, (.cons (.bp 0 0) (.cons (Rd.op 128) (.cons (.int .i64) .nil))), (.cons (.var 37 (.cons .str (.cons (.int .i64) (.cons (.sl 37 false) .nil)))) .nil), fun a b => .p15 a.2.1 a.2.2.1 b.1.1 b.1.2.1 b.1.2.2.1⟩], mkWr [] []⟩
def uz9 : vy7 → Option (((Option ua4) × (Int × Unit)) × Unit)
 | .start l0 t1_0 t1_1 t1_2 t1_3 v2_0 v2_1 v2_2 =>
  (uz7 (.start l0 t1_0 t1_1 t1_2 t1_3)) >>= fun t1 =>
  if (t1.1.2.2.1 == (0 : Int)) = true then
   (uu7 (.start v2_0 v2_1 v2_2)) >>= fun t2 =>
   uz9 (.p15 t1.1.1 t2.1.1 v2_0 v2_1 v2_2)
  else
   uz9 (.p15 t1.1.1 t1.1.2.2.1 v2_0 v2_1 v2_2)
 | .p15 x8 e10 C0 C1 C2 =>
  if (e10 == (0 : Int)) = true then
   (run_z53 (.start x8 C0 C1 C2)) >>= fun t1 =>
   some ((x8, (t1.1.1, ())), ())
  else
   some ((x8, (e10, ())), ())
 partial_fixpoint
def v41 : ua8 E := vL6.okc E_ok (run := uz9) (uz9.partial_correctness vL6.M fun run' ih => vL6.mk_ok E_ok [v40, vO2, vC2] ih)
inductive vy8 where
 | start (x0 : (Option ua4)) (v1_0 : ByteArray) (v1_1 : Int) (v1_2 : (List ua0))
 | p500 (x0 : (Option ua4)) (tag5 : Int) (fields6 : Int) (s24 : (Option (List (Option ua4)))) (s25 : Int) (s26 : Int) (C0 : ByteArray) (C1 : Int) (C2 : (List ua0))
def vA8 : Fb E vy8 (Int × Unit) Unit := ⟨74, Tryz.f74, (.cons (Rd.op 128).w (.cons (.agg (.cons Rd.str.w (.cons (Rd.int .i64).w (.cons (.sl 37) .nil)))) .nil)), .nil, fun a b => .start a.1 a.2.1.1 a.2.1.2.1 a.2.1.2.2.1, { rl := (.cons (.int .i64) .nil), rb := .nil, done := [0] }, [⟨500, { slots := [0, 3, 5, 6, 24, 25, 26] }, (.cons (Rd.op 128) (.cons (.bp 0 0) (.cons (.int .i64) (.cons (.int .i64) (.cons (Rd.so 105) (.cons (.int .i64) (.cons (.int .i64) .nil))))))), (.cons (.var 37 (.cons .str (.cons (.int .i64) (.cons (.sl 37 false) .nil)))) .nil), fun a b => .p500 a.1 a.2.2.1 a.2.2.2.1 a.2.2.2.2.1 a.2.2.2.2.2.1 a.2.2.2.2.2.2.1 b.1.1 b.1.2.1 b.1.2.2.1⟩], mkWr [] []⟩
def uu8 : vy8 → Option ((Int × Unit) × Unit)
 | .start x0 v1_0 v1_1 v1_2 =>
  (us0 (.start x0)) >>= fun t1 =>
  if t1.1.1 = true then
   some ((v1_1, ()), ())
  else
   (uN4 (.start x0 v1_0)) >>= fun t2 =>
   x0 >>= fun t3 =>
   (idx (Option.getD t3.constructors []) t2.1.1) >>= fun t4 =>
   uu8 (.p500 x0 t2.1.1 (0 : Int) t4.parts (List.length (Option.getD t4.parts []) : Int) (0 : Int) v1_0 v1_1 v1_2)
 | .p500 x0 tag5 fields6 s24 s25 s26 C0 C1 C2 =>
  if (decide (s26 < s25)) = true then
   (idx (Option.getD s24 []) s26) >>= fun t1 =>
   (run_z41 (.start t1)) >>= fun t2 =>
   if (decide ((0 : Int) ≤ t2.1.1)) = true then
    (idx C2 s26) >>= fun t3 =>
    (uu8 (.start t1 t3.Name t3.Number t3.Parts)) >>= fun t4 =>
    uu8 (.p500 x0 tag5 (bits .or .i64 (shl .i64 fields6 t2.1.1) t4.1.1) s24 s25 (IntKind.wrap .i64 (s26 + (1 : Int))) C0 C1 C2)
   else none
  else
   (run_z42 (.start x0)) >>= fun t5 =>
   if (decide ((0 : Int) ≤ t5.1.1)) = true then
    some ((bits .or .i64 (shl .i64 tag5 t5.1.1) fields6, ()), ())
   else none
 partial_fixpoint
def v42 : ua8 E := vA8.okc E_ok (run := uu8) (uu8.partial_correctness vA8.M fun run' ih => vA8.mk_ok E_ok [vA8.okc E_ok ih, vV8, vp4, vV9, vj2] ih)
inductive vy9 where
 | start (l0 : (List ua5)) (t1_0 : Int) (t1_1 : Int) (t1_2 : ByteArray) (t1_3 : (List ua3)) (v2_0 : ByteArray) (v2_1 : Int) (v2_2 : (List ua0))
def vL7 : Fb E vy9 (Int × (Int × Unit)) Unit := ⟨21, Tryz.f21, (.cons (.sl 103) (.cons (.agg (.cons (Rd.int .i64).w (.cons (Rd.int .i64).w (.cons Rd.str.w (.cons (.sl 25) .nil))))) (.cons (.agg (.cons Rd.str.w (.cons (Rd.int .i64).w (.cons (.sl 37) .nil)))) .nil))), .nil, fun a b => .start a.1 a.2.1.1 a.2.1.2.1 a.2.1.2.2.1 a.2.1.2.2.2.1 a.2.2.1.1 a.2.2.1.2.1 a.2.2.1.2.2.1, { rl := (.cons (.int .i64) (.cons (.int .i64) .nil)), rb := .nil, done := [0, 1] }, [], mkWr [] []⟩
def uY1 : vy9 → Option ((Int × (Int × Unit)) × Unit)
 | .start l0 t1_0 t1_1 t1_2 t1_3 v2_0 v2_1 v2_2 =>
  (uz9 (.start l0 t1_0 t1_1 t1_2 t1_3 v2_0 v2_1 v2_2)) >>= fun t1 =>
  if (t1.1.2.1 != (0 : Int)) = true then
   some (((0 : Int), (t1.1.2.1, ())), ())
  else
   (uu8 (.start t1.1.1 v2_0 v2_1 v2_2)) >>= fun t2 =>
   some ((t2.1.1, ((0 : Int), ())), ())
def v43 : ua8 E := vL7.okc E_ok (run := uY1) (vL7.mk_ok E_ok [v42, v41] vL7.none)
inductive vz0 where
 | start (x0 : (Option ua4)) (n1 : Int)
 | p8180 (fields7 : Int) (low9 : Int) (s54 : (Option (List (Option ua4)))) (s55 : Int) (s56 : Int) (C0 : ByteArray) (C1 : Int) (B1 : (List ua0))
def vA9 : Fb E vz0 ((ByteArray × (Int × ((List ua0) × Unit))) × (Bool × Unit)) Unit := ⟨71, Tryz.f71, (.cons (Rd.op 128).w (.cons (Rd.int .i64).w .nil)), .nil, fun a b => .start a.1 a.2.1, { rl := (.cons (.agg (.cons .str (.cons (.int .i64) (.cons (.sl 37 false) .nil)))) (.cons .bool .nil)), rb := .nil, deep := [(false, 0, 2, 37)], done := [0, 1] }, [⟨8180, { slots := [4, 7, 9, 54, 55, 56], up := [(true, 4, 2, 37)] }, (.cons (.bp 0 0) (.cons (.int .i64) (.cons (.int .i64) (.cons (Rd.so 105) (.cons (.int .i64) (.cons (.int .i64) .nil)))))), (.cons (.var 37 (.cons .str (.cons (.int .i64) (.cons (Rd.rw 1) .nil)))) (.cons (.row 37 false) .nil)), fun a b => .p8180 a.2.1 a.2.2.1 a.2.2.2.1 a.2.2.2.2.1 a.2.2.2.2.2.1 b.1.1 b.1.2.1 b.2.1⟩], mkWr [] []⟩
def uu9 : vz0 → Option (((ByteArray × (Int × ((List ua0) × Unit))) × (Bool × Unit)) × Unit)
 | .start x0 n1 =>
  (us0 (.start x0)) >>= fun t1 =>
  if t1.1.1 = true then
   some ((((⟨#[]⟩ : ByteArray), (n1, ([], ()))), (true, ())), ())
  else
   (run_z42 (.start x0)) >>= fun t2 =>
   if (decide ((0 : Int) ≤ t2.1.1)) = true then
    (run_z42 (.start x0)) >>= fun t3 =>
    if (decide ((0 : Int) ≤ t3.1.1)) = true then
     x0 >>= fun t4 =>
     if (decide ((shr .i64 n1 t2.1.1) ≥ (List.length (Option.getD t4.constructors []) : Int))) = true then
      some ((((⟨#[]⟩ : ByteArray), ((0 : Int), ([], ()))), (false, ())), ())
     else
      x0 >>= fun t5 =>
      (idx (Option.getD t5.constructors []) (shr .i64 n1 t2.1.1)) >>= fun t6 =>
      (us1 (.start t6.name t6.fields t6.parts)) >>= fun t7 =>
      if (decide ((0 : Int) ≤ t7.1.1)) = true then
       if ((shr .i64 (bits .and .i64 n1 (IntKind.wrap .i64 ((shl .i64 (1 : Int) t3.1.1) - (1 : Int)))) t7.1.1) != (0 : Int)) = true then
        some ((((⟨#[]⟩ : ByteArray), ((0 : Int), ([], ()))), (false, ())), ())
       else
        uu9 (.p8180 (bits .and .i64 n1 (IntKind.wrap .i64 ((shl .i64 (1 : Int) t3.1.1) - (1 : Int)))) t7.1.1 t6.parts (List.length (Option.getD t6.parts []) : Int) (0 : Int) t6.name (0 : Int) ([] : List ua0))
      else none
    else none
   else none
 | .p8180 fields7 low9 s54 s55 s56 C0 C1 B1 =>
  if (decide (s56 < s55)) = true then
   (idx (Option.getD s54 []) s56) >>= fun t1 =>
   (run_z41 (.start t1)) >>= fun t2 =>
   if (decide ((0 : Int) ≤ (IntKind.wrap .i64 (low9 - t2.1.1)))) = true then
    (run_z41 (.start t1)) >>= fun t3 =>
    if (decide ((0 : Int) ≤ t3.1.1)) = true then
     (uu9 (.start t1 (bits .and .i64 (shr .i64 fields7 (IntKind.wrap .i64 (low9 - t2.1.1))) (IntKind.wrap .i64 ((shl .i64 (1 : Int) t3.1.1) - (1 : Int)))))) >>= fun t4 =>
     if (!t4.1.2.1) = true then
      some (((C0, (C1, (B1, ()))), (false, ())), ())
     else
      if (fits (List.length B1) (List.length ([(⟨t4.1.1.1, t4.1.1.2.1, t4.1.1.2.2.1⟩ : ua0)] : List ua0)) 48) = true then
       uu9 (.p8180 fields7 (IntKind.wrap .i64 (low9 - t2.1.1)) s54 s55 (IntKind.wrap .i64 (s56 + (1 : Int))) C0 C1 (B1 ++ ([(⟨t4.1.1.1, t4.1.1.2.1, t4.1.1.2.2.1⟩ : ua0)] : List ua0)))
      else none
    else none
   else none
  else
   some (((C0, (C1, (B1, ()))), (true, ())), ())
 partial_fixpoint
def v44 : ua8 E := vA9.okc E_ok (run := uu9) (uu9.partial_correctness vA9.M fun run' ih => vA9.mk_ok E_ok [vA9.okc E_ok ih, vp4, v32, vV8, vj2] ih)
inductive vz1 where
 | start (l0 : (List ua5)) (t1_0 : Int) (t1_1 : Int) (t1_2 : ByteArray) (t1_3 : (List ua3)) (bits2 : Int)
def vL8 : Fb E vz1 ((ByteArray × (Int × ((List ua0) × Unit))) × (Int × Unit)) Unit := ⟨19, Tryz.f19, (.cons (.sl 103) (.cons (.agg (.cons (Rd.int .i64).w (.cons (Rd.int .i64).w (.cons Rd.str.w (.cons (.sl 25) .nil))))) (.cons (Rd.int .i64).w .nil))), .nil, fun a b => .start a.1 a.2.1.1 a.2.1.2.1 a.2.1.2.2.1 a.2.1.2.2.2.1 a.2.2.1, { rl := (.cons (.agg (.cons .str (.cons (.int .i64) (.cons (.sl 37 false) .nil)))) (.cons (.int .i64) .nil)), rb := .nil, deep := [(false, 0, 2, 37)], done := [0, 1] }, [], mkWr [] []⟩
def uY2 : vz1 → Option (((ByteArray × (Int × ((List ua0) × Unit))) × (Int × Unit)) × Unit)
 | .start l0 t1_0 t1_1 t1_2 t1_3 bits2 =>
  (uz7 (.start l0 t1_0 t1_1 t1_2 t1_3)) >>= fun t1 =>
  (ub9 (.start ([t1.1.2.2.1] : List Int))) >>= fun t2 =>
  if (t2.1.1 != (0 : Int)) = true then
   some ((((⟨#[]⟩ : ByteArray), ((0 : Int), ([], ()))), (t2.1.1, ())), ())
  else
   (run_z41 (.start t1.1.1)) >>= fun t3 =>
   if (decide ((0 : Int) ≤ t3.1.1)) = true then
    (ug5 (.start bits2 (0 : Int) (IntKind.wrap .i64 ((shl .i64 (1 : Int) t3.1.1) - (1 : Int))))) >>= fun t4 =>
    if (!t4.1.1) = true then
     some ((((⟨#[]⟩ : ByteArray), ((0 : Int), ([], ()))), ((2 : Int), ())), ())
    else
     (uu9 (.start t1.1.1 bits2)) >>= fun t5 =>
     if (!t5.1.2.1) = true then
      some ((((⟨#[]⟩ : ByteArray), ((0 : Int), ([], ()))), ((3 : Int), ())), ())
     else
      some (((t5.1.1.1, (t5.1.1.2.1, (t5.1.1.2.2.1, ()))), ((0 : Int), ())), ())
   else none
def v45 : ua8 E := vL8.okc E_ok (run := uY2) (vL8.mk_ok E_ok [v44, c_z5, vp4, u59, vC2] vL8.none)
inductive vn5 where
 | start (v0_0 : ByteArray) (v0_1 : (List ua6)) (v0_2 : (Option (List (Option ua4))))
 | p116 (n3 : Int) (s7 : (Option (List (Option ua4)))) (s8 : Int) (s9 : Int)
def vi7 : Fb E vn5 (Int × Unit) Unit := ⟨108, Tryz.f108, (.cons (.agg (.cons Rd.str.w (.cons (.sl 58) (.cons (Rd.so 105).w .nil)))) .nil), .nil, fun a b => .start a.1.1 a.1.2.1 a.1.2.2.1, { rl := (.cons (.int .i64) .nil), rb := .nil, done := [0] }, [⟨116, { slots := [3, 7, 8, 9] }, (.cons (.int .i64) (.cons (Rd.so 105) (.cons (.int .i64) (.cons (.int .i64) .nil)))), .nil, fun a b => .p116 a.1 a.2.1 a.2.2.1 a.2.2.2.1⟩], mkWr [] []⟩
inductive vn6 where
 | start (x0 : (Option ua4))
 | p244 (sum3 : Int) (s16 : (Option (List data_variant))) (s17 : Int) (s18 : Int)
def vi8 : Fb E vn6 (Int × Unit) Unit := ⟨68, Tryz.f68, (.cons (Rd.op 128).w .nil), .nil, fun a b => .start a.1, { rl := (.cons (.int .i64) .nil), rb := .nil, done := [0] }, [⟨244, { slots := [3, 16, 17, 18] }, (.cons (.int .i64) (.cons (Rd.so 125) (.cons (.int .i64) (.cons (.int .i64) .nil)))), .nil, fun a b => .p244 a.1 a.2.1 a.2.2.1 a.2.2.2.1⟩], mkWr [] []⟩
mutual
def us2 : vn5 → Option ((Int × Unit) × Unit)
 | .start v0_0 v0_1 v0_2 =>
  us2 (.p116 (1 : Int) v0_2 (List.length (Option.getD v0_2 []) : Int) (0 : Int))
 | .p116 n3 s7 s8 s9 =>
  if (decide (s9 < s8)) = true then
   (idx (Option.getD s7 []) s9) >>= fun t1 =>
   (run_z61 (.start t1)) >>= fun t2 =>
   us2 (.p116 (IntKind.wrap .i64 (n3 * t2.1.1)) s7 s8 (IntKind.wrap .i64 (s9 + (1 : Int))))
  else
   some ((n3, ()), ())
 partial_fixpoint
def run_z61 : vn6 → Option ((Int × Unit) × Unit)
 | .start x0 =>
  (us0 (.start x0)) >>= fun t1 =>
  if t1.1.1 = true then
   x0 >>= fun t2 =>
   if (decide ((0 : Int) ≤ t2.bits)) = true then
    some ((shl .i64 (1 : Int) t2.bits, ()), ())
   else none
  else
   x0 >>= fun t3 =>
   run_z61 (.p244 (0 : Int) t3.constructors (List.length (Option.getD t3.constructors []) : Int) (0 : Int))
 | .p244 sum3 s16 s17 s18 =>
  if (decide (s18 < s17)) = true then
   (idx (Option.getD s16 []) s18) >>= fun t1 =>
   (us2 (.start t1.name t1.fields t1.parts)) >>= fun t2 =>
   run_z61 (.p244 (IntKind.wrap .i64 (sum3 + t2.1.1)) s16 s17 (IntKind.wrap .i64 (s18 + (1 : Int))))
  else
   some ((sum3, ()), ())
 partial_fixpoint
end
theorem u14 : vi7.Ok us2 ∧ vi8.Ok run_z61 := by
  refine us2.mutual_partial_correctness vi7.M vi8.M ?_ ?_
  · exact fun r_z60 r_z61 h_z60 h_z61 => vi7.mk_ok E_ok [vi8.okc E_ok h_z61, vi7.okc E_ok h_z60] h_z60
  · exact fun r_z60 r_z61 h_z60 h_z61 => vi8.mk_ok E_ok [vi8.okc E_ok h_z61, vi7.okc E_ok h_z60, vj2] h_z61
def v47 : ua8 E := vi7.okc E_ok u14.1
def vW0 : ua8 E := vi8.okc E_ok u14.2
inductive vz2 where
 | start (x0 : (Option ua4)) (index1 : Int)
 | p116 (index1 : Int) (s18 : (Option (List data_variant))) (s19 : Int) (s20 : Int) (C0 : ByteArray) (C1 : Int)
 | p478452 (index1 : Int) (n7 : Int) (s36 : (Option (List (Option ua4)))) (s37 : Int) (s38 : Int) (C0 : ByteArray) (C1 : Int) (D0 : ByteArray) (D1 : Int) (B2 : (List ua0))
def vB0 : Fb E vz2 ((ByteArray × (Int × ((List ua0) × Unit))) × Unit) Unit := ⟨84, Tryz.f84, (.cons (Rd.op 128).w (.cons (Rd.int .i64).w .nil)), .nil, fun a b => .start a.1 a.2.1, { rl := (.cons (.agg (.cons .str (.cons (.int .i64) (.cons (.sl 37 false) .nil)))) .nil), rb := .nil, deep := [(false, 0, 2, 37)], done := [0] }, [⟨116, { slots := [1, 4, 18, 19, 20] }, (.cons (.int .i64) (.cons (.bp 0 0) (.cons (Rd.so 125) (.cons (.int .i64) (.cons (.int .i64) .nil))))), (.cons (.var 37 (.cons .str (.cons (.int .i64) (.cons Rd.nl .nil)))) .nil), fun a b => .p116 a.1 a.2.2.1 a.2.2.2.1 a.2.2.2.2.1 b.1.1 b.1.2.1⟩,
 ⟨478452, { slots := [1, 4, 7, 8, 36, 37, 38], up := [(true, 8, 2, 37)] }, (.cons (.int .i64) (.cons (.bp 0 0) (.cons (.int .i64) (.cons (.bp 1 0) (.cons (Rd.so 105) (.cons (.int .i64) (.cons (.int .i64) .nil))))))), (.cons (.var 37 (.cons .str (.cons (.int .i64) (.cons Rd.nl .nil)))) (.cons (.var 37 (.cons .str (.cons (.int .i64) (.cons (Rd.rw 2) .nil)))) (.cons (.row 37 false) .nil))), fun a b => .p478452 a.1 a.2.2.1 a.2.2.2.2.1 a.2.2.2.2.2.1 a.2.2.2.2.2.2.1 b.1.1 b.1.2.1 b.2.1.1 b.2.1.2.1 b.2.2.1⟩], mkWr [] []⟩
def uo4 : vz2 → Option (((ByteArray × (Int × ((List ua0) × Unit))) × Unit) × Unit)
 | .start x0 index1 =>
  (us0 (.start x0)) >>= fun t1 =>
  if t1.1.1 = true then
   some ((((⟨#[]⟩ : ByteArray), (index1, ([], ()))), ()), ())
  else
   x0 >>= fun t2 =>
   uo4 (.p116 index1 t2.constructors (List.length (Option.getD t2.constructors []) : Int) (0 : Int) (⟨#[]⟩ : ByteArray) (0 : Int))
 | .p116 index1 s18 s19 s20 C0 C1 =>
  if (decide (s20 < s19)) = true then
   (idx (Option.getD s18 []) s20) >>= fun t1 =>
   (us2 (.start t1.name t1.fields t1.parts)) >>= fun t2 =>
   if (decide (index1 ≥ t2.1.1)) = true then
    uo4 (.p116 (IntKind.wrap .i64 (index1 - t2.1.1)) s18 s19 (IntKind.wrap .i64 (s20 + (1 : Int))) C0 C1)
   else
    uo4 (.p478452 index1 t2.1.1 t1.parts (List.length (Option.getD t1.parts []) : Int) (0 : Int) C0 C1 t1.name (0 : Int) ([] : List ua0))
  else
   some ((((⟨#[]⟩ : ByteArray), ((0 : Int), ([], ()))), ()), ())
 | .p478452 index1 n7 s36 s37 s38 C0 C1 D0 D1 B2 =>
  if (decide (s38 < s37)) = true then
   (idx (Option.getD s36 []) s38) >>= fun t1 =>
   (run_z61 (.start t1)) >>= fun t2 =>
   if (!(t2.1.1 == (0 : Int))) = true then
    if (!((IntKind.wrap .i64 (Int.tdiv n7 t2.1.1)) == (0 : Int))) = true then
     (uo4 (.start t1 (IntKind.wrap .i64 (Int.tdiv index1 (IntKind.wrap .i64 (Int.tdiv n7 t2.1.1)))))) >>= fun t3 =>
     if (fits (List.length B2) (List.length ([(⟨t3.1.1.1, t3.1.1.2.1, t3.1.1.2.2.1⟩ : ua0)] : List ua0)) 48) = true then
      if (!((IntKind.wrap .i64 (Int.tdiv n7 t2.1.1)) == (0 : Int))) = true then
       uo4 (.p478452 (Int.tmod index1 (IntKind.wrap .i64 (Int.tdiv n7 t2.1.1))) (IntKind.wrap .i64 (Int.tdiv n7 t2.1.1)) s36 s37 (IntKind.wrap .i64 (s38 + (1 : Int))) C0 C1 D0 D1 (B2 ++ ([(⟨t3.1.1.1, t3.1.1.2.1, t3.1.1.2.2.1⟩ : ua0)] : List ua0)))
      else none
     else none
    else none
   else none
  else
   some (((D0, (D1, (B2, ()))), ()), ())
 partial_fixpoint
def v48 : ua8 E := vB0.okc E_ok (run := uo4) (uo4.partial_correctness vB0.M fun run' ih => vB0.mk_ok E_ok [vB0.okc E_ok ih, vW0, v47, vj2] ih)
inductive vz3 where
 | start (l0 : (List ua5)) (t1_0 : Int) (t1_1 : Int) (t1_2 : ByteArray) (t1_3 : (List ua3)) (index2 : Int)
def vL9 : Fb E vz3 ((ByteArray × (Int × ((List ua0) × Unit))) × (Int × Unit)) Unit := ⟨33, Tryz.f33, (.cons (.sl 103) (.cons (.agg (.cons (Rd.int .i64).w (.cons (Rd.int .i64).w (.cons Rd.str.w (.cons (.sl 25) .nil))))) (.cons (Rd.int .i64).w .nil))), .nil, fun a b => .start a.1 a.2.1.1 a.2.1.2.1 a.2.1.2.2.1 a.2.1.2.2.2.1 a.2.2.1, { rl := (.cons (.agg (.cons .str (.cons (.int .i64) (.cons (.sl 37 false) .nil)))) (.cons (.int .i64) .nil)), rb := .nil, deep := [(false, 0, 2, 37)], done := [0, 1] }, [], mkWr [] []⟩
def uY3 : vz3 → Option (((ByteArray × (Int × ((List ua0) × Unit))) × (Int × Unit)) × Unit)
 | .start l0 t1_0 t1_1 t1_2 t1_3 index2 =>
  (uz7 (.start l0 t1_0 t1_1 t1_2 t1_3)) >>= fun t1 =>
  if (t1.1.2.2.1 != (0 : Int)) = true then
   some ((((⟨#[]⟩ : ByteArray), ((0 : Int), ([], ()))), (t1.1.2.2.1, ())), ())
  else
   (run_z61 (.start t1.1.1)) >>= fun t2 =>
   (ug5 (.start index2 (0 : Int) (IntKind.wrap .i64 (t2.1.1 - (1 : Int))))) >>= fun t3 =>
   if (!t3.1.1) = true then
    some ((((⟨#[]⟩ : ByteArray), ((0 : Int), ([], ()))), ((6 : Int), ())), ())
   else
    (uo4 (.start t1.1.1 index2)) >>= fun t4 =>
    some (((t4.1.1.1, (t4.1.1.2.1, (t4.1.1.2.2.1, ()))), ((0 : Int), ())), ())
def v49 : ua8 E := vL9.okc E_ok (run := uY3) (vL9.mk_ok E_ok [v48, c_z5, vW0, vC2] vL9.none)
inductive vz4 where
 | start (s0 : Int) (x1_0 : ByteArray) (x1_1 : Int) (x1_2 : (List ua0))
def vo9 : Fb E vz4 (Int × Unit) Unit := ⟨135, Tryz.f135, (.cons (Rd.int .i64).w (.cons (.agg (.cons Rd.str.w (.cons (Rd.int .i64).w (.cons (.sl 37) .nil)))) .nil)), .nil, fun a b => .start a.1 a.2.1.1 a.2.1.2.1 a.2.1.2.2.1, { rl := (.cons (.int .i64) .nil), rb := .nil, done := [0] }, [], mkWr [] []⟩
inductive vn7 where
 | start (v0_0 : ByteArray) (v0_1 : Int) (v0_2 : (List ua0))
 | p15 (e4 : Int) (C0 : ByteArray) (C1 : Int) (C2 : (List ua0))
def vi9 : Fb E vn7 (Int × Unit) Unit := ⟨97, Tryz.f97, (.cons (.agg (.cons Rd.str.w (.cons (Rd.int .i64).w (.cons (.sl 37) .nil)))) .nil), .nil, fun a b => .start a.1.1 a.1.2.1 a.1.2.2.1, { rl := (.cons (.int .i64) .nil), rb := .nil, done := [0] }, [⟨15, { slots := [1, 4] }, (.cons (.bp 0 0) (.cons (.int .i64) .nil)), (.cons (.var 37 (.cons .str (.cons (.int .i64) (.cons (.sl 37 false) .nil)))) .nil), fun a b => .p15 a.2.1 b.1.1 b.1.2.1 b.1.2.2.1⟩], mkWr [] []⟩
inductive vz5 where
 | start (l0 : (List ua0))
 | p52 (s9 : (List ua0)) (s10 : Int) (s11 : Int)
def vp0 : Fb E vz5 (Int × (Int × Unit)) Unit := ⟨134, Tryz.f134, (.cons (.sl 37) (.cons (Rd.fn 135 .nil).w .nil)), .nil, fun a b => .start a.1, { rl := (.cons (.int .i64) (.cons (.int .i64) .nil)), rb := .nil, done := [0, 1] }, [⟨52, { slots := [1, 9, 10, 11] }, (.cons (Rd.fn 135 .nil) (.cons (.sl 37 false) (.cons (.int .i64) (.cons (.int .i64) .nil)))), .nil, fun a b => .p52 a.2.1 a.2.2.1 a.2.2.2.1⟩], mkWr [] []⟩
mutual
def uF3 : vz4 → Option ((Int × Unit) × Unit)
 | .start s0 x1_0 x1_1 x1_2 =>
  (run_z65 (.start x1_0 x1_1 x1_2)) >>= fun t1 =>
  some ((t1.1.1, ()), ())
 partial_fixpoint
def run_z65 : vn7 → Option ((Int × Unit) × Unit)
 | .start v0_0 v0_1 v0_2 =>
  if (!(seq v0_0 (⟨#[]⟩ : ByteArray))) = true then
   (ub3 (.start true (3 : Int))) >>= fun t1 =>
   if (seq v0_0 (⟨#[]⟩ : ByteArray)) = true then
    (ub3 (.start true (3 : Int))) >>= fun t2 =>
    if (seq v0_0 (⟨#[]⟩ : ByteArray)) = true then
     (ub3 (.start true (4 : Int))) >>= fun t3 =>
     (ug5 (.start v0_1 (0 : Int) (99999 : Int))) >>= fun t4 =>
     (ub3 (.start t4.1.1 (2 : Int))) >>= fun t5 =>
     (ub9 (.start ([t1.1.1, t2.1.1, t3.1.1, t5.1.1] : List Int))) >>= fun t6 =>
     run_z65 (.p15 t6.1.1 v0_0 v0_1 v0_2)
    else
     (ud9 (.start v0_0)) >>= fun t7 =>
     (ub3 (.start t7.1.1 (4 : Int))) >>= fun t8 =>
     (ug5 (.start v0_1 (0 : Int) (99999 : Int))) >>= fun t9 =>
     (ub3 (.start t9.1.1 (2 : Int))) >>= fun t10 =>
     (ub9 (.start ([t1.1.1, t2.1.1, t8.1.1, t10.1.1] : List Int))) >>= fun t11 =>
     run_z65 (.p15 t11.1.1 v0_0 v0_1 v0_2)
   else
    (ub3 (.start (v0_1 == (0 : Int)) (3 : Int))) >>= fun t12 =>
    if (seq v0_0 (⟨#[]⟩ : ByteArray)) = true then
     (ub3 (.start true (4 : Int))) >>= fun t13 =>
     (ug5 (.start v0_1 (0 : Int) (99999 : Int))) >>= fun t14 =>
     (ub3 (.start t14.1.1 (2 : Int))) >>= fun t15 =>
     (ub9 (.start ([t1.1.1, t12.1.1, t13.1.1, t15.1.1] : List Int))) >>= fun t16 =>
     run_z65 (.p15 t16.1.1 v0_0 v0_1 v0_2)
    else
     (ud9 (.start v0_0)) >>= fun t17 =>
     (ub3 (.start t17.1.1 (4 : Int))) >>= fun t18 =>
     (ug5 (.start v0_1 (0 : Int) (99999 : Int))) >>= fun t19 =>
     (ub3 (.start t19.1.1 (2 : Int))) >>= fun t20 =>
     (ub9 (.start ([t1.1.1, t12.1.1, t18.1.1, t20.1.1] : List Int))) >>= fun t21 =>
     run_z65 (.p15 t21.1.1 v0_0 v0_1 v0_2)
  else
   (ub3 (.start ((List.length v0_2 : Int) == (0 : Int)) (3 : Int))) >>= fun t22 =>
   if (seq v0_0 (⟨#[]⟩ : ByteArray)) = true then
    (ub3 (.start true (3 : Int))) >>= fun t23 =>
    if (seq v0_0 (⟨#[]⟩ : ByteArray)) = true then
     (ub3 (.start true (4 : Int))) >>= fun t24 =>
     (ug5 (.start v0_1 (0 : Int) (99999 : Int))) >>= fun t25 =>
     (ub3 (.start t25.1.1 (2 : Int))) >>= fun t26 =>
     (ub9 (.start ([t22.1.1, t23.1.1, t24.1.1, t26.1.1] : List Int))) >>= fun t27 =>
     run_z65 (.p15 t27.1.1 v0_0 v0_1 v0_2)
    else
     (ud9 (.start v0_0)) >>= fun t28 =>
     (ub3 (.start t28.1.1 (4 : Int))) >>= fun t29 =>
     (ug5 (.start v0_1 (0 : Int) (99999 : Int))) >>= fun t30 =>
     (ub3 (.start t30.1.1 (2 : Int))) >>= fun t31 =>
     (ub9 (.start ([t22.1.1, t23.1.1, t29.1.1, t31.1.1] : List Int))) >>= fun t32 =>
     run_z65 (.p15 t32.1.1 v0_0 v0_1 v0_2)
   else
    (ub3 (.start (v0_1 == (0 : Int)) (3 : Int))) >>= fun t33 =>
    if (seq v0_0 (⟨#[]⟩ : ByteArray)) = true then
     (ub3 (.start true (4 : Int))) >>= fun t34 =>
     (ug5 (.start v0_1 (0 : Int) (99999 : Int))) >>= fun t35 =>
     (ub3 (.start t35.1.1 (2 : Int))) >>= fun t36 =>
     (ub9 (.start ([t22.1.1, t33.1.1, t34.1.1, t36.1.1] : List Int))) >>= fun t37 =>
     run_z65 (.p15 t37.1.1 v0_0 v0_1 v0_2)
    else
     (ud9 (.start v0_0)) >>= fun t38 =>
     (ub3 (.start t38.1.1 (4 : Int))) >>= fun t39 =>
     (ug5 (.start v0_1 (0 : Int) (99999 : Int))) >>= fun t40 =>
     (ub3 (.start t40.1.1 (2 : Int))) >>= fun t41 =>
     (ub9 (.start ([t22.1.1, t33.1.1, t39.1.1, t41.1.1] : List Int))) >>= fun t42 =>
     run_z65 (.p15 t42.1.1 v0_0 v0_1 v0_2)
 | .p15 e4 C0 C1 C2 =>
  if (e4 != (0 : Int)) = true then
   some ((e4, ()), ())
  else
   (run_z66 (.start C2)) >>= fun t1 =>
   some ((t1.1.2.1, ()), ())
 partial_fixpoint
def run_z66 : vz5 → Option ((Int × (Int × Unit)) × Unit)
 | .start l0 =>
  run_z66 (.p52 l0 (List.length l0 : Int) (0 : Int))
 | .p52 s9 s10 s11 =>
  if (decide (s11 < s10)) = true then
   (idx s9 s11) >>= fun t1 =>
   (uF3 (.start s11 t1.Name t1.Number t1.Parts)) >>= fun t2 =>
   if (t2.1.1 != (0 : Int)) = true then
    some ((s11, (t2.1.1, ())), ())
   else
    run_z66 (.p52 s9 s10 (IntKind.wrap .i64 (s11 + (1 : Int))))
  else
   some (((0 : Int), ((0 : Int), ())), ())
 partial_fixpoint
end
theorem vr2 : vo9.Ok uF3 ∧ vi9.Ok run_z65 ∧ vp0.Ok run_z66 := by
  refine uF3.mutual_partial_correctness vo9.M vi9.M vp0.M ?_ ?_ ?_
  · exact fun r_z65 h_z65 => vo9.mk_ok E_ok [vi9.okc E_ok h_z65] vo9.none
  · exact fun r_z65 r_z66 h_z65 h_z66 => vi9.mk_ok E_ok [vp0.okc E_ok h_z66, vi9.okc E_ok h_z65, c_z6, u59, c_z5, c_z7] h_z65
  · exact fun r_z64 r_z66 h_z64 h_z66 => vp0.mk_ok E_ok [vp0.okc E_ok h_z66, vo9.okc E_ok h_z64] h_z66
def v50 : ua8 E := vi9.okc E_ok vr2.2.1
inductive vz6 where
 | start (v0_0 : ByteArray) (v0_1 : Int) (v0_2 : (List ua0))
 | p500 (s19 : (List ua0)) (s20 : Int) (s21 : Int) (C0 : ByteArray) (C1 : Int) (C2 : (List ua0)) (B1 : (List ByteArray))
def vB1 : Fb E vz6 (ByteArray × Unit) Unit := ⟨98, Tryz.f98, (.cons (.agg (.cons Rd.str.w (.cons (Rd.int .i64).w (.cons (.sl 37) .nil)))) .nil), .nil, fun a b => .start a.1.1 a.1.2.1 a.1.2.2.1, { rl := (.cons .str .nil), rb := .nil, done := [0] }, [⟨500, { slots := [1, 3, 19, 20, 21], rows := [(3, 9)] }, (.cons (.bp 0 0) (.cons (Rd.rw 1) (.cons (.sl 37 false) (.cons (.int .i64) (.cons (.int .i64) .nil))))), (.cons (.var 37 (.cons .str (.cons (.int .i64) (.cons (.sl 37 false) .nil)))) (.cons (.row 9 false) .nil)), fun a b => .p500 a.2.2.1 a.2.2.2.1 a.2.2.2.2.1 b.1.1 b.1.2.1 b.1.2.2.1 b.2.1⟩], mkWr [] []⟩
def uh5 : vz6 → Option ((ByteArray × Unit) × Unit)
 | .start v0_0 v0_1 v0_2 =>
  if (seq v0_0 (⟨#[]⟩ : ByteArray)) = true then
   (uy4 (v0_1, ()) ()) >>= fun t1 =>
   some ((t1.1.1, ()), ())
  else
   if ((List.length v0_2 : Int) == (0 : Int)) = true then
    some ((v0_0, ()), ())
   else
    uh5 (.p500 v0_2 (List.length v0_2 : Int) (0 : Int) v0_0 v0_1 v0_2 ([] : List ByteArray))
 | .p500 s19 s20 s21 C0 C1 C2 B1 =>
  if (decide (s21 < s20)) = true then
   (idx s19 s21) >>= fun t1 =>
   (uh5 (.start t1.Name t1.Number t1.Parts)) >>= fun t2 =>
   if (fits (List.length B1) (List.length ([t2.1.1] : List ByteArray)) 16) = true then
    uh5 (.p500 s19 s20 (IntKind.wrap .i64 (s21 + (1 : Int))) C0 C1 C2 (B1 ++ ([t2.1.1] : List ByteArray)))
   else none
  else
   if (Nat.ble (C0.size + (⟨#[40]⟩ : ByteArray).size) 9223372036854775807) = true then
    (uq5 (B1, (⟨#[44, 32]⟩ : ByteArray), ()) ()) >>= fun t3 =>
    if (Nat.ble ((C0 ++ (⟨#[40]⟩ : ByteArray)).size + t3.1.1.size) 9223372036854775807) = true then
     if (Nat.ble (((C0 ++ (⟨#[40]⟩ : ByteArray)) ++ t3.1.1).size + (⟨#[41]⟩ : ByteArray).size) 9223372036854775807) = true then
      some ((((C0 ++ (⟨#[40]⟩ : ByteArray)) ++ t3.1.1) ++ (⟨#[41]⟩ : ByteArray), ()), ())
     else none
    else none
   else none
 partial_fixpoint
def v52 : ua8 E := vB1.okc E_ok (run := uh5) (uh5.partial_correctness vB1.M fun run' ih => vB1.mk_ok E_ok [vB1.okc E_ok ih, uP4, ux1] ih)
inductive vz7 where
 | start (v0_0 : ByteArray) (v0_1 : Int) (v0_2 : (List ua0))
def vM0 : Fb E vz7 (ByteArray × (Int × Unit)) Unit := ⟨54, Tryz.f54, (.cons (.agg (.cons Rd.str.w (.cons (Rd.int .i64).w (.cons (.sl 37) .nil)))) .nil), .nil, fun a b => .start a.1.1 a.1.2.1 a.1.2.2.1, { rl := (.cons .str (.cons (.int .i64) .nil)), rb := .nil, done := [0, 1] }, [], mkWr [] []⟩
def uA0 : vz7 → Option ((ByteArray × (Int × Unit)) × Unit)
 | .start v0_0 v0_1 v0_2 =>
  (uu7 (.start v0_0 v0_1 v0_2)) >>= fun t1 =>
  if (t1.1.1 != (0 : Int)) = true then
   some (((⟨#[]⟩ : ByteArray), (t1.1.1, ())), ())
  else
   (run_z65 (.start v0_0 v0_1 v0_2)) >>= fun t2 =>
   if (t2.1.1 != (0 : Int)) = true then
    some (((⟨#[]⟩ : ByteArray), (t2.1.1, ())), ())
   else
    (uh5 (.start v0_0 v0_1 v0_2)) >>= fun t3 =>
    some ((t3.1.1, ((0 : Int), ())), ())
def vW1 : ua8 E := vM0.okc E_ok (run := uA0) (vM0.mk_ok E_ok [v52, v50, vO2] vM0.none)
inductive vz8 where
 | start (a0_0 : ByteArray) (a0_1 : Int) (a0_2 : (List ua0)) (b1_0 : ByteArray) (b1_1 : Int) (b1_2 : (List ua0))
 | p7 (C0 : ByteArray) (C1 : Int) (C2 : (List ua0)) (D0 : ByteArray) (D1 : Int) (D2 : (List ua0))
 | p116 (i5 : Int) (C0 : ByteArray) (C1 : Int) (C2 : (List ua0)) (D0 : ByteArray) (D1 : Int) (D2 : (List ua0))
def vB2 : Fb E vz8 (Bool × Unit) Unit := ⟨34, Tryz.f34, (.cons (.agg (.cons Rd.str.w (.cons (Rd.int .i64).w (.cons (.sl 37) .nil)))) (.cons (.agg (.cons Rd.str.w (.cons (Rd.int .i64).w (.cons (.sl 37) .nil)))) .nil)), .nil, fun a b => .start a.1.1 a.1.2.1 a.1.2.2.1 a.2.1.1 a.2.1.2.1 a.2.1.2.2.1, { rl := (.cons .bool .nil), rb := .nil, done := [0] }, [⟨7, { slots := [2, 3] }, (.cons (.bp 0 0) (.cons (.bp 1 0) .nil)), (.cons (.var 37 (.cons .str (.cons (.int .i64) (.cons (.sl 37 false) .nil)))) (.cons (.var 37 (.cons .str (.cons (.int .i64) (.cons (.sl 37 false) .nil)))) .nil)), fun a b => .p7 b.1.1 b.1.2.1 b.1.2.2.1 b.2.1.1 b.2.1.2.1 b.2.1.2.2.1⟩,
 ⟨116, { slots := [2, 3, 5] }, (.cons (.bp 0 0) (.cons (.bp 1 0) (.cons (.int .i64) .nil))), (.cons (.var 37 (.cons .str (.cons (.int .i64) (.cons (.sl 37 false) .nil)))) (.cons (.var 37 (.cons .str (.cons (.int .i64) (.cons (.sl 37 false) .nil)))) .nil)), fun a b => .p116 a.2.2.1 b.1.1 b.1.2.1 b.1.2.2.1 b.2.1.1 b.2.1.2.1 b.2.1.2.2.1⟩], mkWr [] []⟩
def uf1 : vz8 → Option ((Bool × Unit) × Unit)
 | .start a0_0 a0_1 a0_2 b1_0 b1_1 b1_2 =>
  if (!(seq a0_0 b1_0)) = true then
   some ((false, ()), ())
  else
   if (a0_1 != b1_1) = true then
    some ((false, ()), ())
   else
    if ((List.length a0_2 : Int) != (List.length b1_2 : Int)) = true then
     some ((false, ()), ())
    else
     uf1 (.p7 a0_0 a0_1 a0_2 b1_0 b1_1 b1_2)
 | .p7 C0 C1 C2 D0 D1 D2 =>
  uf1 (.p116 (0 : Int) C0 C1 C2 D0 D1 D2)
 | .p116 i5 C0 C1 C2 D0 D1 D2 =>
  if (decide (i5 < (List.length C2 : Int))) = true then
   (idx C2 i5) >>= fun t1 =>
   (idx D2 i5) >>= fun t2 =>
   (uf1 (.start t1.Name t1.Number t1.Parts t2.Name t2.Number t2.Parts)) >>= fun t3 =>
   if (!t3.1.1) = true then
    some ((false, ()), ())
   else
    uf1 (.p116 (IntKind.wrap .i64 (i5 + (1 : Int))) C0 C1 C2 D0 D1 D2)
  else
   some ((true, ()), ())
 partial_fixpoint
def vW2 : ua8 E := vB2.okc E_ok (run := uf1) (uf1.partial_correctness vB2.M fun run' ih => vB2.mk_ok E_ok [vB2.okc E_ok ih] ih)
inductive vz9 where
 | start
def vM1 : Fb E vz9 (Bool × Unit) Unit := ⟨10, Tryz.f10, .nil, .nil, fun a b => .start, { rl := (.cons .bool .nil), rb := .nil, done := [0] }, [], mkWr [] []⟩
def uN6 : vz9 → Option ((Bool × Unit) × Unit)
 | .start =>
  (uM8 .start) >>= fun t1 =>
  (uS2 (.start (3 : Int))) >>= fun t2 =>
  (uu6 (.start (⟨#[77, 97, 121, 98, 101]⟩ : ByteArray) ([(⟨t2.1.1.1, t2.1.1.2.1, t2.1.1.2.2.1, t2.1.1.2.2.2.1⟩ : ua3)] : List ua3))) >>= fun t3 =>
  (uX9 (.start t1.1.1 t3.1.1.1 t3.1.1.2.1 t3.1.1.2.2.1 t3.1.1.2.2.2.1)) >>= fun t4 =>
  (uM8 .start) >>= fun t5 =>
  (uS2 (.start (2 : Int))) >>= fun t6 =>
  (uu6 (.start (⟨#[67, 111, 108, 111, 114]⟩ : ByteArray) ([]))) >>= fun t7 =>
  (uu6 (.start (⟨#[80, 97, 105, 114]⟩ : ByteArray) ([(⟨t6.1.1.1, t6.1.1.2.1, t6.1.1.2.2.1, t6.1.1.2.2.2.1⟩ : ua3), (⟨t7.1.1.1, t7.1.1.2.1, t7.1.1.2.2.1, t7.1.1.2.2.2.1⟩ : ua3)] : List ua3))) >>= fun t8 =>
  (uo3 (.start (⟨#[66, 108, 117, 101]⟩ : ByteArray) ([]))) >>= fun t9 =>
  (uo3 (.start (⟨#[80, 97, 105, 114]⟩ : ByteArray) ([(⟨(⟨#[]⟩ : ByteArray), (3 : Int), []⟩ : ua0), (⟨t9.1.1.1, t9.1.1.2.1, t9.1.1.2.2.1⟩ : ua0)] : List ua0))) >>= fun t10 =>
  (uY1 (.start t5.1.1 t8.1.1.1 t8.1.1.2.1 t8.1.1.2.2.1 t8.1.1.2.2.2.1 t10.1.1.1 t10.1.1.2.1 t10.1.1.2.2.1)) >>= fun t11 =>
  (uM8 .start) >>= fun t12 =>
  (uS2 (.start (3 : Int))) >>= fun t13 =>
  (uu6 (.start (⟨#[77, 97, 121, 98, 101]⟩ : ByteArray) ([(⟨t13.1.1.1, t13.1.1.2.1, t13.1.1.2.2.1, t13.1.1.2.2.2.1⟩ : ua3)] : List ua3))) >>= fun t14 =>
  (uY2 (.start t12.1.1 t14.1.1.1 t14.1.1.2.1 t14.1.1.2.2.1 t14.1.1.2.2.2.1 (5 : Int))) >>= fun t15 =>
  (uM8 .start) >>= fun t16 =>
  (uu6 (.start (⟨#[67, 111, 108, 111, 114]⟩ : ByteArray) ([]))) >>= fun t17 =>
  (uu6 (.start (⟨#[66, 111, 111, 108]⟩ : ByteArray) ([]))) >>= fun t18 =>
  (uu6 (.start (⟨#[80, 97, 105, 114]⟩ : ByteArray) ([(⟨t17.1.1.1, t17.1.1.2.1, t17.1.1.2.2.1, t17.1.1.2.2.2.1⟩ : ua3), (⟨t18.1.1.1, t18.1.1.2.1, t18.1.1.2.2.1, t18.1.1.2.2.2.1⟩ : ua3)] : List ua3))) >>= fun t19 =>
  (uY3 (.start t16.1.1 t19.1.1.1 t19.1.1.2.1 t19.1.1.2.2.1 t19.1.1.2.2.2.1 (3 : Int))) >>= fun t20 =>
  (uo3 (.start (⟨#[66, 108, 117, 101]⟩ : ByteArray) ([]))) >>= fun t21 =>
  (uo3 (.start (⟨#[80, 97, 105, 114]⟩ : ByteArray) ([(⟨(⟨#[]⟩ : ByteArray), (3 : Int), []⟩ : ua0), (⟨t21.1.1.1, t21.1.1.2.1, t21.1.1.2.2.1⟩ : ua0)] : List ua0))) >>= fun t22 =>
  (uA0 (.start t22.1.1.1 t22.1.1.2.1 t22.1.1.2.2.1)) >>= fun t23 =>
  if (t4.1.2.1 == (0 : Int)) = true then
   if (t4.1.1 == (4 : Int)) = true then
    if (t11.1.2.1 == (0 : Int)) = true then
     if (t11.1.1 == (14 : Int)) = true then
      if (t15.1.2.1 == (3 : Int)) = true then
       if (t20.1.2.1 == (0 : Int)) = true then
        (uo3 (.start (⟨#[71, 114, 101, 101, 110]⟩ : ByteArray) ([]))) >>= fun t24 =>
        (uo3 (.start (⟨#[84, 114, 117, 101]⟩ : ByteArray) ([]))) >>= fun t25 =>
        (uo3 (.start (⟨#[80, 97, 105, 114]⟩ : ByteArray) ([(⟨t24.1.1.1, t24.1.1.2.1, t24.1.1.2.2.1⟩ : ua0), (⟨t25.1.1.1, t25.1.1.2.1, t25.1.1.2.2.1⟩ : ua0)] : List ua0))) >>= fun t26 =>
        (uf1 (.start t20.1.1.1 t20.1.1.2.1 t20.1.1.2.2.1 t26.1.1.1 t26.1.1.2.1 t26.1.1.2.2.1)) >>= fun t27 =>
        if t27.1.1 = true then
         if (t23.1.2.1 == (0 : Int)) = true then
          some ((seq t23.1.1 (⟨#[80, 97, 105, 114, 40, 51, 44, 32, 66, 108, 117, 101, 41]⟩ : ByteArray), ()), ())
         else
          some ((false, ()), ())
        else
         some ((false, ()), ())
       else
        some ((false, ()), ())
      else
       some ((false, ()), ())
     else
      some ((false, ()), ())
    else
     some ((false, ()), ())
   else
    some ((false, ()), ())
  else
   some ((false, ()), ())
def v54 : ua8 E := vM1.okc E_ok (run := uN6) (vM1.mk_ok E_ok [vW2, vW1, v49, v45, v43, v34, v33, c_z2, c_z3, c_z0] vM1.none)
inductive vS5 where
 | start (s0 : ByteArray) (c1 : Int)
def vM2 : Fb E vS5 (Int × Unit) Unit := ⟨179, Tryz.f179, (.cons Rd.str.w (.cons (Rd.int .u8).w .nil)), .nil, fun a b => .start a.1 a.2.1, { rl := (.cons (.int .i64) .nil), rb := .nil, done := [0] }, [], mkWr [] []⟩
def vc5 : vS5 → Option ((Int × Unit) × Unit)
 | .start s0 c1 =>
  (vG9 (s0, c1, ()) ()) >>= fun t1 =>
  some ((t1.1.1, ()), ())
def v55 : ua8 E := vM2.okc E_ok (run := vc5) (vM2.mk_ok E_ok [ui2] vM2.none)
inductive vS6 where
 | start (s0 : ByteArray) (c1 : Int)
def vM3 : Fb E vS6 (Int × Unit) Unit := ⟨164, Tryz.f164, (.cons Rd.str.w (.cons (Rd.int .u8).w .nil)), .nil, fun a b => .start a.1 a.2.1, { rl := (.cons (.int .i64) .nil), rb := .nil, done := [0] }, [], mkWr [] []⟩
def uN7 : vS6 → Option ((Int × Unit) × Unit)
 | .start s0 c1 =>
  (vc5 (.start s0 c1)) >>= fun t1 =>
  some ((t1.1.1, ()), ())
def v56 : ua8 E := vM3.okc E_ok (run := uN7) (vM3.mk_ok E_ok [v55] vM3.none)
inductive vS7 where
 | start (r0 : Int)
 | p25 (r0 : Int) (s3 : Bool)
def vM4 : Fb E vS7 (Bool × Unit) Unit := ⟨165, Tryz.f165, (.cons (Rd.int .i32).w .nil), .nil, fun a b => .start a.1, { rl := (.cons .bool .nil), rb := .nil, done := [0] }, [⟨25, { slots := [0, 3] }, (.cons (.int .i32) (.cons .bool .nil)), .nil, fun a b => .p25 a.1 a.2.1⟩], mkWr [] []⟩
def uv0 : vS7 → Option ((Bool × Unit) × Unit)
 | .start r0 =>
  if (decide ((0 : Int) ≤ r0)) = true then
   uv0 (.p25 r0 (decide (r0 < (55296 : Int))))
  else
   uv0 (.p25 r0 false)
 | .p25 r0 s3 =>
  if s3 = true then
   some ((true, ()), ())
  else
   if (decide ((57343 : Int) < r0)) = true then
    if (decide (r0 ≤ (1114111 : Int))) = true then
     some ((true, ()), ())
    else
     some ((false, ()), ())
   else
    some ((false, ()), ())
 partial_fixpoint
def v57 : ua8 E := vM4.okc E_ok (run := uv0) (uv0.partial_correctness vM4.M fun run' ih => vM4.mk_ok E_ok [] ih)
inductive vS8 where
 | start (s0 : ByteArray) (r1 : Int)
 | p13 (s0 : ByteArray) (r1 : Int) (s160 : Bool)
 | p1764 (C0 : ByteArray) (C1 : Nat)
 | p114552 (s0 : ByteArray) (rs7 : ByteArray) (last8 : Int) (i9 : Int)
 | p1832841 (s0 : ByteArray) (rs7 : ByteArray) (last8 : Int) (i9 : Int)
 | p29325460 (s0 : ByteArray) (rs7 : ByteArray) (last8 : Int) (i9 : Int) (j12 : Int)
def vM5 : Fb E vS8 (Int × Unit) Unit := ⟨147, Tryz.f147, (.cons Rd.str.w (.cons (Rd.int .i32).w .nil)), .nil, fun a b => .start a.1 a.2.1, { rl := (.cons (.int .i64) .nil), rb := .nil, done := [0] }, [⟨13, { slots := [0, 1, 160] }, (.cons .str (.cons (.int .i32) (.cons .bool .nil))), .nil, fun a b => .p13 a.1 a.2.1 a.2.2.1⟩,
 ⟨1764, { slots := [175] }, (.cons (.bp 0 0) .nil), (.cons RdB.iter .nil), fun a b => .p1764 b.1.1 b.1.2.1⟩,
 ⟨114552, { slots := [0, 7, 8, 9] }, (.cons .str (.cons .str (.cons (.int .i64) (.cons (.int .i64) .nil)))), .nil, fun a b => .p114552 a.1 a.2.1 a.2.2.1 a.2.2.2.1⟩,
 ⟨1832841, { slots := [0, 7, 8, 9] }, (.cons .str (.cons .str (.cons (.int .i64) (.cons (.int .i64) .nil)))), .nil, fun a b => .p1832841 a.1 a.2.1 a.2.2.1 a.2.2.2.1⟩,
 ⟨29325460, { slots := [0, 7, 8, 9, 12] }, (.cons .str (.cons .str (.cons (.int .i64) (.cons (.int .i64) (.cons (.int .i64) .nil))))), .nil, fun a b => .p29325460 a.1 a.2.1 a.2.2.1 a.2.2.2.1 a.2.2.2.2.1⟩], mkWr [] []⟩
def uc0 : vS8 → Option ((Int × Unit) × Unit)
 | .start s0 r1 =>
  if (decide ((0 : Int) ≤ r1)) = true then
   uc0 (.p13 s0 r1 (decide (r1 < (128 : Int))))
  else
   uc0 (.p13 s0 r1 false)
 | .p13 s0 r1 s160 =>
  if s160 = true then
   (uN7 (.start s0 (IntKind.wrap .u8 r1))) >>= fun t1 =>
   some ((t1.1.1, ()), ())
  else
   if (r1 == (65533 : Int)) = true then
    uc0 (.p1764 s0 (0 : Nat))
   else
    (uv0 (.start r1)) >>= fun t2 =>
    if (!t2.1.1) = true then
     some (((-1 : Int), ()), ())
    else
     uc0 (.p114552 s0 (Utf8.encode r1) (IntKind.wrap .i64 (((Utf8.encode r1).size : Int) - (1 : Int))) (IntKind.wrap .i64 (((Utf8.encode r1).size : Int) - (1 : Int))))
 | .p1764 C0 C1 =>
  if (decide (C1 < C0.size)) = true then
   if (((Utf8.decode C0 C1).1 : Int) == (65533 : Int)) = true then
    some (((C1 : Int), ()), ())
   else
    uc0 (.p1764 C0 (C1 + (Utf8.decode C0 C1).2))
  else
   some (((-1 : Int), ()), ())
 | .p114552 s0 rs7 last8 i9 =>
  if (decide (i9 < (s0.size : Int))) = true then
   (sidx s0 i9) >>= fun t1 =>
   (sidx rs7 last8) >>= fun t2 =>
   if (t1 != t2) = true then
    (span s0.size (IntKind.wrap .i64 (i9 + (1 : Int))) (s0.size : Int)) >>= fun t3 =>
    (sidx rs7 last8) >>= fun t4 =>
    (uN7 (.start (s0.extract t3.1 t3.2) t4)) >>= fun t5 =>
    if (decide (t5.1.1 < (0 : Int))) = true then
     some (((-1 : Int), ()), ())
    else
     uc0 (.p1832841 s0 rs7 last8 (IntKind.wrap .i64 (i9 + (IntKind.wrap .i64 (t5.1.1 + (1 : Int))))))
   else
    uc0 (.p1832841 s0 rs7 last8 i9)
  else
   some (((-1 : Int), ()), ())
 | .p1832841 s0 rs7 last8 i9 =>
  uc0 (.p29325460 s0 rs7 last8 i9 (1 : Int))
 | .p29325460 s0 rs7 last8 i9 j12 =>
  if (decide (j12 < (rs7.size : Int))) = true then
   (sidx s0 (IntKind.wrap .i64 (i9 - j12))) >>= fun t1 =>
   (sidx rs7 (IntKind.wrap .i64 (last8 - j12))) >>= fun t2 =>
   if (t1 != t2) = true then
    none
   else
    uc0 (.p29325460 s0 rs7 last8 i9 (IntKind.wrap .i64 (j12 + (1 : Int))))
  else
   some ((IntKind.wrap .i64 (i9 - last8), ()), ())
 partial_fixpoint
def v58 : ua8 E := vM5.okc E_ok (run := uc0) (uc0.partial_correctness vM5.M fun run' ih => vM5.mk_ok E_ok [v57, v56] ih)
inductive vS9 where
 | start (bufLen0 : Int)
def vM6 : Fb E vS9 (Bool × Unit) Unit := ⟨148, Tryz.f148, (.cons (Rd.int .i64).w .nil), .nil, fun a b => .start a.1, { rl := (.cons .bool .nil), rb := .nil, done := [0] }, [], mkWr [] []⟩
def vc6 : vS9 → Option ((Bool × Unit) × Unit)
 | .start bufLen0 =>
  some ((decide (bufLen0 > (8 : Int)), ()), ())
def v59 : ua8 E := vM6.okc E_ok (run := vc6) (vM6.mk_ok E_ok [] vM6.none)
inductive vT0 where
 | start (s0 : ByteArray) (chars1 : ByteArray)
 | p31 (s0 : ByteArray) (chars1 : ByteArray)
 | p500 (chars1 : ByteArray) (C0 : ByteArray) (C1 : Nat)
def vM7 : Fb E vT0 (Int × Unit) Unit := ⟨126, Tryz.f126, (.cons Rd.str.w (.cons Rd.str.w .nil)), .nil, fun a b => .start a.1 a.2.1, { rl := (.cons (.int .i64) .nil), rb := .nil, done := [0] }, [⟨31, { slots := [0, 1] }, (.cons .str (.cons .str .nil)), .nil, fun a b => .p31 a.1 a.2.1⟩,
 ⟨500, { slots := [1, 45] }, (.cons .str (.cons (.bp 0 0) .nil)), (.cons RdB.iter .nil), fun a b => .p500 a.1 b.1.1 b.1.2.1⟩], mkWr [] []⟩
def ui8 : vT0 → Option ((Int × Unit) × Unit)
 | .start s0 chars1 =>
  if (seq chars1 (⟨#[]⟩ : ByteArray)) = true then
   some (((-1 : Int), ()), ())
  else
   if ((chars1.size : Int) == (1 : Int)) = true then
    (sidx chars1 (0 : Int)) >>= fun t1 =>
    if (decide ((IntKind.wrap .i32 t1) ≥ (128 : Int))) = true then
     (uc0 (.start s0 (65533 : Int))) >>= fun t2 =>
     some ((t2.1.1, ()), ())
    else
     (uc0 (.start s0 (IntKind.wrap .i32 t1))) >>= fun t3 =>
     some ((t3.1.1, ()), ())
   else
    (vc6 (.start (s0.size : Int))) >>= fun t4 =>
    if t4.1.1 = true then
     none
    else
     ui8 (.p31 s0 chars1)
 | .p31 s0 chars1 =>
  ui8 (.p500 chars1 s0 (0 : Nat))
 | .p500 chars1 C0 C1 =>
  if (decide (C1 < C0.size)) = true then
   (uc0 (.start chars1 ((Utf8.decode C0 C1).1 : Int))) >>= fun t1 =>
   if (decide (t1.1.1 ≥ (0 : Int))) = true then
    some (((C1 : Int), ()), ())
   else
    ui8 (.p500 chars1 C0 (C1 + (Utf8.decode C0 C1).2))
  else
   some (((-1 : Int), ()), ())
 partial_fixpoint
def v60 : ua8 E := vM7.okc E_ok (run := ui8) (ui8.partial_correctness vM7.M fun run' ih => vM7.mk_ok E_ok [v59, v58] ih)
def ui5 : Con E := vH2 E 126 (fun s c => ui8 (.start s c))
theorem um9 : ui5.Ok := vp8 (fn := Tryz.f126) (by kernel_rfl) (by kernel_rfl) (by kernel_rfl) (fun s c w h2 h8 hs hc ha => (Tryz.strings_IndexAny_long (zero_of_info (n := 256) (by kernel_rfl)).1 s c w h2 h8 hs hc ha).mono fun e w1 h => ⟨h.1, h.2 ▸ vV0 ..⟩) (fun s c r h => v60.ok (s, c, ()) () r h)
def ut5 : ua8 E := ⟨ui5, um9⟩
inductive vT1 where
 | start (s0 : ByteArray) (prefix1 : ByteArray)
def vM8 : Fb E vT1 (Bool × Unit) Unit := ⟨174, Tryz.f174, (.cons Rd.str.w (.cons Rd.str.w .nil)), .nil, fun a b => .start a.1 a.2.1, { rl := (.cons .bool .nil), rb := .nil, done := [0] }, [], mkWr [] []⟩
def vc7 : vT1 → Option ((Bool × Unit) × Unit)
 | .start s0 prefix1 =>
  if (decide ((s0.size : Int) ≥ (prefix1.size : Int))) = true then
   (span s0.size (0 : Int) (prefix1.size : Int)) >>= fun t1 =>
   some ((seq (s0.extract t1.1 t1.2) prefix1, ()), ())
  else
   some ((false, ()), ())
def v61 : ua8 E := vM8.okc E_ok (run := vc7) (vM8.mk_ok E_ok [] vM8.none)
inductive vT2 where
 | start (s0 : ByteArray) (prefix1 : ByteArray)
def vM9 : Fb E vT2 (ByteArray × (Bool × Unit)) Unit := ⟨154, Tryz.f154, (.cons Rd.str.w (.cons Rd.str.w .nil)), .nil, fun a b => .start a.1 a.2.1, { rl := (.cons .str (.cons .bool .nil)), rb := .nil, done := [0, 1] }, [], mkWr [] []⟩
def vc8 : vT2 → Option ((ByteArray × (Bool × Unit)) × Unit)
 | .start s0 prefix1 =>
  (vc7 (.start s0 prefix1)) >>= fun t1 =>
  if (!t1.1.1) = true then
   some ((s0, (false, ())), ())
  else
   (span s0.size (prefix1.size : Int) (s0.size : Int)) >>= fun t2 =>
   some ((s0.extract t2.1 t2.2, (true, ())), ())
def v62 : ua8 E := vM9.okc E_ok (run := vc8) (vM9.mk_ok E_ok [v61] vM9.none)
inductive vT3 where
 | start (s0 : ByteArray) (prefix1 : ByteArray)
def vN0 : Fb E vT3 (ByteArray × (Bool × Unit)) Unit := ⟨130, Tryz.f130, (.cons Rd.str.w (.cons Rd.str.w .nil)), .nil, fun a b => .start a.1 a.2.1, { rl := (.cons .str (.cons .bool .nil)), rb := .nil, done := [0, 1] }, [], mkWr [] []⟩
def uv1 : vT3 → Option ((ByteArray × (Bool × Unit)) × Unit)
 | .start s0 prefix1 =>
  (vc8 (.start s0 prefix1)) >>= fun t1 =>
  some ((t1.1.1, (t1.1.2.1, ())), ())
def v63 : ua8 E := vN0.okc E_ok (run := uv1) (vN0.mk_ok E_ok [v62] vN0.none)
inductive vT4 where
 | start (s0 : ByteArray)
 | p15 (s0 : ByteArray) (n5 : Int) (C0 : ByteArray) (C1 : Int)
 | p4088 (rest3 : ByteArray) (has9 : Bool) (C0 : ByteArray) (C1 : Int) (B1 : (List ua0))
def vB3 : Fb E vT4 ((ByteArray × (Int × ((List ua0) × Unit))) × (ByteArray × (Bool × Unit))) Unit := ⟨93, Tryz.f93, (.cons Rd.str.w .nil), .nil, fun a b => .start a.1, { rl := (.cons (.agg (.cons .str (.cons (.int .i64) (.cons (.sl 37 false) .nil)))) (.cons .str (.cons .bool .nil))), rb := .nil, deep := [(false, 0, 2, 37)], done := [0, 1, 2] }, [⟨15, { slots := [0, 2, 5] }, (.cons .str (.cons (.bp 0 0) (.cons (.int .i64) .nil))), (.cons (.var 37 (.cons .str (.cons (.int .i64) (.cons Rd.nl .nil)))) .nil), fun a b => .p15 a.1 a.2.2.1 b.1.1 b.1.2.1⟩,
 ⟨4088, { slots := [2, 3, 9], up := [(true, 2, 2, 37)] }, (.cons (.bp 0 0) (.cons .str (.cons .bool .nil))), (.cons (.var 37 (.cons .str (.cons (.int .i64) (.cons (Rd.rw 1) .nil)))) (.cons (.row 37 false) .nil)), fun a b => .p4088 a.2.1 a.2.2.1 b.1.1 b.1.2.1 b.2.1⟩], mkWr [] []⟩
def uc1 : vT4 → Option (((ByteArray × (Int × ((List ua0) × Unit))) × (ByteArray × (Bool × Unit))) × Unit)
 | .start s0 =>
  (uQ2 s0 (⟨#[40, 44, 41]⟩ : ByteArray) (ui8 (.start s0 (⟨#[40, 44, 41]⟩ : ByteArray)))) >>= fun t1 =>
  if (decide (t1.1.1 < (0 : Int))) = true then
   uc1 (.p15 s0 (s0.size : Int) (⟨#[]⟩ : ByteArray) (0 : Int))
  else
   uc1 (.p15 s0 t1.1.1 (⟨#[]⟩ : ByteArray) (0 : Int))
 | .p15 s0 n5 C0 C1 =>
  (span s0.size (0 : Int) n5) >>= fun t1 =>
  (span s0.size n5 (s0.size : Int)) >>= fun t2 =>
  (uT7 (s0.extract t1.1 t1.2, ()) ()) >>= fun t3 =>
  if (!t3.1.2.1) = true then
   (uy4 (t3.1.1, ()) ()) >>= fun t4 =>
   if (seq t4.1.1 (s0.extract t1.1 t1.2)) = true then
    (ug5 (.start t3.1.1 (0 : Int) (99999 : Int))) >>= fun t5 =>
    some ((((⟨#[]⟩ : ByteArray), (t3.1.1, ([], ()))), (s0.extract t2.1 t2.2, (t5.1.1, ()))), ())
   else
    some ((((⟨#[]⟩ : ByteArray), (t3.1.1, ([], ()))), (s0.extract t2.1 t2.2, (false, ()))), ())
  else
   (ud9 (.start (s0.extract t1.1 t1.2))) >>= fun t6 =>
   if (!t6.1.1) = true then
    some (((C0, (C1, ([], ()))), (s0.extract t2.1 t2.2, (false, ()))), ())
   else
    (uv1 (.start (s0.extract t2.1 t2.2) (⟨#[40]⟩ : ByteArray))) >>= fun t7 =>
    uc1 (.p4088 t7.1.1 t7.1.2.1 (s0.extract t1.1 t1.2) C1 ([] : List ua0))
 | .p4088 rest3 has9 C0 C1 B1 =>
  if has9 = true then
   (uc1 (.start rest3)) >>= fun t1 =>
   if (!t1.1.2.2.1) = true then
    some (((C0, (C1, (B1, ()))), (t1.1.2.1, (false, ()))), ())
   else
    if (fits (List.length B1) (List.length ([(⟨t1.1.1.1, t1.1.1.2.1, t1.1.1.2.2.1⟩ : ua0)] : List ua0)) 48) = true then
     (uv1 (.start t1.1.2.1 (⟨#[44, 32]⟩ : ByteArray))) >>= fun t2 =>
     if t2.1.2.1 = true then
      uc1 (.p4088 t2.1.1 t2.1.2.1 C0 C1 (B1 ++ ([(⟨t1.1.1.1, t1.1.1.2.1, t1.1.1.2.2.1⟩ : ua0)] : List ua0)))
     else
      (uv1 (.start t2.1.1 (⟨#[41]⟩ : ByteArray))) >>= fun t3 =>
      if (!t3.1.2.1) = true then
       some (((C0, (C1, (B1 ++ ([(⟨t1.1.1.1, t1.1.1.2.1, t1.1.1.2.2.1⟩ : ua0)] : List ua0), ()))), (t3.1.1, (false, ()))), ())
      else
       uc1 (.p4088 t3.1.1 t2.1.2.1 C0 C1 (B1 ++ ([(⟨t1.1.1.1, t1.1.1.2.1, t1.1.1.2.2.1⟩ : ua0)] : List ua0)))
    else none
  else
   some (((C0, (C1, (B1, ()))), (rest3, (true, ()))), ())
 partial_fixpoint
def v64 : ua8 E := vB3.okc E_ok (run := uc1) (uc1.partial_correctness vB3.M fun run' ih => vB3.mk_ok E_ok [vB3.okc E_ok ih, v63, c_z6, c_z5, ux1, uP3, ut5] ih)
inductive vT5 where
 | start (s0 : ByteArray)
 | p31 (C0 : ByteArray) (C1 : Int) (D0 : ByteArray) (D1 : Int) (D2 : (List ua0))
def vN1 : Fb E vT5 ((ByteArray × (Int × ((List ua0) × Unit))) × (Int × Unit)) Unit := ⟨52, Tryz.f52, (.cons Rd.str.w .nil), .nil, fun a b => .start a.1, { rl := (.cons (.agg (.cons .str (.cons (.int .i64) (.cons (.sl 37 false) .nil)))) (.cons (.int .i64) .nil)), rb := .nil, deep := [(false, 0, 2, 37)], done := [0, 1] }, [⟨31, { slots := [2, 4] }, (.cons (.bp 0 0) (.cons (.bp 1 0) .nil)), (.cons (.var 37 (.cons .str (.cons (.int .i64) (.cons Rd.nl .nil)))) (.cons (.var 37 (.cons .str (.cons (.int .i64) (.cons (.sl 37 false) .nil)))) .nil)), fun a b => .p31 b.1.1 b.1.2.1 b.2.1.1 b.2.1.2.1 b.2.1.2.2.1⟩], mkWr [] []⟩
def ug8 : vT5 → Option (((ByteArray × (Int × ((List ua0) × Unit))) × (Int × Unit)) × Unit)
 | .start s0 =>
  if (decide ((s0.size : Int) > (60000 : Int))) = true then
   some ((((⟨#[]⟩ : ByteArray), ((0 : Int), ([], ()))), ((8 : Int), ())), ())
  else
   (uc1 (.start s0)) >>= fun t1 =>
   if (!t1.1.2.2.1) = true then
    some ((((⟨#[]⟩ : ByteArray), ((0 : Int), ([], ()))), ((7 : Int), ())), ())
   else
    if (!(seq t1.1.2.1 (⟨#[]⟩ : ByteArray))) = true then
     some ((((⟨#[]⟩ : ByteArray), ((0 : Int), ([], ()))), ((7 : Int), ())), ())
    else
     ug8 (.p31 (⟨#[]⟩ : ByteArray) (0 : Int) t1.1.1.1 t1.1.1.2.1 t1.1.1.2.2.1)
 | .p31 C0 C1 D0 D1 D2 =>
  (uu7 (.start D0 D1 D2)) >>= fun t1 =>
  if (t1.1.1 != (0 : Int)) = true then
   some ((((⟨#[]⟩ : ByteArray), ((0 : Int), ([], ()))), (t1.1.1, ())), ())
  else
   some (((D0, (D1, (D2, ()))), ((0 : Int), ())), ())
 partial_fixpoint
def v65 : ua8 E := vN1.okc E_ok (run := ug8) (ug8.partial_correctness vN1.M fun run' ih => vN1.mk_ok E_ok [vO2, v64] ih)
inductive vT6 where
 | start (c0 : Int)
def vN2 : Fb E vT6 (Bool × Unit) Unit := ⟨132, Tryz.f132, (.cons (Rd.int .u8).w .nil), .nil, fun a b => .start a.1, { rl := (.cons .bool .nil), rb := .nil, done := [0] }, [], mkWr [] []⟩
def uY4 : vT6 → Option ((Bool × Unit) × Unit)
 | .start c0 =>
  if (decide (c0 ≥ (97 : Int))) = true then
   if (decide (c0 ≤ (122 : Int))) = true then
    some ((true, ()), ())
   else
    if (decide (c0 ≥ (65 : Int))) = true then
     if (decide (c0 ≤ (90 : Int))) = true then
      some ((true, ()), ())
     else
      if (decide (c0 ≥ (48 : Int))) = true then
       if (decide (c0 ≤ (57 : Int))) = true then
        some ((true, ()), ())
       else
        some ((c0 == (95 : Int), ()), ())
      else
       some ((c0 == (95 : Int), ()), ())
    else
     if (decide (c0 ≥ (48 : Int))) = true then
      if (decide (c0 ≤ (57 : Int))) = true then
       some ((true, ()), ())
      else
       some ((c0 == (95 : Int), ()), ())
     else
      some ((c0 == (95 : Int), ()), ())
  else
   if (decide (c0 ≥ (65 : Int))) = true then
    if (decide (c0 ≤ (90 : Int))) = true then
     some ((true, ()), ())
    else
     if (decide (c0 ≥ (48 : Int))) = true then
      if (decide (c0 ≤ (57 : Int))) = true then
       some ((true, ()), ())
      else
       some ((c0 == (95 : Int), ()), ())
     else
      some ((c0 == (95 : Int), ()), ())
   else
    if (decide (c0 ≥ (48 : Int))) = true then
     if (decide (c0 ≤ (57 : Int))) = true then
      some ((true, ()), ())
     else
      some ((c0 == (95 : Int), ()), ())
    else
     some ((c0 == (95 : Int), ()), ())
def v66 : ua8 E := vN2.okc E_ok (run := uY4) (vN2.mk_ok E_ok [] vN2.none)
inductive vT7 where
 | start (s0 : ByteArray) (digits1 : Int)
 | p15 (s0 : ByteArray) (digits1 : Int) (at6 : Int)
 | p31 (s0 : ByteArray) (at6 : Int)
 | p1012 (s0 : ByteArray) (at6 : Int) (n7 : Int) (i8 : Int)
 | p16201 (s0 : ByteArray) (at6 : Int) (n7 : Int) (i8 : Int)
def vN3 : Fb E vT7 (Int × (Bool × Unit)) Unit := ⟨133, Tryz.f133, (.cons Rd.str.w (.cons (Rd.int .i64).w .nil)), .nil, fun a b => .start a.1 a.2.1, { rl := (.cons (.int .i64) (.cons .bool .nil)), rb := .nil, done := [0, 1] }, [⟨15, { slots := [0, 1, 6] }, (.cons .str (.cons (.int .i64) (.cons (.int .i64) .nil))), .nil, fun a b => .p15 a.1 a.2.1 a.2.2.1⟩,
 ⟨31, { slots := [0, 6] }, (.cons .str (.cons (.int .i64) .nil)), .nil, fun a b => .p31 a.1 a.2.1⟩,
 ⟨1012, { slots := [0, 6, 7, 8] }, (.cons .str (.cons (.int .i64) (.cons (.int .i64) (.cons (.int .i64) .nil)))), .nil, fun a b => .p1012 a.1 a.2.1 a.2.2.1 a.2.2.2.1⟩,
 ⟨16201, { slots := [0, 6, 7, 8] }, (.cons .str (.cons (.int .i64) (.cons (.int .i64) (.cons (.int .i64) .nil)))), .nil, fun a b => .p16201 a.1 a.2.1 a.2.2.1 a.2.2.2.1⟩], mkWr [] []⟩
def uc6 : vT7 → Option ((Int × (Bool × Unit)) × Unit)
 | .start s0 digits1 =>
  if (decide ((s0.size : Int) > (0 : Int))) = true then
   (sidx s0 (0 : Int)) >>= fun t1 =>
   if (t1 == (45 : Int)) = true then
    uc6 (.p15 s0 digits1 (1 : Int))
   else
    uc6 (.p15 s0 digits1 (0 : Int))
  else
   uc6 (.p15 s0 digits1 (0 : Int))
 | .p15 s0 digits1 at6 =>
  if ((s0.size : Int) == at6) = true then
   some (((0 : Int), (false, ())), ())
  else
   if (decide ((IntKind.wrap .i64 ((s0.size : Int) - at6)) > digits1)) = true then
    some (((0 : Int), (false, ())), ())
   else
    (sidx s0 at6) >>= fun t1 =>
    if (t1 == (48 : Int)) = true then
     if (decide ((s0.size : Int) > (1 : Int))) = true then
      some (((0 : Int), (false, ())), ())
     else
      uc6 (.p31 s0 at6)
    else
     uc6 (.p31 s0 at6)
 | .p31 s0 at6 =>
  uc6 (.p1012 s0 at6 (0 : Int) at6)
 | .p1012 s0 at6 n7 i8 =>
  if (decide (i8 < (s0.size : Int))) = true then
   (sidx s0 i8) >>= fun t1 =>
   if (decide (t1 < (48 : Int))) = true then
    some (((0 : Int), (false, ())), ())
   else
    (sidx s0 i8) >>= fun t2 =>
    if (decide (t2 > (57 : Int))) = true then
     some (((0 : Int), (false, ())), ())
    else
     uc6 (.p16201 s0 at6 n7 i8)
  else
   if (at6 == (1 : Int)) = true then
    some ((IntKind.wrap .i64 (0 - n7), (true, ())), ())
   else
    some ((n7, (true, ())), ())
 | .p16201 s0 at6 n7 i8 =>
  (sidx s0 i8) >>= fun t1 =>
  uc6 (.p1012 s0 at6 (IntKind.wrap .i64 ((IntKind.wrap .i64 ((10 : Int) * n7)) + (IntKind.wrap .i64 (IntKind.wrap .u8 (t1 - (48 : Int)))))) (IntKind.wrap .i64 (i8 + (1 : Int))))
 partial_fixpoint
def v67 : ua8 E := vN3.okc E_ok (run := uc6) (uc6.partial_correctness vN3.M fun run' ih => vN3.mk_ok E_ok [] ih)
inductive vT8 where
 | start (s0 : ByteArray)
 | p7 (s0 : ByteArray)
 | p116 (s0 : ByteArray) (i3 : Int)
 | p3731 (s0 : ByteArray) (i3 : Int) (c4 : Int) (letter5 : Bool)
def vN4 : Fb E vT8 (Bool × Unit) Unit := ⟨118, Tryz.f118, (.cons Rd.str.w .nil), .nil, fun a b => .start a.1, { rl := (.cons .bool .nil), rb := .nil, done := [0] }, [⟨7, { slots := [0] }, (.cons .str .nil), .nil, fun a b => .p7 a.1⟩,
 ⟨116, { slots := [0, 3] }, (.cons .str (.cons (.int .i64) .nil)), .nil, fun a b => .p116 a.1 a.2.1⟩,
 ⟨3731, { slots := [0, 3, 4, 5] }, (.cons .str (.cons (.int .i64) (.cons (.int .u8) (.cons .bool .nil)))), .nil, fun a b => .p3731 a.1 a.2.1 a.2.2.1 a.2.2.2.1⟩], mkWr [] []⟩
def uc9 : vT8 → Option ((Bool × Unit) × Unit)
 | .start s0 =>
  if (decide ((s0.size : Int) < (1 : Int))) = true then
   some ((false, ()), ())
  else
   if (decide ((s0.size : Int) > (16 : Int))) = true then
    some ((false, ()), ())
   else
    uc9 (.p7 s0)
 | .p7 s0 =>
  uc9 (.p116 s0 (0 : Int))
 | .p116 s0 i3 =>
  if (decide (i3 < (s0.size : Int))) = true then
   (sidx s0 i3) >>= fun t1 =>
   if (decide (t1 ≥ (97 : Int))) = true then
    if (decide (t1 ≤ (122 : Int))) = true then
     uc9 (.p3731 s0 i3 t1 true)
    else
     if (decide (t1 ≥ (65 : Int))) = true then
      uc9 (.p3731 s0 i3 t1 (decide (t1 ≤ (90 : Int))))
     else
      uc9 (.p3731 s0 i3 t1 false)
   else
    if (decide (t1 ≥ (65 : Int))) = true then
     uc9 (.p3731 s0 i3 t1 (decide (t1 ≤ (90 : Int))))
    else
     uc9 (.p3731 s0 i3 t1 false)
  else
   some ((true, ()), ())
 | .p3731 s0 i3 c4 letter5 =>
  if (!letter5) = true then
   if (i3 == (0 : Int)) = true then
    some ((false, ()), ())
   else
    if (c4 != (95 : Int)) = true then
     if (decide (c4 < (48 : Int))) = true then
      some ((false, ()), ())
     else
      if (decide (c4 > (57 : Int))) = true then
       some ((false, ()), ())
      else
       uc9 (.p116 s0 (IntKind.wrap .i64 (i3 + (1 : Int))))
    else
     uc9 (.p116 s0 (IntKind.wrap .i64 (i3 + (1 : Int))))
  else
   uc9 (.p116 s0 (IntKind.wrap .i64 (i3 + (1 : Int))))
 partial_fixpoint
def vW3 : ua8 E := vN4.okc E_ok (run := uc9) (uc9.partial_correctness vN4.M fun run' ih => vN4.mk_ok E_ok [] ih)
inductive vT9 where
 | start (s0 : ByteArray) (at1 : Int)
 | p56 (s0 : ByteArray) (at1 : Int) (end6 : Int) (C0 : ByteArray) (C1 : Int)
 | p15 (s0 : ByteArray) (at1 : Int) (end6 : Int) (C0 : ByteArray) (C1 : Int)
 | p251 (s0 : ByteArray) (end6 : Int) (word7 : ByteArray) (n8 : Int) (s39 : Bool) (C0 : ByteArray) (C1 : Int)
 | p511 (s0 : ByteArray) (end6 : Int) (C0 : ByteArray) (C1 : Int) (D0 : ByteArray) (D1 : Int)
 | p2044 (s0 : ByteArray) (end6 : Int) (C0 : ByteArray) (C1 : Int) (D0 : ByteArray) (D1 : Int) (B2 : (List ua0))
 | p16355 (s0 : ByteArray) (next12 : Int) (C0 : ByteArray) (C1 : Int) (D0 : ByteArray) (D1 : Int) (G0 : ByteArray) (G1 : Int) (G2 : (List ua0)) (B3 : (List ua0))
def vB4 : Fb E vT9 ((ByteArray × (Int × ((List ua0) × Unit))) × (Int × Unit)) Unit := ⟨96, Tryz.f96, (.cons Rd.str.w (.cons (Rd.int .i64).w .nil)), .nil, fun a b => .start a.1 a.2.1, { rl := (.cons (.agg (.cons .str (.cons (.int .i64) (.cons (.sl 37 false) .nil)))) (.cons (.int .i64) .nil)), rb := .nil, deep := [(false, 0, 2, 37)], done := [0, 1] }, [⟨56, { slots := [0, 1, 4, 6] }, (.cons .str (.cons (.int .i64) (.cons (.bp 0 0) (.cons (.int .i64) .nil)))), (.cons (.var 37 (.cons .str (.cons (.int .i64) (.cons Rd.nl .nil)))) .nil), fun a b => .p56 a.1 a.2.1 a.2.2.2.1 b.1.1 b.1.2.1⟩,
 ⟨15, { slots := [0, 1, 4, 6] }, (.cons .str (.cons (.int .i64) (.cons (.bp 0 0) (.cons (.int .i64) .nil)))), (.cons (.var 37 (.cons .str (.cons (.int .i64) (.cons Rd.nl .nil)))) .nil), fun a b => .p15 a.1 a.2.1 a.2.2.2.1 b.1.1 b.1.2.1⟩,
 ⟨251, { slots := [0, 4, 6, 7, 8, 39] }, (.cons .str (.cons (.bp 0 0) (.cons (.int .i64) (.cons .str (.cons (.int .i64) (.cons .bool .nil)))))), (.cons (.var 37 (.cons .str (.cons (.int .i64) (.cons Rd.nl .nil)))) .nil), fun a b => .p251 a.1 a.2.2.1 a.2.2.2.1 a.2.2.2.2.1 a.2.2.2.2.2.1 b.1.1 b.1.2.1⟩,
 ⟨511, { slots := [0, 4, 6, 10] }, (.cons .str (.cons (.bp 0 0) (.cons (.int .i64) (.cons (.bp 1 0) .nil)))), (.cons (.var 37 (.cons .str (.cons (.int .i64) (.cons Rd.nl .nil)))) (.cons (.var 37 (.cons .str (.cons (.int .i64) (.cons Rd.nl .nil)))) .nil)), fun a b => .p511 a.1 a.2.2.1 b.1.1 b.1.2.1 b.2.1.1 b.2.1.2.1⟩,
 ⟨2044, { slots := [0, 4, 6, 10], up := [(true, 10, 2, 37)] }, (.cons .str (.cons (.bp 0 0) (.cons (.int .i64) (.cons (.bp 1 0) .nil)))), (.cons (.var 37 (.cons .str (.cons (.int .i64) (.cons Rd.nl .nil)))) (.cons (.var 37 (.cons .str (.cons (.int .i64) (.cons (Rd.rw 2) .nil)))) (.cons (.row 37 false) .nil))), fun a b => .p2044 a.1 a.2.2.1 b.1.1 b.1.2.1 b.2.1.1 b.2.1.2.1 b.2.2.1⟩,
 ⟨16355, { slots := [0, 4, 10, 11, 12] }, (.cons .str (.cons (.bp 0 0) (.cons (.bp 1 0) (.cons (.bp 2 0) (.cons (.int .i64) .nil))))), (.cons (.var 37 (.cons .str (.cons (.int .i64) (.cons Rd.nl .nil)))) (.cons (.var 37 (.cons .str (.cons (.int .i64) (.cons (Rd.rw 3) .nil)))) (.cons (.var 37 (.cons .str (.cons (.int .i64) (.cons (.sl 37 false) .nil)))) (.cons (.row 37 false) .nil)))), fun a b => .p16355 a.1 a.2.2.2.2.1 b.1.1 b.1.2.1 b.2.1.1 b.2.1.2.1 b.2.2.1.1 b.2.2.1.2.1 b.2.2.1.2.2.1 b.2.2.2.1⟩], mkWr [] []⟩
def ub1 : vT9 → Option (((ByteArray × (Int × ((List ua0) × Unit))) × (Int × Unit)) × Unit)
 | .start s0 at1 =>
  ub1 (.p56 s0 at1 at1 (⟨#[]⟩ : ByteArray) (0 : Int))
 | .p56 s0 at1 end6 C0 C1 =>
  if (decide (end6 < (s0.size : Int))) = true then
   (sidx s0 end6) >>= fun t1 =>
   (uY4 (.start t1)) >>= fun t2 =>
   if t2.1.1 = true then
    ub1 (.p56 s0 at1 (IntKind.wrap .i64 (end6 + (1 : Int))) C0 C1)
   else
    ub1 (.p15 s0 at1 end6 C0 C1)
  else
   ub1 (.p15 s0 at1 end6 C0 C1)
 | .p15 s0 at1 end6 C0 C1 =>
  (span s0.size at1 end6) >>= fun t1 =>
  (uc6 (.start (s0.extract t1.1 t1.2) (5 : Int))) >>= fun t2 =>
  if t2.1.2.1 = true then
   ub1 (.p251 s0 end6 (s0.extract t1.1 t1.2) t2.1.1 (decide (t2.1.1 ≥ (0 : Int))) C0 C1)
  else
   ub1 (.p251 s0 end6 (s0.extract t1.1 t1.2) t2.1.1 false C0 C1)
 | .p251 s0 end6 word7 n8 s39 C0 C1 =>
  if s39 = true then
   some ((((⟨#[]⟩ : ByteArray), (n8, ([], ()))), (end6, ())), ())
  else
   (uc9 (.start word7)) >>= fun t1 =>
   if (!t1.1.1) = true then
    some ((((⟨#[]⟩ : ByteArray), ((0 : Int), ([], ()))), ((-1 : Int), ())), ())
   else
    if (end6 == (s0.size : Int)) = true then
     some (((word7, ((0 : Int), ([], ()))), (end6, ())), ())
    else
     (sidx s0 end6) >>= fun t2 =>
     if (t2 != (40 : Int)) = true then
      some (((word7, ((0 : Int), ([], ()))), (end6, ())), ())
     else
      ub1 (.p511 s0 end6 C0 C1 word7 (0 : Int))
 | .p511 s0 end6 C0 C1 D0 D1 =>
  ub1 (.p2044 s0 end6 C0 C1 D0 D1 ([] : List ua0))
 | .p2044 s0 end6 C0 C1 D0 D1 B2 =>
  (ub1 (.start s0 (IntKind.wrap .i64 (end6 + (1 : Int))))) >>= fun t1 =>
  if (decide (t1.1.2.1 < (0 : Int))) = true then
   some ((((⟨#[]⟩ : ByteArray), ((0 : Int), ([], ()))), ((-1 : Int), ())), ())
  else
   if (t1.1.2.1 == (s0.size : Int)) = true then
    some ((((⟨#[]⟩ : ByteArray), ((0 : Int), ([], ()))), ((-1 : Int), ())), ())
   else
    ub1 (.p16355 s0 t1.1.2.1 C0 C1 D0 D1 t1.1.1.1 t1.1.1.2.1 t1.1.1.2.2.1 B2)
 | .p16355 s0 next12 C0 C1 D0 D1 G0 G1 G2 B3 =>
  if (fits (List.length B3) (List.length ([(⟨G0, G1, G2⟩ : ua0)] : List ua0)) 48) = true then
   (sidx s0 next12) >>= fun t1 =>
   if (t1 == (41 : Int)) = true then
    some (((D0, (D1, (B3 ++ ([(⟨G0, G1, G2⟩ : ua0)] : List ua0), ()))), (IntKind.wrap .i64 (next12 + (1 : Int)), ())), ())
   else
    (sidx s0 next12) >>= fun t2 =>
    if (t2 != (44 : Int)) = true then
     some ((((⟨#[]⟩ : ByteArray), ((0 : Int), ([], ()))), ((-1 : Int), ())), ())
    else
     if ((IntKind.wrap .i64 (next12 + (1 : Int))) == (s0.size : Int)) = true then
      some ((((⟨#[]⟩ : ByteArray), ((0 : Int), ([], ()))), ((-1 : Int), ())), ())
     else
      (sidx s0 (IntKind.wrap .i64 (next12 + (1 : Int)))) >>= fun t3 =>
      if (t3 != (32 : Int)) = true then
       some ((((⟨#[]⟩ : ByteArray), ((0 : Int), ([], ()))), ((-1 : Int), ())), ())
      else
       ub1 (.p2044 s0 (IntKind.wrap .i64 (next12 + (1 : Int))) C0 C1 D0 D1 (B3 ++ ([(⟨G0, G1, G2⟩ : ua0)] : List ua0)))
  else none
 partial_fixpoint
def v68 : ua8 E := vB4.okc E_ok (run := ub1) (ub1.partial_correctness vB4.M fun run' ih => vB4.mk_ok E_ok [vB4.okc E_ok ih, vW3, v67, v66] ih)
inductive vU0 where
 | start (v0_0 : ByteArray) (v0_1 : Int) (v0_2 : (List ua0)) (depth1 : Int) (count2 : Int)
 | p15 (depth1 : Int) (count2 : Int) (C0 : ByteArray) (C1 : Int) (C2 : (List ua0))
 | p244 (depth1 : Int) (count2 : Int) (i7 : Int) (C0 : ByteArray) (C1 : Int) (C2 : (List ua0))
 | p489 (depth1 : Int) (count2 : Int) (i7 : Int) (C0 : ByteArray) (C1 : Int) (C2 : (List ua0))
def vB5 : Fb E vU0 (Int × Unit) Unit := ⟨72, Tryz.f72, (.cons (.agg (.cons Rd.str.w (.cons (Rd.int .i64).w (.cons (.sl 37) .nil)))) (.cons (Rd.int .i64).w (.cons (Rd.int .i64).w .nil))), .nil, fun a b => .start a.1.1 a.1.2.1 a.1.2.2.1 a.2.1 a.2.2.1, { rl := (.cons (.int .i64) .nil), rb := .nil, done := [0] }, [⟨15, { slots := [1, 2, 3] }, (.cons (.int .i64) (.cons (.int .i64) (.cons (.bp 0 0) .nil))), (.cons (.var 37 (.cons .str (.cons (.int .i64) (.cons (.sl 37 false) .nil)))) .nil), fun a b => .p15 a.1 a.2.1 b.1.1 b.1.2.1 b.1.2.2.1⟩,
 ⟨244, { slots := [1, 2, 3, 7] }, (.cons (.int .i64) (.cons (.int .i64) (.cons (.bp 0 0) (.cons (.int .i64) .nil)))), (.cons (.var 37 (.cons .str (.cons (.int .i64) (.cons (.sl 37 false) .nil)))) .nil), fun a b => .p244 a.1 a.2.1 a.2.2.2.1 b.1.1 b.1.2.1 b.1.2.2.1⟩,
 ⟨489, { slots := [1, 2, 3, 7] }, (.cons (.int .i64) (.cons (.int .i64) (.cons (.bp 0 0) (.cons (.int .i64) .nil)))), (.cons (.var 37 (.cons .str (.cons (.int .i64) (.cons (.sl 37 false) .nil)))) .nil), fun a b => .p489 a.1 a.2.1 a.2.2.2.1 b.1.1 b.1.2.1 b.1.2.2.1⟩], mkWr [] []⟩
def uf6 : vU0 → Option ((Int × Unit) × Unit)
 | .start v0_0 v0_1 v0_2 depth1 count2 =>
  if (decide (depth1 > (40 : Int))) = true then
   some (((201 : Int), ()), ())
  else
   if (decide ((IntKind.wrap .i64 (count2 + (1 : Int))) > (200 : Int))) = true then
    some (((201 : Int), ()), ())
   else
    if (decide ((List.length v0_2 : Int) > (200 : Int))) = true then
     some (((201 : Int), ()), ())
    else
     uf6 (.p15 depth1 (IntKind.wrap .i64 (count2 + (1 : Int))) v0_0 v0_1 v0_2)
 | .p15 depth1 count2 C0 C1 C2 =>
  uf6 (.p244 depth1 count2 (0 : Int) C0 C1 C2)
 | .p244 depth1 count2 i7 C0 C1 C2 =>
  if (decide (i7 < (List.length C2 : Int))) = true then
   if (decide (count2 ≤ (200 : Int))) = true then
    uf6 (.p489 depth1 count2 i7 C0 C1 C2)
   else
    some ((count2, ()), ())
  else
   some ((count2, ()), ())
 | .p489 depth1 count2 i7 C0 C1 C2 =>
  (idx C2 i7) >>= fun t1 =>
  (uf6 (.start t1.Name t1.Number t1.Parts (IntKind.wrap .i64 (depth1 + (1 : Int))) count2)) >>= fun t2 =>
  uf6 (.p244 depth1 t2.1.1 (IntKind.wrap .i64 (i7 + (1 : Int))) C0 C1 C2)
 partial_fixpoint
def v69 : ua8 E := vB5.okc E_ok (run := uf6) (uf6.partial_correctness vB5.M fun run' ih => vB5.mk_ok E_ok [vB5.okc E_ok ih] ih)
inductive vU1 where
 | start (v0_0 : ByteArray) (v0_1 : Int) (v0_2 : (List ua0))
def vN5 : Fb E vU1 (Bool × Unit) Unit := ⟨20, Tryz.f20, (.cons (.agg (.cons Rd.str.w (.cons (Rd.int .i64).w (.cons (.sl 37) .nil)))) .nil), .nil, fun a b => .start a.1.1 a.1.2.1 a.1.2.2.1, { rl := (.cons .bool .nil), rb := .nil, done := [0] }, [], mkWr [] []⟩
def uN8 : vU1 → Option ((Bool × Unit) × Unit)
 | .start v0_0 v0_1 v0_2 =>
  (uf6 (.start v0_0 v0_1 v0_2 (1 : Int) (0 : Int))) >>= fun t1 =>
  some ((decide (t1.1.1 ≤ (200 : Int)), ()), ())
def vW4 : ua8 E := vN5.okc E_ok (run := uN8) (vN5.mk_ok E_ok [v69] vN5.none)
inductive vU2 where
 | start (s0 : ByteArray)
def vN6 : Fb E vU2 ((ByteArray × (Int × ((List ua0) × Unit))) × (Int × Unit)) Unit := ⟨53, Tryz.f53, (.cons Rd.str.w .nil), .nil, fun a b => .start a.1, { rl := (.cons (.agg (.cons .str (.cons (.int .i64) (.cons (.sl 37 false) .nil)))) (.cons (.int .i64) .nil)), rb := .nil, deep := [(false, 0, 2, 37)], done := [0, 1] }, [], mkWr [] []⟩
def us3 : vU2 → Option (((ByteArray × (Int × ((List ua0) × Unit))) × (Int × Unit)) × Unit)
 | .start s0 =>
  if (decide ((s0.size : Int) > (60000 : Int))) = true then
   some ((((⟨#[]⟩ : ByteArray), ((0 : Int), ([], ()))), ((8 : Int), ())), ())
  else
   (ub1 (.start s0 (0 : Int))) >>= fun t1 =>
   if (t1.1.2.1 != (s0.size : Int)) = true then
    some ((((⟨#[]⟩ : ByteArray), ((0 : Int), ([], ()))), ((7 : Int), ())), ())
   else
    (uN8 (.start t1.1.1.1 t1.1.1.2.1 t1.1.1.2.2.1)) >>= fun t2 =>
    if (!t2.1.1) = true then
     some ((((⟨#[]⟩ : ByteArray), ((0 : Int), ([], ()))), ((8 : Int), ())), ())
    else
     some (((t1.1.1.1, (t1.1.1.2.1, (t1.1.1.2.2.1, ()))), ((0 : Int), ())), ())
def v71 : ua8 E := vN6.okc E_ok (run := us3) (vN6.mk_ok E_ok [vW4, v68] vN6.none)
inductive vU3 where
 | start (n0 : Int) (lo1 : Int) (hi2 : Int)
def vN7 : Fb E vU3 (Bool × Unit) Unit := ⟨17, Tryz.f17, (.cons (Rd.int .i64).w (.cons (Rd.int .i64).w (.cons (Rd.int .i64).w .nil))), .nil, fun a b => .start a.1 a.2.1 a.2.2.1, { rl := (.cons .bool .nil), rb := .nil, done := [0] }, [], mkWr [] []⟩
def uY5 : vU3 → Option ((Bool × Unit) × Unit)
 | .start n0 lo1 hi2 =>
  if (decide (lo1 ≤ n0)) = true then
   some ((decide (n0 ≤ hi2), ()), ())
  else
   some ((false, ()), ())
def v73 : ua8 E := vN7.okc E_ok (run := uY5) (vN7.mk_ok E_ok [] vN7.none)
inductive vU4 where
 | start (v0_0 : ByteArray) (v0_1 : Int) (v0_2 : (List ua0))
 | p7 (C0 : ByteArray) (C1 : Int) (C2 : (List ua0))
 | p15 (C0 : ByteArray) (C1 : Int) (C2 : (List ua0))
 | p500 (i3 : Int) (C0 : ByteArray) (C1 : Int) (C2 : (List ua0))
def vB6 : Fb E vU4 (Int × Unit) Unit := ⟨99, Tryz.f99, (.cons (.agg (.cons Rd.str.w (.cons (Rd.int .i64).w (.cons (.sl 37) .nil)))) .nil), .nil, fun a b => .start a.1.1 a.1.2.1 a.1.2.2.1, { rl := (.cons (.int .i64) .nil), rb := .nil, done := [0] }, [⟨7, { slots := [1] }, (.cons (.bp 0 0) .nil), (.cons (.var 37 (.cons .str (.cons (.int .i64) (.cons (.sl 37 false) .nil)))) .nil), fun a b => .p7 b.1.1 b.1.2.1 b.1.2.2.1⟩,
 ⟨15, { slots := [1] }, (.cons (.bp 0 0) .nil), (.cons (.var 37 (.cons .str (.cons (.int .i64) (.cons (.sl 37 false) .nil)))) .nil), fun a b => .p15 b.1.1 b.1.2.1 b.1.2.2.1⟩,
 ⟨500, { slots := [1, 3] }, (.cons (.bp 0 0) (.cons (.int .i64) .nil)), (.cons (.var 37 (.cons .str (.cons (.int .i64) (.cons (.sl 37 false) .nil)))) .nil), fun a b => .p500 a.2.1 b.1.1 b.1.2.1 b.1.2.2.1⟩], mkWr [] []⟩
def ud6 : vU4 → Option ((Int × Unit) × Unit)
 | .start v0_0 v0_1 v0_2 =>
  if (seq v0_0 (⟨#[]⟩ : ByteArray)) = true then
   if (decide ((List.length v0_2 : Int) > (0 : Int))) = true then
    some (((3 : Int), ()), ())
   else
    if (!(seq v0_0 (⟨#[]⟩ : ByteArray))) = true then
     if (v0_1 != (0 : Int)) = true then
      some (((3 : Int), ()), ())
     else
      ud6 (.p7 v0_0 v0_1 v0_2)
    else
     ud6 (.p7 v0_0 v0_1 v0_2)
  else
   if (!(seq v0_0 (⟨#[]⟩ : ByteArray))) = true then
    if (v0_1 != (0 : Int)) = true then
     some (((3 : Int), ()), ())
    else
     ud6 (.p7 v0_0 v0_1 v0_2)
   else
    ud6 (.p7 v0_0 v0_1 v0_2)
 | .p7 C0 C1 C2 =>
  if (!(seq C0 (⟨#[]⟩ : ByteArray))) = true then
   (uc9 (.start C0)) >>= fun t1 =>
   if (!t1.1.1) = true then
    some (((4 : Int), ()), ())
   else
    ud6 (.p15 C0 C1 C2)
  else
   ud6 (.p15 C0 C1 C2)
 | .p15 C0 C1 C2 =>
  (uY5 (.start C1 (0 : Int) (99999 : Int))) >>= fun t1 =>
  if (!t1.1.1) = true then
   some (((2 : Int), ()), ())
  else
   ud6 (.p500 (0 : Int) C0 C1 C2)
 | .p500 i3 C0 C1 C2 =>
  if (decide (i3 < (List.length C2 : Int))) = true then
   (idx C2 i3) >>= fun t1 =>
   (ud6 (.start t1.Name t1.Number t1.Parts)) >>= fun t2 =>
   if (t2.1.1 != (0 : Int)) = true then
    some ((t2.1.1, ()), ())
   else
    ud6 (.p500 (IntKind.wrap .i64 (i3 + (1 : Int))) C0 C1 C2)
  else
   some (((0 : Int), ()), ())
 partial_fixpoint
def v74 : ua8 E := vB6.okc E_ok (run := ud6) (ud6.partial_correctness vB6.M fun run' ih => vB6.mk_ok E_ok [vB6.okc E_ok ih, v73, vW3] ih)
inductive vU5 where
 | start (v0_0 : ByteArray) (v0_1 : Int) (v0_2 : (List ua0))
def vN8 : Fb E vU5 (Int × Unit) Unit := ⟨55, Tryz.f55, (.cons (.agg (.cons Rd.str.w (.cons (Rd.int .i64).w (.cons (.sl 37) .nil)))) .nil), .nil, fun a b => .start a.1.1 a.1.2.1 a.1.2.2.1, { rl := (.cons (.int .i64) .nil), rb := .nil, done := [0] }, [], mkWr [] []⟩
def uY6 : vU5 → Option ((Int × Unit) × Unit)
 | .start v0_0 v0_1 v0_2 =>
  (uN8 (.start v0_0 v0_1 v0_2)) >>= fun t1 =>
  if (!t1.1.1) = true then
   some (((8 : Int), ()), ())
  else
   (ud6 (.start v0_0 v0_1 v0_2)) >>= fun t2 =>
   some ((t2.1.1, ()), ())
def v77 : ua8 E := vN8.okc E_ok (run := uY6) (vN8.mk_ok E_ok [v74, vW4] vN8.none)
inductive vU6 where
 | start (n0 : Int)
def vN9 : Fb E vU6 (Int × Unit) Unit := ⟨137, Tryz.f137, (.cons (Rd.int .i64).w .nil), .nil, fun a b => .start a.1, { rl := (.cons (.int .i64) .nil), rb := .nil, done := [0] }, [], mkWr [] []⟩
def uY7 : vU6 → Option ((Int × Unit) × Unit)
 | .start n0 =>
  some ((if (IntKind.wrap .i64 (0 - n0)) > n0 then (IntKind.wrap .i64 (0 - n0)) else n0, ()), ())
def v78 : ua8 E := vN9.okc E_ok (run := uY7) (vN9.mk_ok E_ok [] vN9.none)
inductive vU7 where
 | start (n0 : Int)
 | p31 (n0 : Int) (s3 : ByteArray) (sign4 : ByteArray)
 | p248 (n0 : Int) (s3 : ByteArray) (sign4 : ByteArray)
def vO0 : Fb E vU7 (ByteArray × Unit) Unit := ⟨100, Tryz.f100, (.cons (Rd.int .i64).w .nil), .nil, fun a b => .start a.1, { rl := (.cons .str .nil), rb := .nil, done := [0] }, [⟨31, { slots := [0, 3, 4] }, (.cons (.int .i64) (.cons .str (.cons .str .nil))), .nil, fun a b => .p31 a.1 a.2.1 a.2.2.1⟩,
 ⟨248, { slots := [0, 3, 4] }, (.cons (.int .i64) (.cons .str (.cons .str .nil))), .nil, fun a b => .p248 a.1 a.2.1 a.2.2.1⟩], mkWr [] []⟩
def uk6 : vU7 → Option ((ByteArray × Unit) × Unit)
 | .start n0 =>
  if (n0 == (0 : Int)) = true then
   some (((⟨#[48]⟩ : ByteArray), ()), ())
  else
   if (decide (n0 < (0 : Int))) = true then
    uk6 (.p31 n0 (⟨#[]⟩ : ByteArray) (⟨#[45]⟩ : ByteArray))
   else
    uk6 (.p31 n0 (⟨#[]⟩ : ByteArray) (⟨#[]⟩ : ByteArray))
 | .p31 n0 s3 sign4 =>
  uk6 (.p248 n0 s3 sign4)
 | .p248 n0 s3 sign4 =>
  if (n0 != (0 : Int)) = true then
   if (!((10 : Int) == (0 : Int))) = true then
    (uY7 (.start (Int.tmod n0 (10 : Int)))) >>= fun t1 =>
    if (Nat.ble ((ug2 ([IntKind.wrap .u8 (IntKind.wrap .i64 ((48 : Int) + t1.1.1))] : List Int)).size + s3.size) 9223372036854775807) = true then
     if (!((10 : Int) == (0 : Int))) = true then
      uk6 (.p248 (IntKind.wrap .i64 (Int.tdiv n0 (10 : Int))) ((ug2 ([IntKind.wrap .u8 (IntKind.wrap .i64 ((48 : Int) + t1.1.1))] : List Int)) ++ s3) sign4)
     else none
    else none
   else none
  else
   if (Nat.ble (sign4.size + s3.size) 9223372036854775807) = true then
    some ((sign4 ++ s3, ()), ())
   else none
 partial_fixpoint
def v79 : ua8 E := vO0.okc E_ok (run := uk6) (uk6.partial_correctness vO0.M fun run' ih => vO0.mk_ok E_ok [v78] ih)
inductive vU8 where
 | start (v0_0 : ByteArray) (v0_1 : Int) (v0_2 : (List ua0))
 | p500 (t3 : ByteArray) (i4 : Int) (C0 : ByteArray) (C1 : Int) (C2 : (List ua0))
 | p8009 (t3 : ByteArray) (i4 : Int) (C0 : ByteArray) (C1 : Int) (C2 : (List ua0))
def vB7 : Fb E vU8 (ByteArray × Unit) Unit := ⟨56, Tryz.f56, (.cons (.agg (.cons Rd.str.w (.cons (Rd.int .i64).w (.cons (.sl 37) .nil)))) .nil), .nil, fun a b => .start a.1.1 a.1.2.1 a.1.2.2.1, { rl := (.cons .str .nil), rb := .nil, done := [0] }, [⟨500, { slots := [1, 3, 4] }, (.cons (.bp 0 0) (.cons .str (.cons (.int .i64) .nil))), (.cons (.var 37 (.cons .str (.cons (.int .i64) (.cons (.sl 37 false) .nil)))) .nil), fun a b => .p500 a.2.1 a.2.2.1 b.1.1 b.1.2.1 b.1.2.2.1⟩,
 ⟨8009, { slots := [1, 3, 4] }, (.cons (.bp 0 0) (.cons .str (.cons (.int .i64) .nil))), (.cons (.var 37 (.cons .str (.cons (.int .i64) (.cons (.sl 37 false) .nil)))) .nil), fun a b => .p8009 a.2.1 a.2.2.1 b.1.1 b.1.2.1 b.1.2.2.1⟩], mkWr [] []⟩
def uf7 : vU8 → Option ((ByteArray × Unit) × Unit)
 | .start v0_0 v0_1 v0_2 =>
  if (seq v0_0 (⟨#[]⟩ : ByteArray)) = true then
   (uk6 (.start v0_1)) >>= fun t1 =>
   some ((t1.1.1, ()), ())
  else
   if ((List.length v0_2 : Int) == (0 : Int)) = true then
    some ((v0_0, ()), ())
   else
    if (Nat.ble (v0_0.size + (⟨#[40]⟩ : ByteArray).size) 9223372036854775807) = true then
     uf7 (.p500 (v0_0 ++ (⟨#[40]⟩ : ByteArray)) (0 : Int) v0_0 v0_1 v0_2)
    else none
 | .p500 t3 i4 C0 C1 C2 =>
  if (decide (i4 < (List.length C2 : Int))) = true then
   if (decide (i4 > (0 : Int))) = true then
    if (Nat.ble (t3.size + (⟨#[44, 32]⟩ : ByteArray).size) 9223372036854775807) = true then
     uf7 (.p8009 (t3 ++ (⟨#[44, 32]⟩ : ByteArray)) i4 C0 C1 C2)
    else none
   else
    uf7 (.p8009 t3 i4 C0 C1 C2)
  else
   if (Nat.ble (t3.size + (⟨#[41]⟩ : ByteArray).size) 9223372036854775807) = true then
    some ((t3 ++ (⟨#[41]⟩ : ByteArray), ()), ())
   else none
 | .p8009 t3 i4 C0 C1 C2 =>
  (idx C2 i4) >>= fun t1 =>
  (uf7 (.start t1.Name t1.Number t1.Parts)) >>= fun t2 =>
  if (Nat.ble (t3.size + t2.1.1.size) 9223372036854775807) = true then
   uf7 (.p500 (t3 ++ t2.1.1) (IntKind.wrap .i64 (i4 + (1 : Int))) C0 C1 C2)
  else none
 partial_fixpoint
def v81 : ua8 E := vB7.okc E_ok (run := uf7) (uf7.partial_correctness vB7.M fun run' ih => vB7.mk_ok E_ok [vB7.okc E_ok ih, v79] ih)
inductive vU9 where
 | start (v0_0 : ByteArray) (v0_1 : Int) (v0_2 : (List ua0)) (s1 : ByteArray)
 | p127 (C0 : ByteArray) (C1 : Int) (C2 : (List ua0))
 | p1023 (t9 : ByteArray) (C0 : ByteArray) (C1 : Int) (C2 : (List ua0))
def vO1 : Fb E vU9 (Bool × Unit) Unit := ⟨9, Tryz.f9, (.cons (.agg (.cons Rd.str.w (.cons (Rd.int .i64).w (.cons (.sl 37) .nil)))) (.cons Rd.str.w .nil)), .nil, fun a b => .start a.1.1 a.1.2.1 a.1.2.2.1 a.2.1, { rl := (.cons .bool .nil), rb := .nil, done := [0] }, [⟨127, { slots := [2] }, (.cons (.bp 0 0) .nil), (.cons (.var 37 (.cons .str (.cons (.int .i64) (.cons (.sl 37 false) .nil)))) .nil), fun a b => .p127 b.1.1 b.1.2.1 b.1.2.2.1⟩,
 ⟨1023, { slots := [2, 9] }, (.cons (.bp 0 0) (.cons .str .nil)), (.cons (.var 37 (.cons .str (.cons (.int .i64) (.cons (.sl 37 false) .nil)))) .nil), fun a b => .p1023 a.2.1 b.1.1 b.1.2.1 b.1.2.2.1⟩], mkWr [] []⟩
def us4 : vU9 → Option ((Bool × Unit) × Unit)
 | .start v0_0 v0_1 v0_2 s1 =>
  (uN6 .start) >>= fun t1 =>
  if (!t1.1.1) = true then
   some ((false, ()), ())
  else
   if (decide ((s1.size : Int) > (300 : Int))) = true then
    some ((true, ()), ())
   else
    (ug8 (.start s1)) >>= fun t2 =>
    (us3 (.start s1)) >>= fun t3 =>
    if (t2.1.2.1 != t3.1.2.1) = true then
     some ((false, ()), ())
    else
     (uf1 (.start t2.1.1.1 t2.1.1.2.1 t2.1.1.2.2.1 t3.1.1.1 t3.1.1.2.1 t3.1.1.2.2.1)) >>= fun t4 =>
     if (!t4.1.1) = true then
      some ((false, ()), ())
     else
      us4 (.p127 v0_0 v0_1 v0_2)
 | .p127 C0 C1 C2 =>
  (uA0 (.start C0 C1 C2)) >>= fun t1 =>
  (uY6 (.start C0 C1 C2)) >>= fun t2 =>
  if (t2.1.1 != (0 : Int)) = true then
   if (t1.1.2.1 == t2.1.1) = true then
    some ((seq t1.1.1 (⟨#[]⟩ : ByteArray), ()), ())
   else
    some ((false, ()), ())
  else
   if (t1.1.2.1 != (0 : Int)) = true then
    some ((false, ()), ())
   else
    (uf7 (.start C0 C1 C2)) >>= fun t3 =>
    if (!(seq t1.1.1 t3.1.1)) = true then
     some ((false, ()), ())
    else
     us4 (.p1023 t1.1.1 C0 C1 C2)
 | .p1023 t9 C0 C1 C2 =>
  (ug8 (.start t9)) >>= fun t1 =>
  if (t1.1.2.1 == (0 : Int)) = true then
   (uf1 (.start t1.1.1.1 t1.1.1.2.1 t1.1.1.2.2.1 C0 C1 C2)) >>= fun t2 =>
   some ((t2.1.1, ()), ())
  else
   some ((false, ()), ())
 partial_fixpoint
def vO3 : ua8 E := vO1.okc E_ok (run := us4) (us4.partial_correctness vO1.M fun run' ih => vO1.mk_ok E_ok [v81, v77, vW1, vW2, v71, v65, v54] ih)
end
end Go.Proofs.YtaennkkcnhfglaaGreatDoor.Ev.F
