/- A part of the proof. -/
import Derived.Test.YtaennkkcnhfglaaGreatDoorOEvShelf
import Derived.Test.YtaennkkcnhfglaaGreatDoorOShelf
import Derived.Test.YtaennkkcnhfglaaGreatDoorOEvLib
import Derived.Test.YtaennkkcnhfglaaGreatDoorOEvFun
import Derived.Test.YtaennkkcnhfglaaGreatDoorOEvRun
import Derived.Test.YtaennkkcnhfglaaGreatDoorProg
set_option linter.unusedVariables false
set_option maxRecDepth 100000
namespace Go.Proofs.YtaennkkcnhfglaaGreatDoor.Ev.F
open Go.Proofs Go.Proofs.YtaennkkcnhfglaaGreatDoor.Ev
noncomputable section
structure ua1 where
 Kind : Int
 Value : Int
 Name : ByteArray
 Parts : (List ua1)
structure ua6 where
 Name : ByteArray
 Type_ : ua1
structure ua2 where
 Name : ByteArray
 Fields : (List ua6)
structure ua3 where
 Name : ByteArray
 Params : (List ByteArray)
 Constructors : (List ua2)
structure ur2 where
 list : (List ua3)
 params : (List ByteArray)
mutual
structure ua4 where
 bits : Int
 constructors : (Option (List data_variant))
structure data_variant where
 name : ByteArray
 fields : (List ua6)
 parts : (Option (List (Option ua4)))
end
structure ua5 where
 Name : ByteArray
 Number : Int
 Parts : (List ua5)
structure uC8 where
 a0 : Int
 a1 : Int
def S : Nat → Type
 | 5 => Int
 | 9 => ByteArray
 | 25 => ua1
 | 29 => Int
 | 37 => ua5
 | 56 => ua2
 | 58 => ua6
 | 103 => ua3
 | 105 => (Option ua4)
 | 107 => ur2
 | 125 => data_variant
 | 128 => ua4
 | 188 => Int
 | _ => Unit
def pk (e : Nat) : Pk S (S e) :=
 if h : e = 5 then h ▸ ((Pk.int .u8) : Pk S Int) else
 if h : e = 9 then h ▸ (Pk.str : Pk S ByteArray) else
 if h : e = 25 then h ▸ ((Pk.iso (Pk.cons (Pk.int .i64) (Pk.cons (Pk.int .i64) (Pk.cons Pk.str (Pk.cons (Pk.sl 25) Pk.unit)))) (fun a => (⟨a.1, a.2.1, a.2.2.1, a.2.2.2.1⟩ : ua1)) (fun x => (x.Kind, x.Value, x.Name, x.Parts, ())) (fun x => by cases x; rfl)) : Pk S ua1) else
 if h : e = 29 then h ▸ ((Pk.int .i64) : Pk S Int) else
 if h : e = 37 then h ▸ ((Pk.iso (Pk.cons Pk.str (Pk.cons (Pk.int .i64) (Pk.cons (Pk.sl 37) Pk.unit))) (fun a => (⟨a.1, a.2.1, a.2.2.1⟩ : ua5)) (fun x => (x.Name, x.Number, x.Parts, ())) (fun x => by cases x; rfl)) : Pk S ua5) else
 if h : e = 56 then h ▸ ((Pk.iso (Pk.cons Pk.str (Pk.cons (Pk.sl 58) Pk.unit)) (fun a => (⟨a.1, a.2.1⟩ : ua2)) (fun x => (x.Name, x.Fields, ())) (fun _ => rfl)) : Pk S ua2) else
 if h : e = 58 then h ▸ ((Pk.iso (Pk.cons Pk.str (Pk.cons (Pk.iso (Pk.cons (Pk.int .i64) (Pk.cons (Pk.int .i64) (Pk.cons Pk.str (Pk.cons (Pk.sl 25) Pk.unit)))) (fun a => (⟨a.1, a.2.1, a.2.2.1, a.2.2.2.1⟩ : ua1)) (fun x => (x.Kind, x.Value, x.Name, x.Parts, ())) (fun x => by cases x; rfl)) Pk.unit)) (fun a => (⟨a.1, a.2.1⟩ : ua6)) (fun x => (x.Name, x.Type_, ())) (fun _ => rfl)) : Pk S ua6) else
 if h : e = 103 then h ▸ ((Pk.iso (Pk.cons Pk.str (Pk.cons (Pk.sl 9) (Pk.cons (Pk.sl 56) Pk.unit))) (fun a => (⟨a.1, a.2.1, a.2.2.1⟩ : ua3)) (fun x => (x.Name, x.Params, x.Constructors, ())) (fun _ => rfl)) : Pk S ua3) else
 if h : e = 105 then h ▸ ((Pk.op 128) : Pk S (Option ua4)) else
 if h : e = 107 then h ▸ ((Pk.iso (Pk.cons (Pk.sl 103) (Pk.cons (Pk.sl 9) Pk.unit)) (fun a => (⟨a.1, a.2.1⟩ : ur2)) (fun x => (x.list, x.params, ())) (fun _ => rfl)) : Pk S ur2) else
 if h : e = 125 then h ▸ ((Pk.iso (Pk.cons Pk.str (Pk.cons (Pk.sl 58) (Pk.cons (Pk.so 105) Pk.unit))) (fun a => (⟨a.1, a.2.1, a.2.2.1⟩ : data_variant)) (fun x => (x.name, x.fields, x.parts, ())) (fun x => by cases x; rfl)) : Pk S data_variant) else
 if h : e = 128 then h ▸ ((Pk.iso (Pk.cons (Pk.int .i64) (Pk.cons (Pk.so 125) Pk.unit)) (fun a => (⟨a.1, a.2.1⟩ : ua4)) (fun x => (x.bits, x.constructors, ())) (fun x => by cases x; rfl)) : Pk S ua4) else
 if h : e = 188 then h ▸ ((Pk.int .u64) : Pk S Int) else
 Pk.no (Tryz.prog.cellsOf e)
theorem wn5 (e : Nat) : (pk e).len = Tryz.prog.cellsOf e := by
  unfold pk
  by_cases h : e = 5
  · subst h; kernel_rfl
  refine (congrArg Pk.len (dif_neg h)).trans ?_; clear h
  by_cases h : e = 9
  · subst h; kernel_rfl
  refine (congrArg Pk.len (dif_neg h)).trans ?_; clear h
  by_cases h : e = 25
  · subst h; kernel_rfl
  refine (congrArg Pk.len (dif_neg h)).trans ?_; clear h
  by_cases h : e = 29
  · subst h; kernel_rfl
  refine (congrArg Pk.len (dif_neg h)).trans ?_; clear h
  by_cases h : e = 37
  · subst h; kernel_rfl
  refine (congrArg Pk.len (dif_neg h)).trans ?_; clear h
  by_cases h : e = 56
  · subst h; kernel_rfl
  refine (congrArg Pk.len (dif_neg h)).trans ?_; clear h
  by_cases h : e = 58
  · subst h; kernel_rfl
  refine (congrArg Pk.len (dif_neg h)).trans ?_; clear h
  by_cases h : e = 103
  · subst h; kernel_rfl
  refine (congrArg Pk.len (dif_neg h)).trans ?_; clear h
  by_cases h : e = 105
  · subst h; kernel_rfl
  refine (congrArg Pk.len (dif_neg h)).trans ?_; clear h
  by_cases h : e = 107
  · subst h; kernel_rfl
  refine (congrArg Pk.len (dif_neg h)).trans ?_; clear h
  by_cases h : e = 125
  · subst h; kernel_rfl
  refine (congrArg Pk.len (dif_neg h)).trans ?_; clear h
  by_cases h : e = 128
  · subst h; kernel_rfl
  refine (congrArg Pk.len (dif_neg h)).trans ?_; clear h
  by_cases h : e = 188
  · subst h; kernel_rfl
  refine (congrArg Pk.len (dif_neg h)).trans ?_; clear h
  exact Pk.no_len _
def plain : Nat → Bool := fun t => mem t []
def byt (e : Nat) (s : ByteArray) : Option (List (S e)) := if h : e = 5 then some (h ▸ (ub3 s : List Int)) else none
theorem wi5 : ∀ e s l, byt e s = some l → Tryz.prog.underlying e = some (.int .u8) ∧ Tryz.prog.cellsOf e = 1 ∧ l.length = s.size ∧ ∀ i x, l[i]? = some x → (pk e).wt x = [.v (.int .u8 ((s.data.toList.getD i 0).toNat : Int))] := by
  intro e s l h
  unfold byt at h
  split at h
  · rename_i he; subst he; obtain rfl := Option.some.inj h
    exact ⟨by kernel_rfl, by kernel_rfl, (u17 s).1, fun i x hx => by rw [(u17 s).2 i x hx]; kernel_rfl⟩
  cases h
def wm2 : List Int := [1, 10, 100, 1000, 10000, 100000, 1000000, 10000000, 100000000, 1000000000, 10000000000, 100000000000, 1000000000000, 10000000000000, 100000000000000, 1000000000000000, 10000000000000000, 100000000000000000, 1000000000000000000, 10000000000000000000]
def wm3 : List Int := [0, 1, 28, 2, 29, 14, 24, 3, 30, 22, 20, 15, 25, 17, 4, 8, 31, 27, 13, 23, 21, 19, 16, 7, 26, 12, 18, 6, 11, 5, 10, 9]
def wm4 : List Int := [0, 1, 56, 2, 57, 49, 28, 3, 61, 58, 42, 50, 38, 29, 17, 4, 62, 47, 59, 36, 45, 43, 51, 22, 53, 39, 33, 30, 24, 18, 12, 5, 63, 55, 48, 27, 60, 41, 37, 16, 46, 35, 44, 21, 52, 32, 23, 11, 54, 26, 40, 15, 34, 20, 31, 10, 25, 14, 19, 9, 13, 8, 7, 6]
def vH2 : Nat → Option (AV S)
 | 3 => some (.ar 188 wm2)
 | 4 => some (.ar 5 wm3)
 | 5 => some (.ar 5 wm4)
 | _ => none
theorem vV3 : ∀ g x, vH2 g = some x → idsV x = [] := by
 intro g x h
 unfold vH2 at h
 split at h <;> first | (cases h; done) | (obtain rfl := Option.some.inj h; rfl)
def nums : (e : Nat) → List (S e) → Option (List Int)
 | 5, l => some l
 | _, _ => none
theorem wc2 : ∀ e l xs, nums e l = some xs → Tryz.prog.underlying e = some (.int .u8) ∧ xs.length = l.length ∧ ∀ (i : Nat) x n, l[i]? = some x → xs[i]? = some n → (pk e).wt x = [.v (.int .u8 n)] := by
  intro e l xs h
  unfold nums at h
  split at h
  · obtain rfl := Option.some.inj h
    exact ⟨by kernel_rfl, rfl, fun i x n hx hn => by obtain rfl : x = n := Option.some.inj (hx.symm.trans hn); kernel_rfl⟩
  · cases h
def held : Nat → Option (String × Array Value)
 | 3 => some ("internal/strconv.uint64pow10", (Go.Lib.pow10Tab.map fun z => Value.int .u64 z).toArray)
 | _ => none
def ro : Nat → Bool := fun f => mem f [113, 123, 161, 178]
def rc : Nat → List Nat
 | _ => []
def fr : Nat → Bool := fun f => mem f []
def flat : Nat → Bool := fun e => mem e []
def lk : Nat → Nat → Option Nat
 | 125, 2 => some 105
 | 128, 1 => some 125
 | _, _ => none
theorem wv0 : ∀ e j e1, lk e j = some e1 → ∀ y l, ((pk e).rd (((pk e).wt y).set j (.sl e1 l false))).isSome = true := by
  intro e j e1 h
  unfold lk at h
  split at h
  · obtain rfl := Option.some.inj h; exact fun y l => by kernel_rfl
  · obtain rfl := Option.some.inj h; exact fun y l => by kernel_rfl
  · cases h
noncomputable abbrev E : Env := wm6 Tryz.prog S pk vH2 plain byt nums held ro rc fr flat lk
theorem E_ok : E.Ok := vV9 wn5 (by kernel_rfl) vV3 (fun t h => by cases h) wi5 wc2 (fun e h => by cases h) wv0
def up3 : Con E := vG0 E 128
theorem uF7 : up3.Ok := vx8 (fn := Tryz.f128) (by kernel_rfl) (by kernel_rfl) (by kernel_rfl) (g := 3) rfl (fun n w h0 h1 ht => Tryz.strconv_Itoa n h0 h1 w ht)
def u27 : ub2 E := ⟨up3, uF7⟩
def up4 : Con E := vG1 E 136 9 uG2
theorem uF8 : up4.Ok := vx9 (fn := Tryz.f136) (by kernel_rfl) (by kernel_rfl) (by kernel_rfl) (fun x => x) (fun _ => rfl) (by kernel_rfl) (fun p u => congrArg (fun l => uG2 (l, p.2) u) (List.map_id' p.1).symm) (fun a c sep w => Tryz.strings_Join_none a c sep w) (fun bk o c xs sep w => Tryz.strings_Join bk o c xs sep w)
def u28 : ub2 E := ⟨up4, uF8⟩
def uk5 : Con E := uI8 E 189
def base : Spec E.S := (Con.add uk5 (Con.add up4 (Con.add up3 vI7)))
inductive P_z0 where
 | start
def b_z0 : Fb E P_z0 ((List ua3) × Unit) Unit := ⟨57, Tryz.f57, .nil, .nil, fun a b => .start, { rl := (.cons (.sl 103 true) .nil), rb := .nil, done := [0] }, [], mkWr [] []⟩
def uZ5 : P_z0 → Option (((List ua3) × Unit) × Unit)
 | .start =>
  some ((([(⟨(⟨#[77, 97, 121, 98, 101]⟩ : ByteArray), ([(⟨#[97]⟩ : ByteArray)] : List ByteArray), ([(⟨(⟨#[78, 111, 110, 101]⟩ : ByteArray), []⟩ : ua2), (⟨(⟨#[83, 111, 109, 101]⟩ : ByteArray), ([(⟨(⟨#[118, 97, 108, 117, 101]⟩ : ByteArray), (⟨(0 : Int), (0 : Int), (⟨#[97]⟩ : ByteArray), []⟩ : ua1)⟩ : ua6)] : List ua6)⟩ : ua2)] : List ua2)⟩ : ua3), (⟨(⟨#[80, 97, 105, 114]⟩ : ByteArray), ([(⟨#[97]⟩ : ByteArray), (⟨#[98]⟩ : ByteArray)] : List ByteArray), ([(⟨(⟨#[80, 97, 105, 114]⟩ : ByteArray), ([(⟨(⟨#[108, 101, 102, 116]⟩ : ByteArray), (⟨(0 : Int), (0 : Int), (⟨#[97]⟩ : ByteArray), []⟩ : ua1)⟩ : ua6), (⟨(⟨#[114, 105, 103, 104, 116]⟩ : ByteArray), (⟨(0 : Int), (0 : Int), (⟨#[98]⟩ : ByteArray), []⟩ : ua1)⟩ : ua6)] : List ua6)⟩ : ua2)] : List ua2)⟩ : ua3), (⟨(⟨#[67, 111, 108, 111, 114]⟩ : ByteArray), [], ([(⟨(⟨#[82, 101, 100]⟩ : ByteArray), []⟩ : ua2), (⟨(⟨#[71, 114, 101, 101, 110]⟩ : ByteArray), []⟩ : ua2), (⟨(⟨#[66, 108, 117, 101]⟩ : ByteArray), []⟩ : ua2)] : List ua2)⟩ : ua3)] : List ua3), ()), ())
def c_z0 : ub2 E := b_z0.okc E_ok (run := uZ5) (b_z0.mk_ok E_ok [] b_z0.none)
inductive P_z1 where
 | start (n0 : Int)
def b_z1 : Fb E P_z1 ((Int × (Int × (ByteArray × (Unit × Unit)))) × Unit) Unit := ⟨101, Tryz.f101, (.cons (Rd.int .i64).w .nil), .nil, fun a b => .start a.1, { rl := (.cons (.agg (.cons (.int .i64) (.cons (.int .i64) (.cons .str (.cons Rd.nl .nil))))) .nil), rb := .nil, done := [0] }, [], mkWr [] []⟩
def vu9 : P_z1 → Option (((Int × (Int × (ByteArray × (Unit × Unit)))) × Unit) × Unit)
 | .start n0 =>
  some ((((2 : Int), (n0, ((⟨#[]⟩ : ByteArray), ((), ())))), ()), ())
def c_z1 : ub2 E := b_z1.okc E_ok (run := vu9) (b_z1.mk_ok E_ok [] b_z1.none)
inductive P_z2 where
 | start (name0 : ByteArray) (parts1 : (List ua1))
def b_z2 : Fb E P_z2 ((Int × (Int × (ByteArray × ((List ua1) × Unit)))) × Unit) Unit := ⟨58, Tryz.f58, (.cons Rd.str.w (.cons (.sl 25) .nil)), .nil, fun a b => .start a.1 a.2.1, { rl := (.cons (.agg (.cons (.int .i64) (.cons (.int .i64) (.cons .str (.cons (.sl 25 false) .nil))))) .nil), rb := .nil, done := [0] }, [], mkWr [] []⟩
def uB0 : P_z2 → Option (((Int × (Int × (ByteArray × ((List ua1) × Unit)))) × Unit) × Unit)
 | .start name0 parts1 =>
  some ((((1 : Int), ((0 : Int), (name0, (parts1, ())))), ()), ())
def c_z2 : ub2 E := b_z2.okc E_ok (run := uB0) (b_z2.mk_ok E_ok [] b_z2.none)
inductive P_z3 where
 | start (n0 : Int)
def b_z3 : Fb E P_z3 ((Int × (Int × (ByteArray × ((List ua1) × Unit)))) × Unit) Unit := ⟨59, Tryz.f59, (.cons (Rd.int .i64).w .nil), .nil, fun a b => .start a.1, { rl := (.cons (.agg (.cons (.int .i64) (.cons (.int .i64) (.cons .str (.cons (.sl 25 false) .nil))))) .nil), rb := .nil, done := [0] }, [], mkWr [] []⟩
def u55 : P_z3 → Option (((Int × (Int × (ByteArray × ((List ua1) × Unit)))) × Unit) × Unit)
 | .start n0 =>
  (vu9 (.start n0)) >>= fun t1 =>
  (uB0 (.start (⟨#[66, 105, 116]⟩ : ByteArray) ([(⟨t1.1.1.1, t1.1.1.2.1, t1.1.1.2.2.1, []⟩ : ua1)] : List ua1))) >>= fun t2 =>
  some (((t2.1.1.1, (t2.1.1.2.1, (t2.1.1.2.2.1, (t2.1.1.2.2.2.1, ())))), ()), ())
def c_z3 : ub2 E := b_z3.okc E_ok (run := u55) (b_z3.mk_ok E_ok [c_z2, c_z1] b_z3.none)
inductive P_z4 where
 | start (s0 : (List ByteArray))
def b_z4 : Fb E P_z4 ((List ByteArray) × Unit) Unit := ⟨78, Tryz.f78, (.cons (.sl 9) .nil), .nil, fun a b => .start a.1, { rl := (.cons (.sl 9 true) .nil), rb := .nil, done := [0] }, [], mkWr [] []⟩
def u02 : P_z4 → Option (((List ByteArray) × Unit) × Unit)
 | .start s0 =>
  (bif decide ((List.length s0 : Int) = (List.length s0 : Int)) then span (List.length s0) (0 : Int) (List.length s0 : Int) else none) >>= fun t1 =>
  some ((cut s0 t1, ()), ())
def c_z4 : ub2 E := b_z4.okc E_ok (run := u02) (b_z4.mk_ok E_ok [] b_z4.none)
inductive P_z5 where
 | start (n0 : Int) (lo1 : Int) (hi2 : Int)
def b_z5 : Fb E P_z5 (Bool × Unit) Unit := ⟨70, Tryz.f70, (.cons (Rd.int .i64).w (.cons (Rd.int .i64).w (.cons (Rd.int .i64).w .nil))), .nil, fun a b => .start a.1 a.2.1 a.2.2.1, { rl := (.cons .bool .nil), rb := .nil, done := [0] }, [], mkWr [] []⟩
def uk6 : P_z5 → Option ((Bool × Unit) × Unit)
 | .start n0 lo1 hi2 =>
  if (decide (lo1 ≤ n0)) = true then
   some ((decide (n0 ≤ hi2), ()), ())
  else
   some ((false, ()), ())
def c_z5 : ub2 E := b_z5.okc E_ok (run := uk6) (b_z5.mk_ok E_ok [] b_z5.none)
inductive P_z6 where
 | start (s0 : ByteArray)
 | p52 (s0 : ByteArray) (s7 : (List Int)) (s8 : Int) (s9 : Int)
 | p3379 (s0 : ByteArray) (i3 : Int) (c4 : Int) (letter5 : Bool) (s7 : (List Int)) (s8 : Int) (s9 : Int)
def b_z6 : Fb E P_z6 (Bool × Unit) Unit := ⟨129, Tryz.f129, (.cons Rd.str.w .nil), .nil, fun a b => .start a.1, { rl := (.cons .bool .nil), rb := .nil, done := [0] }, [⟨52, { slots := [0, 7, 8, 9] }, (.cons .str (.cons (.sl 5 false) (.cons (.int .i64) (.cons (.int .i64) .nil)))), .nil, fun a b => .p52 a.1 a.2.1 a.2.2.1 a.2.2.2.1⟩,
 ⟨3379, { slots := [0, 3, 4, 5, 7, 8, 9] }, (.cons .str (.cons (.int .i64) (.cons (.int .u8) (.cons .bool (.cons (.sl 5 false) (.cons (.int .i64) (.cons (.int .i64) .nil))))))), .nil, fun a b => .p3379 a.1 a.2.1 a.2.2.1 a.2.2.2.1 a.2.2.2.2.1 a.2.2.2.2.2.1 a.2.2.2.2.2.2.1⟩], mkWr [] []⟩
def ug8 : P_z6 → Option ((Bool × Unit) × Unit)
 | .start s0 =>
  ug8 (.p52 s0 (ub3 s0) (List.length (ub3 s0) : Int) (0 : Int))
 | .p52 s0 s7 s8 s9 =>
  if (decide (s9 < s8)) = true then
   (idx s7 s9) >>= fun t1 =>
   if (decide ((97 : Int) ≤ t1)) = true then
    if (decide (t1 ≤ (122 : Int))) = true then
     ug8 (.p3379 s0 s9 t1 true s7 s8 s9)
    else
     if (decide ((65 : Int) ≤ t1)) = true then
      ug8 (.p3379 s0 s9 t1 (decide (t1 ≤ (90 : Int))) s7 s8 s9)
     else
      ug8 (.p3379 s0 s9 t1 false s7 s8 s9)
   else
    if (decide ((65 : Int) ≤ t1)) = true then
     ug8 (.p3379 s0 s9 t1 (decide (t1 ≤ (90 : Int))) s7 s8 s9)
    else
     ug8 (.p3379 s0 s9 t1 false s7 s8 s9)
  else
   (uk6 (.start (s0.size : Int) (1 : Int) (16 : Int))) >>= fun t2 =>
   some ((t2.1.1, ()), ())
 | .p3379 s0 i3 c4 letter5 s7 s8 s9 =>
  if (!letter5) = true then
   if (i3 == (0 : Int)) = true then
    some ((false, ()), ())
   else
    if (c4 != (95 : Int)) = true then
     if (decide (c4 < (48 : Int))) = true then
      some ((false, ()), ())
     else
      if (decide (c4 > (57 : Int))) = true then
       some ((false, ()), ())
      else
       ug8 (.p52 s0 s7 s8 (IntKind.wrap .i64 (s9 + (1 : Int))))
    else
     ug8 (.p52 s0 s7 s8 (IntKind.wrap .i64 (s9 + (1 : Int))))
  else
   ug8 (.p52 s0 s7 s8 (IntKind.wrap .i64 (s9 + (1 : Int))))
 partial_fixpoint
def c_z6 : ub2 E := b_z6.okc E_ok (run := ug8) (ug8.partial_correctness b_z6.M fun run' ih => b_z6.mk_ok E_ok [c_z5] ih)
inductive P_z7 where
 | start (is0 : Bool) (e1 : Int)
def b_z7 : Fb E P_z7 (Int × Unit) Unit := ⟨111, Tryz.f111, (.cons Rd.bool.w (.cons (Rd.int .i64).w .nil)), .nil, fun a b => .start a.1 a.2.1, { rl := (.cons (.int .i64) .nil), rb := .nil, done := [0] }, [], mkWr [] []⟩
def uc2 : P_z7 → Option ((Int × Unit) × Unit)
 | .start is0 e1 =>
  if is0 = true then
   some (((0 : Int), ()), ())
  else
   some ((e1, ()), ())
def c_z7 : ub2 E := b_z7.okc E_ok (run := uc2) (b_z7.mk_ok E_ok [] b_z7.none)
inductive P_z8 where
 | start (s0 : (List ByteArray)) (v1 : ByteArray)
 | p52 (s0 : (List ByteArray)) (v1 : ByteArray) (s7 : Int) (s8 : Int)
def b_z8 : Fb E P_z8 (Int × Unit) Unit := ⟨163, Tryz.f163, (.cons (.sl 9) (.cons Rd.str.w .nil)), .nil, fun a b => .start a.1 a.2.1, { rl := (.cons (.int .i64) .nil), rb := .nil, done := [0] }, [⟨52, { slots := [0, 1, 7, 8] }, (.cons (.sl 9 false) (.cons .str (.cons (.int .i64) (.cons (.int .i64) .nil)))), .nil, fun a b => .p52 a.1 a.2.1 a.2.2.1 a.2.2.2.1⟩], mkWr [] []⟩
def ut6 : P_z8 → Option ((Int × Unit) × Unit)
 | .start s0 v1 =>
  ut6 (.p52 s0 v1 (List.length s0 : Int) (0 : Int))
 | .p52 s0 v1 s7 s8 =>
  if (decide (s8 < s7)) = true then
   (idx s0 s8) >>= fun t1 =>
   if (seq v1 t1) = true then
    some ((s8, ()), ())
   else
    ut6 (.p52 s0 v1 s7 (IntKind.wrap .i64 (s8 + (1 : Int))))
  else
   some (((-1 : Int), ()), ())
 partial_fixpoint
def c_z8 : ub2 E := b_z8.okc E_ok (run := ut6) (ut6.partial_correctness b_z8.M fun run' ih => b_z8.mk_ok E_ok [] ih)
inductive P_z9 where
 | start (s0 : (List ByteArray)) (v1 : ByteArray)
def b_z9 : Fb E P_z9 (Bool × Unit) Unit := ⟨144, Tryz.f144, (.cons (.sl 9) (.cons Rd.str.w .nil)), .nil, fun a b => .start a.1 a.2.1, { rl := (.cons .bool .nil), rb := .nil, done := [0] }, [], mkWr [] []⟩
def u08 : P_z9 → Option ((Bool × Unit) × Unit)
 | .start s0 v1 =>
  (ut6 (.start s0 v1)) >>= fun t1 =>
  some ((decide (t1.1.1 ≥ (0 : Int)), ()), ())
def c_z9 : ub2 E := b_z9.okc E_ok (run := u08) (b_z9.mk_ok E_ok [c_z8] b_z9.none)
inductive vM6 where
 | start (l0 : (List Int))
 | p52 (s5 : (List Int)) (s6 : Int) (s7 : Int)
def v35 : Fb E vM6 (Int × Unit) Unit := ⟨69, Tryz.f69, (.cons (.sl 29) .nil), .nil, fun a b => .start a.1, { rl := (.cons (.int .i64) .nil), rb := .nil, done := [0] }, [⟨52, { slots := [5, 6, 7] }, (.cons (.sl 29 false) (.cons (.int .i64) (.cons (.int .i64) .nil))), .nil, fun a b => .p52 a.1 a.2.1 a.2.2.1⟩], mkWr [] []⟩
def uc8 : vM6 → Option ((Int × Unit) × Unit)
 | .start l0 =>
  uc8 (.p52 l0 (List.length l0 : Int) (0 : Int))
 | .p52 s5 s6 s7 =>
  if (decide (s7 < s6)) = true then
   (idx s5 s7) >>= fun t1 =>
   if (t1 != (0 : Int)) = true then
    some ((t1, ()), ())
   else
    uc8 (.p52 s5 s6 (IntKind.wrap .i64 (s7 + (1 : Int))))
  else
   some (((0 : Int), ()), ())
 partial_fixpoint
def vj5 : ub2 E := v35.okc E_ok (run := uc8) (uc8.partial_correctness v35.M fun run' ih => v35.mk_ok E_ok [] ih)
inductive vM7 where
 | start (name0 : ByteArray) (known1 : (List ByteArray))
def v36 : Fb E vM7 (Int × Unit) Unit := ⟨110, Tryz.f110, (.cons Rd.str.w (.cons (.sl 9) .nil)), .nil, fun a b => .start a.1 a.2.1, { rl := (.cons (.int .i64) .nil), rb := .nil, done := [0] }, [], mkWr [] []⟩
def uy6 : vM7 → Option ((Int × Unit) × Unit)
 | .start name0 known1 =>
  (ug8 (.start name0)) >>= fun t1 =>
  (uc2 (.start t1.1.1 (4 : Int))) >>= fun t2 =>
  (u08 (.start known1 name0)) >>= fun t3 =>
  (uc2 (.start (!t3.1.1) (5 : Int))) >>= fun t4 =>
  (uc8 (.start ([t2.1.1, t4.1.1] : List Int))) >>= fun t5 =>
  some ((t5.1.1, ()), ())
def vT9 : ub2 E := v36.okc E_ok (run := uy6) (v36.mk_ok E_ok [vj5, c_z9, c_z7, c_z6] v36.none)
inductive vM8 where
 | start (i0 : Int) (p1 : ByteArray) (s2 : ua3)
def v38 : Fb E vM8 (Int × Unit) Unit := ⟨113, Tryz.f113, (.cons (Rd.int .i64).w (.cons Rd.str.w (.cons (Rd.el 103 0).w .nil))), .nil, fun a b => .start a.1 a.2.1 a.2.2.1, { rl := (.cons (.int .i64) .nil), rb := .nil, done := [0] }, [], mkWr [] []⟩
def uZ6 : vM8 → Option ((Int × Unit) × Unit)
 | .start i0 p1 s2 =>
  (span (List.length s2.Params) (0 : Int) i0) >>= fun t1 =>
  (uy6 (.start p1 (cut s2.Params t1))) >>= fun t2 =>
  some ((t2.1.1, ()), ())
def wp7 : ub2 E := v38.okc E_ok (run := uZ6) (v38.mk_ok E_ok [vT9] v38.none)
inductive vM9 where
 | start (l0 : (List ByteArray)) (C0 : ByteArray) (C1 : (List ByteArray)) (C2 : (List ua2))
 | p52 (s9 : (List ByteArray)) (s10 : Int) (s11 : Int) (C0 : ByteArray) (C1 : (List ByteArray)) (C2 : (List ua2))
def v39 : Fb E vM9 (Int × (Int × Unit)) ((ByteArray × ((List ByteArray) × ((List ua2) × Unit))) × Unit) := ⟨112, Tryz.f112, (.cons (.sl 9) (.cons (Rd.fn 113 (.cons (.bp 0 0) .nil)).w .nil)), (.cons (.var 103 (.cons .str (.cons (.sl 9 false) (.cons (.sl 56 false) .nil)))) .nil), fun a b => .start a.1 b.1.1 b.1.2.1 b.1.2.2.1, { rl := (.cons (.int .i64) (.cons (.int .i64) .nil)), rb := (.cons (.var 103 (.cons .str (.cons (.sl 9 false) (.cons (.sl 56 false) .nil)))) .nil), keep := 1, done := [0, 1] }, [⟨52, { slots := [1, 9, 10, 11], keep := 1 }, (.cons (Rd.fn 113 (.cons (.bp 0 0) .nil)) (.cons (.sl 9 false) (.cons (.int .i64) (.cons (.int .i64) .nil)))), (.cons (.var 103 (.cons .str (.cons (.sl 9 false) (.cons (.sl 56 false) .nil)))) .nil), fun a b => .p52 a.2.1 a.2.2.1 a.2.2.2.1 b.1.1 b.1.2.1 b.1.2.2.1⟩], mkWr [] []⟩
def un6 : vM9 → Option ((Int × (Int × Unit)) × ((ByteArray × ((List ByteArray) × ((List ua2) × Unit))) × Unit))
 | .start l0 C0 C1 C2 =>
  un6 (.p52 l0 (List.length l0 : Int) (0 : Int) C0 C1 C2)
 | .p52 s9 s10 s11 C0 C1 C2 =>
  if (decide (s11 < s10)) = true then
   (idx s9 s11) >>= fun t1 =>
   (uZ6 (.start s11 t1 (⟨C0, C1, C2⟩ : ua3))) >>= fun t2 =>
   if (t2.1.1 != (0 : Int)) = true then
    some ((s11, (t2.1.1, ())), ((C0, (C1, (C2, ()))), ()))
   else
    un6 (.p52 s9 s10 (IntKind.wrap .i64 (s11 + (1 : Int))) C0 C1 C2)
  else
   some (((0 : Int), ((0 : Int), ())), ((C0, (C1, (C2, ()))), ()))
 partial_fixpoint
def wp8 : ub2 E := v39.okc E_ok (run := un6) (un6.partial_correctness v39.M fun run' ih => v39.mk_ok E_ok [wp7] ih)
inductive vN0 where
 | start (t0_0 : Int) (t0_1 : Int) (t0_2 : ByteArray) (t0_3 : (List ua1))
def v40 : Fb E vN0 ((List ua1) × Unit) Unit := ⟨140, Tryz.f140, (.cons (.agg (.cons (Rd.int .i64).w (.cons (Rd.int .i64).w (.cons Rd.str.w (.cons (.sl 25) .nil))))) .nil), .nil, fun a b => .start a.1.1 a.1.2.1 a.1.2.2.1 a.1.2.2.2.1, { rl := (.cons (.sl 25 false) .nil), rb := .nil, done := [0] }, [], mkWr [] []⟩
def uZ7 : vN0 → Option (((List ua1) × Unit) × Unit)
 | .start t0_0 t0_1 t0_2 t0_3 =>
  some ((t0_3, ()), ())
def wp9 : ub2 E := v40.okc E_ok (run := uZ7) (v40.mk_ok E_ok [] v40.none)
inductive vN1 where
 | start (x0_0 : Int) (x0_1 : Int) (x0_2 : ByteArray) (x0_3 : (List ua1)) (depth1 : Int) (B0 : Int)
 | p15 (depth1 : Int) (B0 : Int) (H0 : Int) (H1 : Int) (H2 : ByteArray) (H3 : (List ua1))
 | p244 (depth1 : Int) (s20 : (List ua1)) (s21 : Int) (s22 : Int) (B0 : Int)
def vS2 : Fb E vN1 (Bool × Unit) ((Int × Unit) × ((Unit × Unit) × (((Unit × (Unit × (Unit × Unit))) × Unit) × Unit))) := ⟨158, Tryz.f158, (.cons (.agg (.cons (Rd.int .i64).w (.cons (Rd.int .i64).w (.cons Rd.str.w (.cons (.sl 25) .nil))))) (.cons (Rd.int .i64).w (.cons (Rd.bp 0 0).w (.cons (Rd.bp 1 0).w (.cons (Rd.bp 2 0).w .nil))))), (.cons (.var 3 (.cons (.int .i64) .nil)) (.cons (.var 182 (.cons (Rd.fn 140 .nil) .nil)) (.cons (.var 200 (.cons (Rd.fn 158 (.cons (.bp 0 0) (.cons (.bp 1 0) (.cons (.bp 2 0) .nil)))) .nil)) .nil))), fun a b => .start a.1.1 a.1.2.1 a.1.2.2.1 a.1.2.2.2.1 a.2.1 b.1.1, { rl := (.cons .bool .nil), rb := (.cons (.var 3 (.cons (.int .i64) .nil)) (.cons (.var 182 (.cons (Rd.fn 140 .nil) .nil)) (.cons (.var 200 (.cons (Rd.fn 158 (.cons (.bp 0 0) (.cons (.bp 1 0) (.cons (.bp 2 0) .nil)))) .nil)) .nil))), keep := 3, done := [0] }, [⟨15, { slots := [1, 3, 4, 5], keep := 3 }, (.cons (.int .i64) (.cons (.bp 1 0) (.cons (.bp 2 0) (.cons (.bp 3 0) .nil)))), (.cons (.var 3 (.cons (.int .i64) .nil)) (.cons (.var 182 (.cons (Rd.fn 140 .nil) .nil)) (.cons (.var 200 (.cons (Rd.fn 158 (.cons (.bp 0 0) (.cons (.bp 1 0) (.cons (.bp 2 0) .nil)))) .nil)) (.cons (.var 25 (.cons (.int .i64) (.cons (.int .i64) (.cons .str (.cons (.sl 25 false) .nil))))) .nil)))), fun a b => .p15 a.1 b.1.1 b.2.2.2.1.1 b.2.2.2.1.2.1 b.2.2.2.1.2.2.1 b.2.2.2.1.2.2.2.1⟩,
 ⟨244, { slots := [1, 4, 20, 21, 22], keep := 3 }, (.cons (.int .i64) (.cons (.bp 2 0) (.cons (.sl 25 false) (.cons (.int .i64) (.cons (.int .i64) .nil))))), (.cons (.var 3 (.cons (.int .i64) .nil)) (.cons (.var 182 (.cons (Rd.fn 140 .nil) .nil)) (.cons (.var 200 (.cons (Rd.fn 158 (.cons (.bp 0 0) (.cons (.bp 1 0) (.cons (.bp 2 0) .nil)))) .nil)) .nil))), fun a b => .p244 a.1 a.2.2.1 a.2.2.2.1 a.2.2.2.2.1 b.1.1⟩], mkWr [] []⟩
def uj7 : vN1 → Option ((Bool × Unit) × ((Int × Unit) × ((Unit × Unit) × (((Unit × (Unit × (Unit × Unit))) × Unit) × Unit))))
 | .start x0_0 x0_1 x0_2 x0_3 depth1 B0 =>
  if (decide ((IntKind.wrap .i64 (B0 + (1 : Int))) > (200 : Int))) = true then
   some ((false, ()), ((IntKind.wrap .i64 (B0 + (1 : Int)), ()), (((), ()), ((((), ((), ((), ()))), ()), ()))))
  else
   if (decide (depth1 > (40 : Int))) = true then
    some ((false, ()), ((IntKind.wrap .i64 (B0 + (1 : Int)), ()), (((), ()), ((((), ((), ((), ()))), ()), ()))))
   else
    uj7 (.p15 depth1 (IntKind.wrap .i64 (B0 + (1 : Int))) x0_0 x0_1 x0_2 x0_3)
 | .p15 depth1 B0 H0 H1 H2 H3 =>
  (uZ7 (.start H0 H1 H2 H3)) >>= fun t1 =>
  uj7 (.p244 depth1 t1.1.1 (List.length t1.1.1 : Int) (0 : Int) B0)
 | .p244 depth1 s20 s21 s22 B0 =>
  if (decide (s22 < s21)) = true then
   (idx s20 s22) >>= fun t1 =>
   (uj7 (.start t1.Kind t1.Value t1.Name t1.Parts (IntKind.wrap .i64 (depth1 + (1 : Int))) B0)) >>= fun t2 =>
   if (!t2.1.1) = true then
    some ((false, ()), ((t2.2.1.1, ()), (((), ()), ((((), ((), ((), ()))), ()), ()))))
   else
    uj7 (.p244 depth1 s20 s21 (IntKind.wrap .i64 (s22 + (1 : Int))) t2.2.1.1)
  else
   some ((true, ()), ((B0, ()), (((), ()), ((((), ((), ((), ()))), ()), ()))))
 partial_fixpoint
def wq0 : ub2 E := vS2.okc E_ok (run := uj7) (uj7.partial_correctness vS2.M fun run' ih => vS2.mk_ok E_ok [vS2.okc E_ok ih, wp9] ih)
inductive vN2 where
 | start (root0_0 : Int) (root0_1 : Int) (root0_2 : ByteArray) (root0_3 : (List ua1))
def v41 : Fb E vN2 (Int × Unit) Unit := ⟨139, Tryz.f139, (.cons (.agg (.cons (Rd.int .i64).w (.cons (Rd.int .i64).w (.cons Rd.str.w (.cons (.sl 25) .nil))))) (.cons (Rd.fn 140 .nil).w .nil)), .nil, fun a b => .start a.1.1 a.1.2.1 a.1.2.2.1 a.1.2.2.2.1, { rl := (.cons (.int .i64) .nil), rb := .nil, done := [0] }, [], mkWr [] []⟩
def uG9 : vN2 → Option ((Int × Unit) × Unit)
 | .start root0_0 root0_1 root0_2 root0_3 =>
  (uj7 (.start root0_0 root0_1 root0_2 root0_3 (1 : Int) (0 : Int))) >>= fun t1 =>
  (uc2 (.start t1.1.1 (8 : Int))) >>= fun t2 =>
  some ((t2.1.1, ()), ())
def wk1 : ub2 E := v41.okc E_ok (run := uG9) (v41.mk_ok E_ok [c_z7, wq0] v41.none)
inductive vN3 where
 | start (d0_0 : ByteArray) (d0_1 : (List ByteArray)) (d0_2 : (List ua2)) (s1 : ByteArray)
def v42 : Fb E vN3 (Bool × Unit) Unit := ⟨178, Tryz.f178, (.cons (.agg (.cons Rd.str.w (.cons (.sl 9) (.cons (.sl 56) .nil)))) (.cons (Rd.el 9 0).w .nil)), .nil, fun a b => .start a.1.1 a.1.2.1 a.1.2.2.1 a.2.1, { rl := (.cons .bool .nil), rb := .nil, done := [0] }, [], mkWr [] []⟩
def uZ8 : vN3 → Option ((Bool × Unit) × Unit)
 | .start d0_0 d0_1 d0_2 s1 =>
  some ((seq d0_0 s1, ()), ())
def wq1 : ub2 E := v42.okc E_ok (run := uZ8) (v42.mk_ok E_ok [] v42.none)
inductive vN4 where
 | start (s0 : (List ua3)) (B0 : ByteArray)
 | p52 (s0 : (List ua3)) (s7 : Int) (s8 : Int) (B0 : ByteArray)
def v43 : Fb E vN4 (Int × Unit) ((ByteArray × Unit) × Unit) := ⟨177, Tryz.f177, (.cons (.sl 103) (.cons (Rd.fn 178 (.cons (.bp 0 0) .nil)).w .nil)), (.cons (.var 9 (.cons .str .nil)) .nil), fun a b => .start a.1 b.1.1, { rl := (.cons (.int .i64) .nil), rb := (.cons (.var 9 (.cons .str .nil)) .nil), keep := 1, done := [0] }, [⟨52, { slots := [0, 1, 7, 8], keep := 1 }, (.cons (.sl 103 false) (.cons (Rd.fn 178 (.cons (.bp 0 0) .nil)) (.cons (.int .i64) (.cons (.int .i64) .nil)))), (.cons (.var 9 (.cons .str .nil)) .nil), fun a b => .p52 a.1 a.2.2.1 a.2.2.2.1 b.1.1⟩], mkWr [] []⟩
def un7 : vN4 → Option ((Int × Unit) × ((ByteArray × Unit) × Unit))
 | .start s0 B0 =>
  un7 (.p52 s0 (List.length s0 : Int) (0 : Int) B0)
 | .p52 s0 s7 s8 B0 =>
  if (decide (s8 < s7)) = true then
   (idx s0 s8) >>= fun t1 =>
   (uZ8 (.start t1.Name t1.Params t1.Constructors B0)) >>= fun t2 =>
   if t2.1.1 = true then
    some ((s8, ()), ((B0, ()), ()))
   else
    un7 (.p52 s0 s7 (IntKind.wrap .i64 (s8 + (1 : Int))) B0)
  else
   some (((-1 : Int), ()), ((B0, ()), ()))
 partial_fixpoint
def wq2 : ub2 E := v43.okc E_ok (run := un7) (un7.partial_correctness v43.M fun run' ih => v43.mk_ok E_ok [wq1] ih)
inductive vN5 where
 | start (s0_0 : (List ua3)) (s0_1 : (List ByteArray)) (name1 : ByteArray)
def v44 : Fb E vN5 ((ByteArray × ((List ByteArray) × ((List ua2) × Unit))) × (Bool × Unit)) Unit := ⟨159, Tryz.f159, (.cons (.agg (.cons (.sl 103) (.cons (.sl 9) .nil))) (.cons Rd.str.w .nil)), .nil, fun a b => .start a.1.1 a.1.2.1 a.2.1, { rl := (.cons (.agg (.cons .str (.cons (.sl 9 false) (.cons (.sl 56 false) .nil)))) (.cons .bool .nil)), rb := .nil, deep := [(false, 0, 1, 9), (false, 0, 2, 56)], done := [0, 1] }, [], mkWr [] []⟩
def uH0 : vN5 → Option (((ByteArray × ((List ByteArray) × ((List ua2) × Unit))) × (Bool × Unit)) × Unit)
 | .start s0_0 s0_1 name1 =>
  (un7 (.start s0_0 name1)) >>= fun t1 =>
  if (decide (t1.1.1 < (0 : Int))) = true then
   some ((((⟨#[]⟩ : ByteArray), ([], ([], ()))), (false, ())), ())
  else
   (idx s0_0 t1.1.1) >>= fun t2 =>
   some (((t2.Name, (t2.Params, (t2.Constructors, ()))), (true, ())), ())
def wk2 : ub2 E := v44.okc E_ok (run := uH0) (v44.mk_ok E_ok [wq2] v44.none)
inductive vN6 where
 | start (s0 : Int) (x1_0 : Int) (x1_1 : Int) (x1_2 : ByteArray) (x1_3 : (List ua1)) (s2 : ur2)
def vE4 : Fb E vN6 (Int × Unit) Unit := ⟨161, Tryz.f161, (.cons (Rd.int .i64).w (.cons (.agg (.cons (Rd.int .i64).w (.cons (Rd.int .i64).w (.cons Rd.str.w (.cons (.sl 25) .nil))))) (.cons (Rd.el 107 0).w .nil))), .nil, fun a b => .start a.1 a.2.1.1 a.2.1.2.1 a.2.1.2.2.1 a.2.1.2.2.2.1 a.2.2.1, { rl := (.cons (.int .i64) .nil), rb := .nil, done := [0] }, [], mkWr [] []⟩
inductive vB6 where
 | start (s0_0 : (List ua3)) (s0_1 : (List ByteArray)) (t1_0 : Int) (t1_1 : Int) (t1_2 : ByteArray) (t1_3 : (List ua1))
 | p15 (count5 : Int) (C0 : (List ua3)) (C1 : (List ByteArray)) (D0 : Int) (D1 : Int) (D2 : ByteArray) (D3 : (List ua1))
 | p63 (C0 : (List ua3)) (C1 : (List ByteArray)) (D0 : Int) (D1 : Int) (D2 : ByteArray) (D3 : (List ua1))
def vw6 : Fb E vB6 (Int × Unit) Unit := ⟨141, Tryz.f141, (.cons (.agg (.cons (.sl 103) (.cons (.sl 9) .nil))) (.cons (.agg (.cons (Rd.int .i64).w (.cons (Rd.int .i64).w (.cons Rd.str.w (.cons (.sl 25) .nil))))) .nil)), .nil, fun a b => .start a.1.1 a.1.2.1 a.2.1.1 a.2.1.2.1 a.2.1.2.2.1 a.2.1.2.2.2.1, { rl := (.cons (.int .i64) .nil), rb := .nil, done := [0] }, [⟨15, { slots := [2, 3, 5] }, (.cons (.bp 0 0) (.cons (.bp 1 0) (.cons (.int .i64) .nil))), (.cons (.var 107 (.cons (.sl 103 false) (.cons (.sl 9 false) .nil))) (.cons (.var 25 (.cons (.int .i64) (.cons (.int .i64) (.cons .str (.cons (.sl 25 false) .nil))))) .nil)), fun a b => .p15 a.2.2.1 b.1.1 b.1.2.1 b.2.1.1 b.2.1.2.1 b.2.1.2.2.1 b.2.1.2.2.2.1⟩,
 ⟨63, { slots := [2, 3] }, (.cons (.bp 0 0) (.cons (.bp 1 0) .nil)), (.cons (.var 107 (.cons (.sl 103 false) (.cons (.sl 9 false) .nil))) (.cons (.var 25 (.cons (.int .i64) (.cons (.int .i64) (.cons .str (.cons (.sl 25 false) .nil))))) .nil)), fun a b => .p63 b.1.1 b.1.2.1 b.2.1.1 b.2.1.2.1 b.2.1.2.2.1 b.2.1.2.2.2.1⟩], mkWr [] []⟩
inductive vN7 where
 | start (l0 : (List ua1)) (C0 : (List ua3)) (C1 : (List ByteArray))
 | p52 (s9 : (List ua1)) (s10 : Int) (s11 : Int) (C0 : (List ua3)) (C1 : (List ByteArray))
def vE5 : Fb E vN7 (Int × (Int × Unit)) (((List ua3) × ((List ByteArray) × Unit)) × Unit) := ⟨160, Tryz.f160, (.cons (.sl 25) (.cons (Rd.fn 161 (.cons (.bp 0 0) .nil)).w .nil)), (.cons (.var 107 (.cons (.sl 103 false) (.cons (.sl 9 false) .nil))) .nil), fun a b => .start a.1 b.1.1 b.1.2.1, { rl := (.cons (.int .i64) (.cons (.int .i64) .nil)), rb := (.cons (.var 107 (.cons (.sl 103 false) (.cons (.sl 9 false) .nil))) .nil), keep := 1, done := [0, 1] }, [⟨52, { slots := [1, 9, 10, 11], keep := 1 }, (.cons (Rd.fn 161 (.cons (.bp 0 0) .nil)) (.cons (.sl 25 false) (.cons (.int .i64) (.cons (.int .i64) .nil)))), (.cons (.var 107 (.cons (.sl 103 false) (.cons (.sl 9 false) .nil))) .nil), fun a b => .p52 a.2.1 a.2.2.1 a.2.2.2.1 b.1.1 b.1.2.1⟩], mkWr [] []⟩
mutual
def uP9 : vN6 → Option ((Int × Unit) × Unit)
 | .start s0 x1_0 x1_1 x1_2 x1_3 s2 =>
  (run_z21 (.start s2.list s2.params x1_0 x1_1 x1_2 x1_3)) >>= fun t1 =>
  some ((t1.1.1, ()), ())
 partial_fixpoint
def run_z21 : vB6 → Option ((Int × Unit) × Unit)
 | .start s0_0 s0_1 t1_0 t1_1 t1_2 t1_3 =>
  if (t1_0 == (0 : Int)) = true then
   (u08 (.start s0_1 t1_2)) >>= fun t1 =>
   if (!t1.1.1) = true then
    some (((6 : Int), ()), ())
   else
    run_z21 (.p15 (0 : Int) s0_0 s0_1 t1_0 t1_1 t1_2 t1_3)
  else
   if (t1_0 == (1 : Int)) = true then
    (uH0 (.start s0_0 s0_1 t1_2)) >>= fun t2 =>
    if t2.1.2.1 = true then
     run_z21 (.p15 (List.length t2.1.1.2.1 : Int) s0_0 s0_1 t1_0 t1_1 t1_2 t1_3)
    else
     if (seq t1_2 (⟨#[66, 105, 116]⟩ : ByteArray)) = true then
      run_z21 (.p15 (1 : Int) s0_0 s0_1 t1_0 t1_1 t1_2 t1_3)
     else
      if (!(seq t1_2 (⟨#[66, 111, 111, 108]⟩ : ByteArray))) = true then
       some (((6 : Int), ()), ())
      else
       run_z21 (.p15 (0 : Int) s0_0 s0_1 t1_0 t1_1 t1_2 t1_3)
   else
    if (t1_0 == (2 : Int)) = true then
     run_z21 (.p15 (0 : Int) s0_0 s0_1 t1_0 t1_1 t1_2 t1_3)
    else
     some (((15 : Int), ()), ())
 | .p15 count5 C0 C1 D0 D1 D2 D3 =>
  if ((List.length D3 : Int) != count5) = true then
   some (((10 : Int), ()), ())
  else
   if (D0 == (2 : Int)) = true then
    (uk6 (.start D1 (0 : Int) (1000000000 : Int))) >>= fun t1 =>
    if (!t1.1.1) = true then
     some (((2 : Int), ()), ())
    else
     run_z21 (.p63 C0 C1 D0 D1 D2 D3)
   else
    run_z21 (.p63 C0 C1 D0 D1 D2 D3)
 | .p63 C0 C1 D0 D1 D2 D3 =>
  (run_z22 (.start D3 C0 C1)) >>= fun t1 =>
  some ((t1.1.2.1, ()), ())
 partial_fixpoint
def run_z22 : vN7 → Option ((Int × (Int × Unit)) × (((List ua3) × ((List ByteArray) × Unit)) × Unit))
 | .start l0 C0 C1 =>
  run_z22 (.p52 l0 (List.length l0 : Int) (0 : Int) C0 C1)
 | .p52 s9 s10 s11 C0 C1 =>
  if (decide (s11 < s10)) = true then
   (idx s9 s11) >>= fun t1 =>
   (uP9 (.start s11 t1.Kind t1.Value t1.Name t1.Parts (⟨C0, C1⟩ : ur2))) >>= fun t2 =>
   if (t2.1.1 != (0 : Int)) = true then
    some ((s11, (t2.1.1, ())), ((C0, (C1, ())), ()))
   else
    run_z22 (.p52 s9 s10 (IntKind.wrap .i64 (s11 + (1 : Int))) C0 C1)
  else
   some (((0 : Int), ((0 : Int), ())), ((C0, (C1, ())), ()))
 partial_fixpoint
end
theorem vH3 : vE4.Ok uP9 ∧ vw6.Ok run_z21 ∧ vE5.Ok run_z22 := by
  refine uP9.mutual_partial_correctness vE4.M vw6.M vE5.M ?_ ?_ ?_
  · exact fun r_z21 h_z21 => vE4.mk_ok E_ok [vw6.okc E_ok h_z21] vE4.none
  · exact fun r_z21 r_z22 h_z21 h_z22 => vw6.mk_ok E_ok [vE5.okc E_ok h_z22, vw6.okc E_ok h_z21, c_z5, wk2, c_z9] h_z21
  · exact fun r_z20 r_z22 h_z20 h_z22 => vE5.mk_ok E_ok [vE5.okc E_ok h_z22, vE4.okc E_ok h_z20] h_z22
def wq3 : ub2 E := vw6.okc E_ok vH3.2.1
inductive vN8 where
 | start (s0_0 : (List ua3)) (s0_1 : (List ByteArray)) (t1_0 : Int) (t1_1 : Int) (t1_2 : ByteArray) (t1_3 : (List ua1))
def v45 : Fb E vN8 (Int × Unit) Unit := ⟨105, Tryz.f105, (.cons (.agg (.cons (.sl 103) (.cons (.sl 9) .nil))) (.cons (.agg (.cons (Rd.int .i64).w (.cons (Rd.int .i64).w (.cons Rd.str.w (.cons (.sl 25) .nil))))) .nil)), .nil, fun a b => .start a.1.1 a.1.2.1 a.2.1.1 a.2.1.2.1 a.2.1.2.2.1 a.2.1.2.2.2.1, { rl := (.cons (.int .i64) .nil), rb := .nil, done := [0] }, [], mkWr [] []⟩
def uH1 : vN8 → Option ((Int × Unit) × Unit)
 | .start s0_0 s0_1 t1_0 t1_1 t1_2 t1_3 =>
  (uG9 (.start t1_0 t1_1 t1_2 t1_3)) >>= fun t1 =>
  if (t1.1.1 != (0 : Int)) = true then
   some ((t1.1.1, ()), ())
  else
   (run_z21 (.start s0_0 s0_1 t1_0 t1_1 t1_2 t1_3)) >>= fun t2 =>
   some ((t2.1.1, ()), ())
def wk3 : ub2 E := v45.okc E_ok (run := uH1) (v45.mk_ok E_ok [wq3, wk1] v45.none)
inductive vN9 where
 | start (s0 : Int) (f1_0 : ByteArray) (f1_1 : Int) (f1_2 : Int) (f1_3 : ByteArray) (f1_4 : (List ua1)) (D0 : (List ua3)) (D1 : (List ByteArray)) (B2 : (List ByteArray))
def v47 : Fb E vN9 (Int × Unit) ((Unit × Unit) × (((List ua3) × ((List ByteArray) × Unit)) × ((List ByteArray) × Unit))) := ⟨117, Tryz.f117, (.cons (Rd.int .i64).w (.cons (.agg (.cons Rd.str.w (.cons (Rd.int .i64).w (.cons (Rd.int .i64).w (.cons Rd.str.w (.cons (.sl 25) .nil)))))) (.cons (Rd.bp 0 0).w (.cons (Rd.bp 1 0).w .nil)))), (.cons (.var 101 (.cons (Rd.rw 2) .nil)) (.cons (.var 107 (.cons (.sl 103 false) (.cons (.sl 9 false) .nil))) (.cons (.row 9 false) .nil))), fun a b => .start a.1 a.2.1.1 a.2.1.2.1 a.2.1.2.2.1 a.2.1.2.2.2.1 a.2.1.2.2.2.2.1 b.2.1.1 b.2.1.2.1 b.2.2.1, { rl := (.cons (.int .i64) .nil), rb := (.cons (.var 101 (.cons (Rd.rw 2) .nil)) (.cons (.var 107 (.cons (.sl 103 false) (.cons (.sl 9 false) .nil))) (.cons (.row 9 false) .nil))), keep := 2, done := [0] }, [], mkWr [] []⟩
def uZ9 : vN9 → Option ((Int × Unit) × ((Unit × Unit) × (((List ua3) × ((List ByteArray) × Unit)) × ((List ByteArray) × Unit))))
 | .start s0 f1_0 f1_1 f1_2 f1_3 f1_4 D0 D1 B2 =>
  (uy6 (.start f1_0 B2)) >>= fun t1 =>
  if (t1.1.1 != (0 : Int)) = true then
   some ((t1.1.1, ()), (((), ()), ((D0, (D1, ())), (B2, ()))))
  else
   if (fits (List.length B2) (List.length ([f1_0] : List ByteArray)) 16) = true then
    (uH1 (.start D0 D1 f1_1 f1_2 f1_3 f1_4)) >>= fun t2 =>
    some ((t2.1.1, ()), (((), ()), ((D0, (D1, ())), (B2 ++ ([f1_0] : List ByteArray), ()))))
   else none
def wq4 : ub2 E := v47.okc E_ok (run := uZ9) (v47.mk_ok E_ok [wk3, vT9] v47.none)
inductive vO0 where
 | start (l0 : (List ua6)) (D0 : (List ua3)) (D1 : (List ByteArray))
 | p52 (s9 : (List ua6)) (s10 : Int) (s11 : Int) (D0 : (List ua3)) (D1 : (List ByteArray)) (B2 : (List ByteArray))
def v48 : Fb E vO0 (Int × (Int × Unit)) ((Unit × Unit) × (((List ua3) × ((List ByteArray) × Unit)) × ((List ByteArray) × Unit))) := ⟨116, Tryz.f116, (.cons (.sl 58) (.cons (Rd.fn 117 (.cons (.bp 0 0) (.cons (.bp 1 0) .nil))).w .nil)), (.cons (.var 101 (.cons Rd.nl .nil)) (.cons (.var 107 (.cons (.sl 103 false) (.cons (.sl 9 false) .nil))) .nil)), fun a b => .start a.1 b.2.1.1 b.2.1.2.1, { rl := (.cons (.int .i64) (.cons (.int .i64) .nil)), rb := (.cons (.var 101 (.cons (Rd.rw 2) .nil)) (.cons (.var 107 (.cons (.sl 103 false) (.cons (.sl 9 false) .nil))) (.cons (.row 9 true) .nil))), keep := 2, done := [0, 1, 100000] }, [⟨52, { slots := [1, 9, 10, 11], keep := 2, up := [(true, 100000, 0, 9)] }, (.cons (Rd.fn 117 (.cons (.bp 0 0) (.cons (.bp 1 0) .nil))) (.cons (.sl 58 false) (.cons (.int .i64) (.cons (.int .i64) .nil)))), (.cons (.var 101 (.cons (Rd.rw 2) .nil)) (.cons (.var 107 (.cons (.sl 103 false) (.cons (.sl 9 false) .nil))) (.cons (.row 9 false) .nil))), fun a b => .p52 a.2.1 a.2.2.1 a.2.2.2.1 b.2.1.1 b.2.1.2.1 b.2.2.1⟩], mkWr [] []⟩
def un8 : vO0 → Option ((Int × (Int × Unit)) × ((Unit × Unit) × (((List ua3) × ((List ByteArray) × Unit)) × ((List ByteArray) × Unit))))
 | .start l0 D0 D1 =>
  un8 (.p52 l0 (List.length l0 : Int) (0 : Int) D0 D1 ([] : List ByteArray))
 | .p52 s9 s10 s11 D0 D1 B2 =>
  if (decide (s11 < s10)) = true then
   (idx s9 s11) >>= fun t1 =>
   (uZ9 (.start s11 t1.Name t1.Type_.Kind t1.Type_.Value t1.Type_.Name t1.Type_.Parts D0 D1 B2)) >>= fun t2 =>
   if (t2.1.1 != (0 : Int)) = true then
    some ((s11, (t2.1.1, ())), (((), ()), ((t2.2.2.1.1, (t2.2.2.1.2.1, ())), (t2.2.2.2.1, ()))))
   else
    un8 (.p52 s9 s10 (IntKind.wrap .i64 (s11 + (1 : Int))) t2.2.2.1.1 t2.2.2.1.2.1 t2.2.2.2.1)
  else
   some (((0 : Int), ((0 : Int), ())), (((), ()), ((D0, (D1, ())), (B2, ()))))
 partial_fixpoint
def wq5 : ub2 E := v48.okc E_ok (run := un8) (un8.partial_correctness v48.M fun run' ih => v48.mk_ok E_ok [wq4] ih)
inductive vO1 where
 | start (s0 : Int) (c1_0 : ByteArray) (c1_1 : (List ua6)) (D0 : (List ua3)) (D1 : (List ByteArray)) (B2 : (List ByteArray))
def v49 : Fb E vO1 (Int × Unit) ((Unit × Unit) × (((List ua3) × ((List ByteArray) × Unit)) × ((List ByteArray) × Unit))) := ⟨115, Tryz.f115, (.cons (Rd.int .i64).w (.cons (.agg (.cons Rd.str.w (.cons (.sl 58) .nil))) (.cons (Rd.bp 0 0).w (.cons (Rd.bp 1 0).w .nil)))), (.cons (.var 101 (.cons (Rd.rw 2) .nil)) (.cons (.var 107 (.cons (.sl 103 false) (.cons (.sl 9 false) .nil))) (.cons (.row 9 true) .nil))), fun a b => .start a.1 a.2.1.1 a.2.1.2.1 b.2.1.1 b.2.1.2.1 b.2.2.1, { rl := (.cons (.int .i64) .nil), rb := (.cons (.var 101 (.cons (Rd.rw 2) .nil)) (.cons (.var 107 (.cons (.sl 103 false) (.cons (.sl 9 false) .nil))) (.cons (.row 9 true) .nil))), keep := 2, done := [0] }, [], mkWr [] []⟩
def u00 : vO1 → Option ((Int × Unit) × ((Unit × Unit) × (((List ua3) × ((List ByteArray) × Unit)) × ((List ByteArray) × Unit))))
 | .start s0 c1_0 c1_1 D0 D1 B2 =>
  (uy6 (.start c1_0 B2)) >>= fun t1 =>
  (uc2 (.start (decide ((List.length c1_1 : Int) ≤ (8 : Int))) (8 : Int))) >>= fun t2 =>
  (uc8 (.start ([t1.1.1, t2.1.1] : List Int))) >>= fun t3 =>
  if (t3.1.1 != (0 : Int)) = true then
   some ((t3.1.1, ()), (((), ()), ((D0, (D1, ())), (B2, ()))))
  else
   if (fits (List.length B2) (List.length ([c1_0] : List ByteArray)) 16) = true then
    (un8 (.start c1_1 D0 D1)) >>= fun t4 =>
    some ((t4.1.2.1, ()), (((), ()), ((t4.2.2.1.1, (t4.2.2.1.2.1, ())), (B2 ++ ([c1_0] : List ByteArray), ()))))
   else none
def wq6 : ub2 E := v49.okc E_ok (run := u00) (v49.mk_ok E_ok [wq5, vj5, c_z7, vT9] v49.none)
inductive vO2 where
 | start (l0 : (List ua2)) (D0 : (List ua3)) (D1 : (List ByteArray)) (B2 : (List ByteArray))
 | p52 (s9 : (List ua2)) (s10 : Int) (s11 : Int) (D0 : (List ua3)) (D1 : (List ByteArray)) (B2 : (List ByteArray))
def v50 : Fb E vO2 (Int × (Int × Unit)) ((Unit × Unit) × (((List ua3) × ((List ByteArray) × Unit)) × ((List ByteArray) × Unit))) := ⟨114, Tryz.f114, (.cons (.sl 56) (.cons (Rd.fn 115 (.cons (.bp 0 0) (.cons (.bp 1 0) .nil))).w .nil)), (.cons (.var 101 (.cons (Rd.rw 2) .nil)) (.cons (.var 107 (.cons (.sl 103 false) (.cons (.sl 9 false) .nil))) (.cons (.row 9 true) .nil))), fun a b => .start a.1 b.2.1.1 b.2.1.2.1 b.2.2.1, { rl := (.cons (.int .i64) (.cons (.int .i64) .nil)), rb := (.cons (.var 101 (.cons (Rd.rw 2) .nil)) (.cons (.var 107 (.cons (.sl 103 false) (.cons (.sl 9 false) .nil))) (.cons (.row 9 true) .nil))), keep := 2, done := [0, 1] }, [⟨52, { slots := [1, 9, 10, 11], keep := 2 }, (.cons (Rd.fn 115 (.cons (.bp 0 0) (.cons (.bp 1 0) .nil))) (.cons (.sl 56 false) (.cons (.int .i64) (.cons (.int .i64) .nil)))), (.cons (.var 101 (.cons (Rd.rw 2) .nil)) (.cons (.var 107 (.cons (.sl 103 false) (.cons (.sl 9 false) .nil))) (.cons (.row 9 true) .nil))), fun a b => .p52 a.2.1 a.2.2.1 a.2.2.2.1 b.2.1.1 b.2.1.2.1 b.2.2.1⟩], mkWr [] []⟩
def un9 : vO2 → Option ((Int × (Int × Unit)) × ((Unit × Unit) × (((List ua3) × ((List ByteArray) × Unit)) × ((List ByteArray) × Unit))))
 | .start l0 D0 D1 B2 =>
  un9 (.p52 l0 (List.length l0 : Int) (0 : Int) D0 D1 B2)
 | .p52 s9 s10 s11 D0 D1 B2 =>
  if (decide (s11 < s10)) = true then
   (idx s9 s11) >>= fun t1 =>
   (u00 (.start s11 t1.Name t1.Fields D0 D1 B2)) >>= fun t2 =>
   if (t2.1.1 != (0 : Int)) = true then
    some ((s11, (t2.1.1, ())), (((), ()), ((t2.2.2.1.1, (t2.2.2.1.2.1, ())), (t2.2.2.2.1, ()))))
   else
    un9 (.p52 s9 s10 (IntKind.wrap .i64 (s11 + (1 : Int))) t2.2.2.1.1 t2.2.2.1.2.1 t2.2.2.2.1)
  else
   some (((0 : Int), ((0 : Int), ())), (((), ()), ((D0, (D1, ())), (B2, ()))))
 partial_fixpoint
def wq7 : ub2 E := v50.okc E_ok (run := un9) (un9.partial_correctness v50.M fun run' ih => v50.mk_ok E_ok [wq6] ih)
inductive vO3 where
 | start (s0_0 : (List ua3)) (s0_1 : (List ByteArray)) (d1_0 : ByteArray) (d1_1 : (List ByteArray)) (d1_2 : (List ua2)) (names2 : (List ByteArray)) (constructors3 : (List ByteArray))
 | p7 (constructors3 : (List ByteArray)) (e9 : Int) (C0 : (List ua3)) (C1 : (List ByteArray)) (D0 : ByteArray) (D1 : (List ByteArray)) (D2 : (List ua2))
def v52 : Fb E vO3 (Int × Unit) Unit := ⟨77, Tryz.f77, (.cons (.agg (.cons (.sl 103) (.cons (.sl 9) .nil))) (.cons (.agg (.cons Rd.str.w (.cons (.sl 9) (.cons (.sl 56) .nil)))) (.cons (Rd.sl 9 true).w (.cons (Rd.sl 9 true).w .nil)))), .nil, fun a b => .start a.1.1 a.1.2.1 a.2.1.1 a.2.1.2.1 a.2.1.2.2.1 a.2.2.1 a.2.2.2.1, { rl := (.cons (.int .i64) .nil), rb := .nil, done := [0] }, [⟨7, { slots := [3, 4, 5, 9] }, (.cons (.sl 9 true) (.cons (.bp 0 0) (.cons (.bp 1 0) (.cons (.int .i64) .nil)))), (.cons (.var 107 (.cons (.sl 103 false) (.cons (.sl 9 false) .nil))) (.cons (.var 103 (.cons .str (.cons (.sl 9 false) (.cons (.sl 56 false) .nil)))) .nil)), fun a b => .p7 a.1 a.2.2.2.1 b.1.1 b.1.2.1 b.2.1.1 b.2.1.2.1 b.2.1.2.2.1⟩], mkWr [] []⟩
def us1 : vO3 → Option ((Int × Unit) × Unit)
 | .start s0_0 s0_1 d1_0 d1_1 d1_2 names2 constructors3 =>
  if (fits (List.length names2) (List.length ([(⟨#[66, 105, 116]⟩ : ByteArray), (⟨#[66, 111, 111, 108]⟩ : ByteArray), (⟨#[73, 110, 116, 101, 103, 101, 114]⟩ : ByteArray)] : List ByteArray)) 16) = true then
   (uy6 (.start d1_0 (names2 ++ ([(⟨#[66, 105, 116]⟩ : ByteArray), (⟨#[66, 111, 111, 108]⟩ : ByteArray), (⟨#[73, 110, 116, 101, 103, 101, 114]⟩ : ByteArray)] : List ByteArray)))) >>= fun t1 =>
   if (decide ((List.length d1_1 : Int) ≤ (4 : Int))) = true then
    (uc2 (.start (decide ((List.length d1_2 : Int) ≤ (16 : Int))) (8 : Int))) >>= fun t2 =>
    (uc2 (.start (decide ((List.length d1_2 : Int) > (0 : Int))) (10 : Int))) >>= fun t3 =>
    (uc8 (.start ([t1.1.1, t2.1.1, t3.1.1] : List Int))) >>= fun t4 =>
    us1 (.p7 constructors3 t4.1.1 s0_0 s0_1 d1_0 d1_1 d1_2)
   else
    (uc2 (.start false (8 : Int))) >>= fun t5 =>
    (uc2 (.start (decide ((List.length d1_2 : Int) > (0 : Int))) (10 : Int))) >>= fun t6 =>
    (uc8 (.start ([t1.1.1, t5.1.1, t6.1.1] : List Int))) >>= fun t7 =>
    us1 (.p7 constructors3 t7.1.1 s0_0 s0_1 d1_0 d1_1 d1_2)
  else none
 | .p7 constructors3 e9 C0 C1 D0 D1 D2 =>
  if (e9 != (0 : Int)) = true then
   some ((e9, ()), ())
  else
   (un6 (.start D1 D0 D1 D2)) >>= fun t1 =>
   if (t1.1.2.1 != (0 : Int)) = true then
    some ((t1.1.2.1, ()), ())
   else
    if (fits (List.length constructors3) (List.length ([(⟨#[70, 97, 108, 115, 101]⟩ : ByteArray), (⟨#[84, 114, 117, 101]⟩ : ByteArray)] : List ByteArray)) 16) = true then
     (un9 (.start t1.2.1.2.2.1 C0 t1.2.1.2.1 (constructors3 ++ ([(⟨#[70, 97, 108, 115, 101]⟩ : ByteArray), (⟨#[84, 114, 117, 101]⟩ : ByteArray)] : List ByteArray)))) >>= fun t2 =>
     some ((t2.1.2.1, ()), ())
    else none
 partial_fixpoint
def wq8 : ub2 E := v52.okc E_ok (run := us1) (us1.partial_correctness v52.M fun run' ih => v52.mk_ok E_ok [wq7, wp8, vj5, c_z7, vT9] ih)
inductive vO4 where
 | start (i0 : Int) (d1_0 : ByteArray) (d1_1 : (List ByteArray)) (d1_2 : (List ua2)) (B0 : (List ua3)) (B3 : (List ByteArray)) (B4 : (List ByteArray))
 | p244 (e8 : Int) (s27 : (List ua2)) (s28 : Int) (s29 : Int) (B0 : (List ua3)) (B3 : (List ByteArray)) (B4 : (List ByteArray))
def v54 : Fb E vO4 (Int × Unit) (((List ua3) × Unit) × ((Unit × Unit) × ((Unit × Unit) × ((List ByteArray) × ((List ByteArray) × Unit))))) := ⟨76, Tryz.f76, (.cons (Rd.int .i64).w (.cons (.agg (.cons Rd.str.w (.cons (.sl 9) (.cons (.sl 56) .nil)))) (.cons (Rd.bp 0 0).w (.cons (Rd.bp 1 0).w (.cons (Rd.bp 2 0).w .nil))))), (.cons (.var 22 (.cons (.sl 103 false) .nil)) (.cons (.var 101 (.cons (Rd.rw 3) .nil)) (.cons (.var 101 (.cons (Rd.rw 4) .nil)) (.cons (.row 9 true) (.cons (.row 9 true) .nil))))), fun a b => .start a.1 a.2.1.1 a.2.1.2.1 a.2.1.2.2.1 b.1.1 b.2.2.2.1 b.2.2.2.2.1, { rl := (.cons (.int .i64) .nil), rb := (.cons (.var 22 (.cons (.sl 103 false) .nil)) (.cons (.var 101 (.cons (Rd.rw 3) .nil)) (.cons (.var 101 (.cons (Rd.rw 4) .nil)) (.cons (.row 9 true) (.cons (.row 9 true) .nil))))), keep := 3, done := [0] }, [⟨244, { slots := [4, 8, 27, 28, 29], keep := 3 }, (.cons (.bp 2 0) (.cons (.int .i64) (.cons (.sl 56 false) (.cons (.int .i64) (.cons (.int .i64) .nil))))), (.cons (.var 22 (.cons (.sl 103 false) .nil)) (.cons (.var 101 (.cons (Rd.rw 3) .nil)) (.cons (.var 101 (.cons (Rd.rw 4) .nil)) (.cons (.row 9 true) (.cons (.row 9 true) .nil))))), fun a b => .p244 a.2.1 a.2.2.1 a.2.2.2.1 a.2.2.2.2.1 b.1.1 b.2.2.2.1 b.2.2.2.2.1⟩], mkWr [] []⟩
def uo0 : vO4 → Option ((Int × Unit) × (((List ua3) × Unit) × ((Unit × Unit) × ((Unit × Unit) × ((List ByteArray) × ((List ByteArray) × Unit))))))
 | .start i0 d1_0 d1_1 d1_2 B0 B3 B4 =>
  (span (List.length B0) (0 : Int) i0) >>= fun t1 =>
  (u02 (.start B3)) >>= fun t2 =>
  (u02 (.start B4)) >>= fun t3 =>
  (us1 (.start (cut B0 t1) ([]) d1_0 d1_1 d1_2 t2.1.1 t3.1.1)) >>= fun t4 =>
  if (fits (List.length B3) (List.length ([d1_0] : List ByteArray)) 16) = true then
   uo0 (.p244 t4.1.1 d1_2 (List.length d1_2 : Int) (0 : Int) B0 (B3 ++ ([d1_0] : List ByteArray)) B4)
  else none
 | .p244 e8 s27 s28 s29 B0 B3 B4 =>
  if (decide (s29 < s28)) = true then
   (idx s27 s29) >>= fun t1 =>
   if (fits (List.length B4) (List.length ([t1.Name] : List ByteArray)) 16) = true then
    uo0 (.p244 e8 s27 s28 (IntKind.wrap .i64 (s29 + (1 : Int))) B0 B3 (B4 ++ ([t1.Name] : List ByteArray)))
   else none
  else
   some ((e8, ()), ((B0, ()), (((), ()), (((), ()), (B3, (B4, ()))))))
 partial_fixpoint
def wq9 : ub2 E := v54.okc E_ok (run := uo0) (uo0.partial_correctness v54.M fun run' ih => v54.mk_ok E_ok [wq8, c_z4] ih)
inductive vO5 where
 | start (l0 : (List ua3)) (B0 : (List ua3))
 | p52 (s9 : (List ua3)) (s10 : Int) (s11 : Int) (B0 : (List ua3)) (B3 : (List ByteArray)) (B4 : (List ByteArray))
def v55 : Fb E vO5 (Int × (Int × Unit)) (((List ua3) × Unit) × ((Unit × Unit) × ((Unit × Unit) × ((List ByteArray) × ((List ByteArray) × Unit))))) := ⟨75, Tryz.f75, (.cons (.sl 103) (.cons (Rd.fn 76 (.cons (.bp 0 0) (.cons (.bp 1 0) (.cons (.bp 2 0) .nil)))).w .nil)), (.cons (.var 22 (.cons (.sl 103 false) .nil)) (.cons (.var 101 (.cons Rd.nl .nil)) (.cons (.var 101 (.cons Rd.nl .nil)) .nil))), fun a b => .start a.1 b.1.1, { rl := (.cons (.int .i64) (.cons (.int .i64) .nil)), rb := (.cons (.var 22 (.cons (.sl 103 false) .nil)) (.cons (.var 101 (.cons (Rd.rw 3) .nil)) (.cons (.var 101 (.cons (Rd.rw 4) .nil)) (.cons (.row 9 true) (.cons (.row 9 true) .nil))))), keep := 3, done := [0, 1, 100002] }, [⟨52, { slots := [1, 9, 10, 11], keep := 3, up := [(true, 100001, 0, 9), (true, 100002, 0, 9)], done := [1] }, (.cons (Rd.fn 76 (.cons (.bp 0 0) (.cons (.bp 1 0) (.cons (.bp 2 0) .nil)))) (.cons (.sl 103 false) (.cons (.int .i64) (.cons (.int .i64) .nil)))), (.cons (.var 22 (.cons (.sl 103 false) .nil)) (.cons (.var 101 (.cons (Rd.rw 3) .nil)) (.cons (.var 101 (.cons (Rd.rw 4) .nil)) (.cons (.row 9 true) (.cons (.row 9 true) .nil))))), fun a b => .p52 a.2.1 a.2.2.1 a.2.2.2.1 b.1.1 b.2.2.2.1 b.2.2.2.2.1⟩], mkWr [] []⟩
def up6 : vO5 → Option ((Int × (Int × Unit)) × (((List ua3) × Unit) × ((Unit × Unit) × ((Unit × Unit) × ((List ByteArray) × ((List ByteArray) × Unit))))))
 | .start l0 B0 =>
  up6 (.p52 l0 (List.length l0 : Int) (0 : Int) B0 ([] : List ByteArray) ([] : List ByteArray))
 | .p52 s9 s10 s11 B0 B3 B4 =>
  if (decide (s11 < s10)) = true then
   (idx s9 s11) >>= fun t1 =>
   (uo0 (.start s11 t1.Name t1.Params t1.Constructors B0 B3 B4)) >>= fun t2 =>
   if (t2.1.1 != (0 : Int)) = true then
    some ((s11, (t2.1.1, ())), ((t2.2.1.1, ()), (((), ()), (((), ()), (t2.2.2.2.2.1, (t2.2.2.2.2.2.1, ()))))))
   else
    up6 (.p52 s9 s10 (IntKind.wrap .i64 (s11 + (1 : Int))) t2.2.1.1 t2.2.2.2.2.1 t2.2.2.2.2.2.1)
  else
   some (((0 : Int), ((0 : Int), ())), ((B0, ()), (((), ()), (((), ()), (B3, (B4, ()))))))
 partial_fixpoint
def wr0 : ub2 E := v55.okc E_ok (run := up6) (up6.partial_correctness v55.M fun run' ih => v55.mk_ok E_ok [wq9] ih)
inductive vO6 where
 | start (l0 : (List ua3))
def v56 : Fb E vO6 (Int × (Int × Unit)) Unit := ⟨23, Tryz.f23, (.cons (.sl 103) .nil), .nil, fun a b => .start a.1, { rl := (.cons (.int .i64) (.cons (.int .i64) .nil)), rb := .nil, done := [0, 1] }, [], mkWr [] []⟩
def uQ0 : vO6 → Option ((Int × (Int × Unit)) × Unit)
 | .start l0 =>
  if (decide ((List.length l0 : Int) > (20 : Int))) = true then
   some (((0 : Int), ((8 : Int), ())), ())
  else
   (up6 (.start l0 l0)) >>= fun t1 =>
   some ((t1.1.1, (t1.1.2.1, ())), ())
def wr1 : ub2 E := v56.okc E_ok (run := uQ0) (v56.mk_ok E_ok [wr0] v56.none)
inductive vO7 where
 | start (t0_0 : Int) (t0_1 : Int) (t0_2 : ByteArray) (t0_3 : (List ua1)) (params1 : (List ByteArray)) (args2 : (List ua1))
 | p27 (params1 : (List ByteArray)) (args2 : (List ua1)) (i7 : Int) (s21 : Bool) (C0 : Int) (C1 : Int) (C2 : ByteArray) (C3 : (List ua1)) (D0 : Int) (D1 : Int) (D2 : ByteArray)
 | p500 (params1 : (List ByteArray)) (args2 : (List ua1)) (s30 : (List ua1)) (s31 : Int) (s32 : Int) (C0 : Int) (C1 : Int) (C2 : ByteArray) (D0 : Int) (D1 : Int) (D2 : ByteArray) (B2 : (List ua1))
def vS3 : Fb E vO7 ((Int × (Int × (ByteArray × ((List ua1) × Unit)))) × Unit) Unit := ⟨162, Tryz.f162, (.cons (.agg (.cons (Rd.int .i64).w (.cons (Rd.int .i64).w (.cons Rd.str.w (.cons (.sl 25) .nil))))) (.cons (.sl 9) (.cons (.sl 25) .nil))), .nil, fun a b => .start a.1.1 a.1.2.1 a.1.2.2.1 a.1.2.2.2.1 a.2.1 a.2.2.1, { rl := (.cons (.agg (.cons (.int .i64) (.cons (.int .i64) (.cons .str (.cons (.sl 25 false) .nil))))) .nil), rb := .nil, deep := [(false, 0, 3, 25)], done := [0] }, [⟨27, { slots := [1, 2, 3, 6, 7, 21] }, (.cons (.sl 9 false) (.cons (.sl 25 false) (.cons (.bp 0 0) (.cons (.bp 1 0) (.cons (.int .i64) (.cons .bool .nil)))))), (.cons (.var 25 (.cons (.int .i64) (.cons (.int .i64) (.cons .str (.cons (.sl 25 false) .nil))))) (.cons (.var 25 (.cons (.int .i64) (.cons (.int .i64) (.cons .str (.cons Rd.nl .nil))))) .nil)), fun a b => .p27 a.1 a.2.1 a.2.2.2.2.1 a.2.2.2.2.2.1 b.1.1 b.1.2.1 b.1.2.2.1 b.1.2.2.2.1 b.2.1.1 b.2.1.2.1 b.2.1.2.2.1⟩,
 ⟨500, { slots := [1, 2, 6, 8, 30, 31, 32], up := [(true, 8, 3, 25)] }, (.cons (.sl 9 false) (.cons (.sl 25 false) (.cons (.bp 0 0) (.cons (.bp 1 0) (.cons (.sl 25 false) (.cons (.int .i64) (.cons (.int .i64) .nil))))))), (.cons (.var 25 (.cons (.int .i64) (.cons (.int .i64) (.cons .str (.cons Rd.nl .nil))))) (.cons (.var 25 (.cons (.int .i64) (.cons (.int .i64) (.cons .str (.cons (Rd.rw 2) .nil))))) (.cons (.row 25 false) .nil))), fun a b => .p500 a.1 a.2.1 a.2.2.2.2.1 a.2.2.2.2.2.1 a.2.2.2.2.2.2.1 b.1.1 b.1.2.1 b.1.2.2.1 b.2.1.1 b.2.1.2.1 b.2.1.2.2.1 b.2.2.1⟩], mkWr [] []⟩
def uf3 : vO7 → Option (((Int × (Int × (ByteArray × ((List ua1) × Unit)))) × Unit) × Unit)
 | .start t0_0 t0_1 t0_2 t0_3 params1 args2 =>
  (ut6 (.start params1 t0_2)) >>= fun t1 =>
  if (t0_0 == (0 : Int)) = true then
   uf3 (.p27 params1 args2 t1.1.1 (decide (t1.1.1 ≥ (0 : Int))) t0_0 t0_1 t0_2 t0_3 (0 : Int) (0 : Int) (⟨#[]⟩ : ByteArray))
  else
   uf3 (.p27 params1 args2 t1.1.1 false t0_0 t0_1 t0_2 t0_3 (0 : Int) (0 : Int) (⟨#[]⟩ : ByteArray))
 | .p27 params1 args2 i7 s21 C0 C1 C2 C3 D0 D1 D2 =>
  if s21 = true then
   (idx args2 i7) >>= fun t1 =>
   (uf3 (.start t1.Kind t1.Value t1.Name t1.Parts ([]) ([]))) >>= fun t2 =>
   some (((t2.1.1.1, (t2.1.1.2.1, (t2.1.1.2.2.1, (t2.1.1.2.2.2.1, ())))), ()), ())
  else
   uf3 (.p500 params1 args2 C3 (List.length C3 : Int) (0 : Int) D0 D1 D2 C0 C1 C2 ([] : List ua1))
 | .p500 params1 args2 s30 s31 s32 C0 C1 C2 D0 D1 D2 B2 =>
  if (decide (s32 < s31)) = true then
   (idx s30 s32) >>= fun t1 =>
   (uf3 (.start t1.Kind t1.Value t1.Name t1.Parts params1 args2)) >>= fun t2 =>
   if (fits (List.length B2) (List.length ([(⟨t2.1.1.1, t2.1.1.2.1, t2.1.1.2.2.1, t2.1.1.2.2.2.1⟩ : ua1)] : List ua1)) 56) = true then
    uf3 (.p500 params1 args2 s30 s31 (IntKind.wrap .i64 (s32 + (1 : Int))) C0 C1 C2 D0 D1 D2 (B2 ++ ([(⟨t2.1.1.1, t2.1.1.2.1, t2.1.1.2.2.1, t2.1.1.2.2.2.1⟩ : ua1)] : List ua1)))
   else none
  else
   some (((D0, (D1, (D2, (B2, ())))), ()), ())
 partial_fixpoint
def wr2 : ub2 E := vS3.okc E_ok (run := uf3) (uf3.partial_correctness vS3.M fun run' ih => vS3.mk_ok E_ok [vS3.okc E_ok ih, c_z8] ih)
inductive vO8 where
 | start (s0_0 : (List ua3)) (s0_1 : (List ByteArray)) (t1_0 : Int) (t1_1 : Int) (t1_2 : ByteArray) (t1_3 : (List ua1))
 | p500 (s26 : (List ua2)) (s27 : Int) (s28 : Int) (C0 : Int) (C1 : Int) (C2 : ByteArray) (C3 : (List ua1)) (D0 : ByteArray) (D1 : (List ByteArray)) (D2 : (List ua2)) (B2 : (List data_variant))
 | p512820 (s26 : (List ua2)) (s27 : Int) (s28 : Int) (s36 : (List ua6)) (s37 : Int) (s38 : Int) (C0 : Int) (C1 : Int) (C2 : ByteArray) (C3 : (List ua1)) (D0 : ByteArray) (D1 : (List ByteArray)) (D2 : (List ua2)) (B2 : (List data_variant)) (B3 : ByteArray) (B4 : (List ua6))
def v57 : Fb E vO8 (Unit × Unit) ((List data_variant) × Unit) := ⟨142, Tryz.f142, (.cons (.agg (.cons (.sl 103) (.cons (.sl 9) .nil))) (.cons (.agg (.cons (Rd.int .i64).w (.cons (Rd.int .i64).w (.cons Rd.str.w (.cons (.sl 25) .nil))))) .nil)), .nil, fun a b => .start a.1.1 a.1.2.1 a.2.1.1 a.2.1.2.1 a.2.1.2.2.1 a.2.1.2.2.2.1, { rl := (.cons (Rd.rw 0) .nil), rb := (.cons (.row 125 false) .nil), rows := [(0, 125)] }, [⟨500, { slots := [3, 5, 7, 26, 27, 28], rows := [(7, 125)] }, (.cons (.bp 0 0) (.cons (.bp 1 0) (.cons (Rd.rw 2) (.cons (.sl 56 false) (.cons (.int .i64) (.cons (.int .i64) .nil)))))), (.cons (.var 25 (.cons (.int .i64) (.cons (.int .i64) (.cons .str (.cons (.sl 25 false) .nil))))) (.cons (.var 103 (.cons .str (.cons (.sl 9 false) (.cons (.sl 56 false) .nil)))) (.cons (.row 125 false) .nil))), fun a b => .p500 a.2.2.2.1 a.2.2.2.2.1 a.2.2.2.2.2.1 b.1.1 b.1.2.1 b.1.2.2.1 b.1.2.2.2.1 b.2.1.1 b.2.1.2.1 b.2.1.2.2.1 b.2.2.1⟩,
 ⟨512820, { slots := [3, 5, 7, 10, 26, 27, 28, 36, 37, 38], up := [(true, 10, 1, 58)] }, (.cons (.bp 0 0) (.cons (.bp 1 0) (.cons (Rd.rw 2) (.cons (.bp 3 0) (.cons (.sl 56 false) (.cons (.int .i64) (.cons (.int .i64) (.cons (.sl 58 false) (.cons (.int .i64) (.cons (.int .i64) .nil)))))))))), (.cons (.var 25 (.cons (.int .i64) (.cons (.int .i64) (.cons .str (.cons (.sl 25 false) .nil))))) (.cons (.var 103 (.cons .str (.cons (.sl 9 false) (.cons (.sl 56 false) .nil)))) (.cons (.row 125 false) (.cons (.var 125 (.cons .str (.cons (Rd.rw 4) (.cons Rd.nl .nil)))) (.cons (.row 58 false) .nil))))), fun a b => .p512820 a.2.2.2.2.1 a.2.2.2.2.2.1 a.2.2.2.2.2.2.1 a.2.2.2.2.2.2.2.1 a.2.2.2.2.2.2.2.2.1 a.2.2.2.2.2.2.2.2.2.1 b.1.1 b.1.2.1 b.1.2.2.1 b.1.2.2.2.1 b.2.1.1 b.2.1.2.1 b.2.1.2.2.1 b.2.2.1 b.2.2.2.1.1 b.2.2.2.2.1⟩], mkWr [4, 7, 24, 58, 61, 63] [(64103, [10])]⟩
def uh7 : vO8 → Option ((Unit × Unit) × ((List data_variant) × Unit))
 | .start s0_0 s0_1 t1_0 t1_1 t1_2 t1_3 =>
  (uH0 (.start s0_0 s0_1 t1_2)) >>= fun t1 =>
  if (!t1.1.2.1) = true then
   some (((), ()), (([(⟨(⟨#[70, 97, 108, 115, 101]⟩ : ByteArray), [], none⟩ : data_variant), (⟨(⟨#[84, 114, 117, 101]⟩ : ByteArray), [], none⟩ : data_variant)] : List data_variant), ()))
  else
   uh7 (.p500 t1.1.1.2.2.1 (List.length t1.1.1.2.2.1 : Int) (0 : Int) t1_0 t1_1 t1_2 t1_3 t1.1.1.1 t1.1.1.2.1 t1.1.1.2.2.1 ([] : List data_variant))
 | .p500 s26 s27 s28 C0 C1 C2 C3 D0 D1 D2 B2 =>
  if (decide (s28 < s27)) = true then
   (idx s26 s28) >>= fun t1 =>
   uh7 (.p512820 s26 s27 s28 t1.Fields (List.length t1.Fields : Int) (0 : Int) C0 C1 C2 C3 D0 D1 D2 B2 t1.Name ([] : List ua6))
  else
   some (((), ()), (B2, ()))
 | .p512820 s26 s27 s28 s36 s37 s38 C0 C1 C2 C3 D0 D1 D2 B2 B3 B4 =>
  if (decide (s38 < s37)) = true then
   (idx s36 s38) >>= fun t1 =>
   (uf3 (.start t1.Type_.Kind t1.Type_.Value t1.Type_.Name t1.Type_.Parts D1 C3)) >>= fun t2 =>
   if (fits (List.length B4) (List.length ([(⟨t1.Name, (⟨t2.1.1.1, t2.1.1.2.1, t2.1.1.2.2.1, t2.1.1.2.2.2.1⟩ : ua1)⟩ : ua6)] : List ua6)) 72) = true then
    uh7 (.p512820 s26 s27 s28 s36 s37 (IntKind.wrap .i64 (s38 + (1 : Int))) C0 C1 C2 C3 D0 D1 D2 B2 B3 (B4 ++ ([(⟨t1.Name, (⟨t2.1.1.1, t2.1.1.2.1, t2.1.1.2.2.1, t2.1.1.2.2.2.1⟩ : ua1)⟩ : ua6)] : List ua6)))
   else none
  else
   if (fits (List.length B2) (List.length ([(⟨B3, B4, none⟩ : data_variant)] : List data_variant)) 64) = true then
    uh7 (.p500 s26 s27 (IntKind.wrap .i64 (s28 + (1 : Int))) C0 C1 C2 C3 D0 D1 D2 (B2 ++ ([(⟨B3, B4, none⟩ : data_variant)] : List data_variant)))
   else none
 partial_fixpoint
def wr3 : ub2 E := v57.okc E_ok (run := uh7) (uh7.partial_correctness v57.M fun run' ih => v57.mk_ok E_ok [wr2, wk2] ih)
inductive vO9 where
 | start (s0_0 : (List ua3)) (s0_1 : (List ByteArray)) (t1_0 : Int) (t1_1 : Int) (t1_2 : ByteArray) (t1_3 : (List ua1)) (deep3 : Int) (B0 : Int)
 | p31 (deep3 : Int) (few11 : Int) (B0 : Int) (D0 : (List ua3)) (D1 : (List ByteArray)) (G0 : Int) (G1 : Int) (G2 : ByteArray) (G3 : (List ua1))
 | p8180 (deep3 : Int) (s76 : Int) (s77 : Int) (B0 : Int) (D0 : (List ua3)) (D1 : (List ByteArray)) (B2 : Int) (B3 : (List data_variant))
 | p4188572 (deep3 : Int) (v15 : Int) (s76 : Int) (s77 : Int) (s89 : (List ua6)) (s90 : Int) (s91 : Int) (B0 : Int) (D0 : (List ua3)) (D1 : (List ByteArray)) (B2 : Int) (B3 : ((List data_variant) × Nat)) (B4 : (List (Option ua4)))
def vS4 : Fb E vO9 ((Option ua4) × (Int × Unit)) ((Int × Unit) × Unit) := ⟨106, Tryz.f106, (.cons (.agg (.cons (.sl 103) (.cons (.sl 9) .nil))) (.cons (.agg (.cons (Rd.int .i64).w (.cons (Rd.int .i64).w (.cons Rd.str.w (.cons (.sl 25) .nil))))) (.cons (Rd.bp 0 0).w (.cons (Rd.int .i64).w .nil)))), (.cons (.var 3 (.cons (.int .i64) .nil)) .nil), fun a b => .start a.1.1 a.1.2.1 a.2.1.1 a.2.1.2.1 a.2.1.2.2.1 a.2.1.2.2.2.1 a.2.2.2.1 b.1.1, { rl := (.cons (Rd.op 128) (.cons (.int .i64) .nil)), rb := (.cons (.var 3 (.cons (.int .i64) .nil)) .nil), keep := 1, done := [0, 1], ptrs := [(0, 128)] }, [⟨31, { slots := [2, 3, 4, 5, 11], keep := 1 }, (.cons (.bp 0 0) (.cons (.int .i64) (.cons (.bp 1 0) (.cons (.bp 2 0) (.cons (.int .i64) .nil))))), (.cons (.var 3 (.cons (.int .i64) .nil)) (.cons (.var 107 (.cons (.sl 103 false) (.cons (.sl 9 false) .nil))) (.cons (.var 25 (.cons (.int .i64) (.cons (.int .i64) (.cons .str (.cons (.sl 25 false) .nil))))) .nil))), fun a b => .p31 a.2.1 a.2.2.2.2.1 b.1.1 b.2.1.1 b.2.1.2.1 b.2.2.1.1 b.2.2.1.2.1 b.2.2.1.2.2.1 b.2.2.1.2.2.2.1⟩,
 ⟨8180, { slots := [2, 3, 4, 13, 76, 77], keep := 1, close := [13] }, (.cons (.bp 0 0) (.cons (.int .i64) (.cons (.bp 1 0) (.cons (.bp 2 0) (.cons (.int .i64) (.cons (.int .i64) .nil)))))), (.cons (.var 3 (.cons (.int .i64) .nil)) (.cons (.var 107 (.cons (.sl 103 false) (.cons (.sl 9 false) .nil))) (.cons (.var 128 (.cons (.int .i64) (.cons (Rd.rw 3) .nil))) (.cons (.row 125 false) .nil)))), fun a b => .p8180 a.2.1 a.2.2.2.2.1 a.2.2.2.2.2.1 b.1.1 b.2.1.1 b.2.1.2.1 b.2.2.1.1 b.2.2.2.1⟩,
 ⟨4188572, { slots := [2, 3, 4, 13, 15, 76, 77, 89, 90, 91], keep := 1 }, (.cons (.bp 0 0) (.cons (.int .i64) (.cons (.bp 1 0) (.cons (.bp 2 0) (.cons (Rd.rp 3 125 0) (.cons (.int .i64) (.cons (.int .i64) (.cons (.sl 58 false) (.cons (.int .i64) (.cons (.int .i64) .nil)))))))))), (.cons (.var 3 (.cons (.int .i64) .nil)) (.cons (.var 107 (.cons (.sl 103 false) (.cons (.sl 9 false) .nil))) (.cons (.var 128 (.cons (.int .i64) (.cons (Rd.rw 3) .nil))) (.cons (RdB.lk 125 2 4) (.cons (.row 105 false) .nil))))), fun a b => .p4188572 a.2.1 a.2.2.2.2.1 a.2.2.2.2.2.1 a.2.2.2.2.2.2.1 a.2.2.2.2.2.2.2.1 a.2.2.2.2.2.2.2.2.1 a.2.2.2.2.2.2.2.2.2.1 b.1.1 b.2.1.1 b.2.1.2.1 b.2.2.1.1 b.2.2.2.1 b.2.2.2.2.1⟩], mkWr [8, 13, 15, 17, 50, 51, 52, 69, 70, 71, 72, 73, 74, 75, 80, 81, 82, 83, 85, 86, 87, 88, 89, 93, 94, 97, 98, 108, 109, 110, 111, 112, 115, 116, 117, 120] [] [] [(85, 2)]⟩
def uc4 : vO9 → Option (((Option ua4) × (Int × Unit)) × ((Int × Unit) × Unit))
 | .start s0_0 s0_1 t1_0 t1_1 t1_2 t1_3 deep3 B0 =>
  (uG9 (.start t1_0 t1_1 t1_2 t1_3)) >>= fun t1 =>
  if (t1.1.1 != (0 : Int)) = true then
   some ((none, (t1.1.1, ())), ((B0, ()), ()))
  else
   if (decide ((IntKind.wrap .i64 (B0 + (1 : Int))) ≤ (200 : Int))) = true then
    (uc2 (.start (decide (deep3 ≤ (40 : Int))) (8 : Int))) >>= fun t2 =>
    uc4 (.p31 deep3 t2.1.1 (IntKind.wrap .i64 (B0 + (1 : Int))) s0_0 s0_1 t1_0 t1_1 t1_2 t1_3)
   else
    (uc2 (.start false (8 : Int))) >>= fun t3 =>
    uc4 (.p31 deep3 t3.1.1 (IntKind.wrap .i64 (B0 + (1 : Int))) s0_0 s0_1 t1_0 t1_1 t1_2 t1_3)
 | .p31 deep3 few11 B0 D0 D1 G0 G1 G2 G3 =>
  if (G0 == (2 : Int)) = true then
   some ((none, ((26 : Int), ())), ((B0, ()), ()))
  else
   if (seq G2 (⟨#[66, 105, 116]⟩ : ByteArray)) = true then
    (idx G3 (0 : Int)) >>= fun t1 =>
    (uc2 (.start (t1.Kind == (2 : Int)) (26 : Int))) >>= fun t2 =>
    (uk6 (.start t1.Value (1 : Int) (16 : Int))) >>= fun t3 =>
    (uc2 (.start t3.1.1 (25 : Int))) >>= fun t4 =>
    (uc8 (.start ([t2.1.1, t4.1.1, few11] : List Int))) >>= fun t5 =>
    some ((some (⟨t1.Value, none⟩ : ua4), (t5.1.1, ())), ((B0, ()), ()))
   else
    if (few11 != (0 : Int)) = true then
     some ((none, (few11, ())), ((B0, ()), ()))
    else
     (uh7 (.start D0 D1 G0 G1 G2 G3)) >>= fun t6 =>
     uc4 (.p8180 deep3 (List.length t6.2.1 : Int) (0 : Int) B0 D0 D1 (0 : Int) t6.2.1)
 | .p8180 deep3 s76 s77 B0 D0 D1 B2 B3 =>
  if (decide (s77 < s76)) = true then
   if (decide ((0 : Int) ≤ s77) && decide (s77 < (List.length B3 : Int))) = true then
    (idx B3 s77) >>= fun t1 =>
    if (Option.isNone t1.parts) = true then
     (if s77 = (Int.toNat s77 : Int) then B3[Int.toNat s77]? else none) >>= fun t2 =>
     uc4 (.p4188572 deep3 s77 s76 s77 t2.fields (List.length t2.fields : Int) (0 : Int) B0 D0 D1 B2 (B3, Int.toNat s77) ([] : List (Option ua4)))
    else none
   else none
  else
   some ((some (⟨B2, (some B3)⟩ : ua4), ((0 : Int), ())), ((B0, ()), ()))
 | .p4188572 deep3 v15 s76 s77 s89 s90 s91 B0 D0 D1 B2 B3 B4 =>
  if (decide (s91 < s90)) = true then
   (idx s89 s91) >>= fun t1 =>
   (uc4 (.start D0 D1 t1.Type_.Kind t1.Type_.Value t1.Type_.Name t1.Type_.Parts (IntKind.wrap .i64 (deep3 + (1 : Int))) B0)) >>= fun t2 =>
   if (t2.1.2.1 != (0 : Int)) = true then
    some ((none, (t2.1.2.1, ())), ((t2.2.1.1, ()), ()))
   else
    (if v15 = (B3.2 : Int) then B3.1[B3.2]? else none) >>= fun t3 =>
    if (fits (List.length B4) (List.length ([t2.1.1] : List (Option ua4))) 8) = true then
     if v15 = (B3.2 : Int) then
      uc4 (.p4188572 deep3 v15 s76 s77 s89 s90 (IntKind.wrap .i64 (s91 + (1 : Int))) t2.2.1.1 D0 D1 B2 (B3.1, B3.2) (B4 ++ ([t2.1.1] : List (Option ua4))))
     else none
    else none
  else
   uc4 (.p8180 deep3 s76 (IntKind.wrap .i64 (s77 + (1 : Int))) B0 D0 D1 B2 (List.modify B3.1 B3.2 (fun y => (⟨y.name, y.fields, (some B4)⟩ : data_variant))))
 partial_fixpoint
def wr4 : ub2 E := vS4.okc E_ok (run := uc4) (uc4.partial_correctness vS4.M fun run' ih => vS4.mk_ok E_ok [vS4.okc E_ok ih, wr3, vj5, c_z5, c_z7, wk1] ih)
inductive vP0 where
 | start (x0 : (Option ua4))
def v58 : Fb E vP0 (Bool × Unit) Unit := ⟨88, Tryz.f88, (.cons (Rd.op 128).w .nil), .nil, fun a b => .start a.1, { rl := (.cons .bool .nil), rb := .nil, done := [0] }, [], mkWr [] []⟩
def up7 : vP0 → Option ((Bool × Unit) × Unit)
 | .start x0 =>
  x0 >>= fun t1 =>
  (we8 t1.constructors) >>= fun t2 =>
  some ((t2, ()), ())
def vj6 : ub2 E := v58.okc E_ok (run := up7) (v58.mk_ok E_ok [] v58.none)
inductive vP1 where
 | start (x0 : Int)
 | p7 (x0 : Int) (n2 : Int)
 | p15 (x0 : Int) (n2 : Int)
 | p31 (x0 : Int) (n2 : Int)
def v59 : Fb E vP1 (Int × Unit) Unit := ⟨146, Tryz.f146, (.cons (Rd.int .u64).w .nil), .nil, fun a b => .start a.1, { rl := (.cons (.int .i64) .nil), rb := .nil, done := [0] }, [⟨7, { slots := [0, 2] }, (.cons (.int .u64) (.cons (.int .i64) .nil)), .nil, fun a b => .p7 a.1 a.2.1⟩,
 ⟨15, { slots := [0, 2] }, (.cons (.int .u64) (.cons (.int .i64) .nil)), .nil, fun a b => .p15 a.1 a.2.1⟩,
 ⟨31, { slots := [0, 2] }, (.cons (.int .u64) (.cons (.int .i64) .nil)), .nil, fun a b => .p31 a.1 a.2.1⟩], mkWr [] []⟩
def uj8 : vP1 → Option ((Int × Unit) × Unit)
 | .start x0 =>
  if (decide (x0 ≥ (4294967296 : Int))) = true then
   if (decide ((0 : Int) ≤ (32 : Int))) = true then
    uj8 (.p7 (shr .u64 x0 (32 : Int)) (32 : Int))
   else none
  else
   uj8 (.p7 x0 (0 : Int))
 | .p7 x0 n2 =>
  if (decide (x0 ≥ (65536 : Int))) = true then
   if (decide ((0 : Int) ≤ (16 : Int))) = true then
    uj8 (.p15 (shr .u64 x0 (16 : Int)) (IntKind.wrap .i64 (n2 + (16 : Int))))
   else none
  else
   uj8 (.p15 x0 n2)
 | .p15 x0 n2 =>
  if (decide (x0 ≥ (256 : Int))) = true then
   if (decide ((0 : Int) ≤ (8 : Int))) = true then
    uj8 (.p31 (shr .u64 x0 (8 : Int)) (IntKind.wrap .i64 (n2 + (8 : Int))))
   else none
  else
   uj8 (.p31 x0 n2)
 | .p31 x0 n2 =>
  (sidx (⟨#[0, 1, 2, 2, 3, 3, 3, 3, 4, 4, 4, 4, 4, 4, 4, 4, 5, 5, 5, 5, 5, 5, 5, 5, 5, 5, 5, 5, 5, 5, 5, 5, 6, 6, 6, 6, 6, 6, 6, 6, 6, 6, 6, 6, 6, 6, 6, 6, 6, 6, 6, 6, 6, 6, 6, 6, 6, 6, 6, 6, 6, 6, 6, 6, 7, 7, 7, 7, 7, 7, 7, 7, 7, 7, 7, 7, 7, 7, 7, 7, 7, 7, 7, 7, 7, 7, 7, 7, 7, 7, 7, 7, 7, 7, 7, 7, 7, 7, 7, 7, 7, 7, 7, 7, 7, 7, 7, 7, 7, 7, 7, 7, 7, 7, 7, 7, 7, 7, 7, 7, 7, 7, 7, 7, 7, 7, 7, 7, 8, 8, 8, 8, 8, 8, 8, 8, 8, 8, 8, 8, 8, 8, 8, 8, 8, 8, 8, 8, 8, 8, 8, 8, 8, 8, 8, 8, 8, 8, 8, 8, 8, 8, 8, 8, 8, 8, 8, 8, 8, 8, 8, 8, 8, 8, 8, 8, 8, 8, 8, 8, 8, 8, 8, 8, 8, 8, 8, 8, 8, 8, 8, 8, 8, 8, 8, 8, 8, 8, 8, 8, 8, 8, 8, 8, 8, 8, 8, 8, 8, 8, 8, 8, 8, 8, 8, 8, 8, 8, 8, 8, 8, 8, 8, 8, 8, 8, 8, 8, 8, 8, 8, 8, 8, 8, 8, 8, 8, 8, 8, 8, 8, 8, 8, 8, 8, 8, 8, 8, 8, 8, 8, 8, 8, 8, 8, 8]⟩ : ByteArray) (IntKind.wrap .u8 x0)) >>= fun t1 =>
  some ((IntKind.wrap .i64 (n2 + (IntKind.wrap .i64 t1)), ()), ())
 partial_fixpoint
def wr5 : ub2 E := v59.okc E_ok (run := uj8) (uj8.partial_correctness v59.M fun run' ih => v59.mk_ok E_ok [] ih)
inductive vP2 where
 | start (x0 : Int)
def v60 : Fb E vP2 (Int × Unit) Unit := ⟨124, Tryz.f124, (.cons (Rd.int .u64).w .nil), .nil, fun a b => .start a.1, { rl := (.cons (.int .i64) .nil), rb := .nil, done := [0] }, [], mkWr [] []⟩
def u01 : vP2 → Option ((Int × Unit) × Unit)
 | .start x0 =>
  (uj8 (.start x0)) >>= fun t1 =>
  some ((t1.1.1, ()), ())
def wr6 : ub2 E := v60.okc E_ok (run := u01) (v60.mk_ok E_ok [wr5] v60.none)
inductive vP3 where
 | start (x0 : (Option ua4))
def v61 : Fb E vP3 (Int × Unit) Unit := ⟨91, Tryz.f91, (.cons (Rd.op 128).w .nil), .nil, fun a b => .start a.1, { rl := (.cons (.int .i64) .nil), rb := .nil, done := [0] }, [], mkWr [] []⟩
def uQ1 : vP3 → Option ((Int × Unit) × Unit)
 | .start x0 =>
  x0 >>= fun t1 =>
  (u01 (.start (IntKind.wrap .u64 (IntKind.wrap .i64 ((List.length (Option.getD t1.constructors []) : Int) - (1 : Int)))))) >>= fun t2 =>
  some ((t2.1.1, ()), ())
def wr7 : ub2 E := v61.okc E_ok (run := uQ1) (v61.mk_ok E_ok [wr6] v61.none)
inductive vB7 where
 | start (v0_0 : ByteArray) (v0_1 : (List ua6)) (v0_2 : (Option (List (Option ua4))))
 | p116 (sum3 : Int) (s7 : (Option (List (Option ua4)))) (s8 : Int) (s9 : Int)
def vw7 : Fb E vB7 (Int × Unit) Unit := ⟨89, Tryz.f89, (.cons (.agg (.cons Rd.str.w (.cons (.sl 58) (.cons (Rd.so 105).w .nil)))) .nil), .nil, fun a b => .start a.1.1 a.1.2.1 a.1.2.2.1, { rl := (.cons (.int .i64) .nil), rb := .nil, done := [0] }, [⟨116, { slots := [3, 7, 8, 9] }, (.cons (.int .i64) (.cons (Rd.so 105) (.cons (.int .i64) (.cons (.int .i64) .nil)))), .nil, fun a b => .p116 a.1 a.2.1 a.2.2.1 a.2.2.2.1⟩], mkWr [] []⟩
inductive vB8 where
 | start (x0 : (Option ua4))
def vw8 : Fb E vB8 (Int × Unit) Unit := ⟨65, Tryz.f65, (.cons (Rd.op 128).w .nil), .nil, fun a b => .start a.1, { rl := (.cons (.int .i64) .nil), rb := .nil, done := [0] }, [], mkWr [] []⟩
inductive vB9 where
 | start (x0 : (Option ua4))
 | p116 (most3 : Int) (s9 : (Option (List data_variant))) (s10 : Int) (s11 : Int)
def vw9 : Fb E vB9 (Int × Unit) Unit := ⟨90, Tryz.f90, (.cons (Rd.op 128).w .nil), .nil, fun a b => .start a.1, { rl := (.cons (.int .i64) .nil), rb := .nil, done := [0] }, [⟨116, { slots := [3, 9, 10, 11] }, (.cons (.int .i64) (.cons (Rd.so 125) (.cons (.int .i64) (.cons (.int .i64) .nil)))), .nil, fun a b => .p116 a.1 a.2.1 a.2.2.1 a.2.2.2.1⟩], mkWr [] []⟩
mutual
def ul3 : vB7 → Option ((Int × Unit) × Unit)
 | .start v0_0 v0_1 v0_2 =>
  ul3 (.p116 (0 : Int) v0_2 (List.length (Option.getD v0_2 []) : Int) (0 : Int))
 | .p116 sum3 s7 s8 s9 =>
  if (decide (s9 < s8)) = true then
   (idx (Option.getD s7 []) s9) >>= fun t1 =>
   (run_z41 (.start t1)) >>= fun t2 =>
   ul3 (.p116 (IntKind.wrap .i64 (sum3 + t2.1.1)) s7 s8 (IntKind.wrap .i64 (s9 + (1 : Int))))
  else
   some ((sum3, ()), ())
 partial_fixpoint
def run_z41 : vB8 → Option ((Int × Unit) × Unit)
 | .start x0 =>
  (up7 (.start x0)) >>= fun t1 =>
  if t1.1.1 = true then
   x0 >>= fun t2 =>
   some ((t2.bits, ()), ())
  else
   (uQ1 (.start x0)) >>= fun t3 =>
   (run_z42 (.start x0)) >>= fun t4 =>
   some ((IntKind.wrap .i64 (t3.1.1 + t4.1.1), ()), ())
 partial_fixpoint
def run_z42 : vB9 → Option ((Int × Unit) × Unit)
 | .start x0 =>
  x0 >>= fun t1 =>
  run_z42 (.p116 (0 : Int) t1.constructors (List.length (Option.getD t1.constructors []) : Int) (0 : Int))
 | .p116 most3 s9 s10 s11 =>
  if (decide (s11 < s10)) = true then
   (idx (Option.getD s9 []) s11) >>= fun t1 =>
   (ul3 (.start t1.name t1.fields t1.parts)) >>= fun t2 =>
   run_z42 (.p116 (if t2.1.1 > most3 then t2.1.1 else most3) s9 s10 (IntKind.wrap .i64 (s11 + (1 : Int))))
  else
   some ((most3, ()), ())
 partial_fixpoint
end
theorem uX4 : vw7.Ok ul3 ∧ vw8.Ok run_z41 ∧ vw9.Ok run_z42 := by
  refine ul3.mutual_partial_correctness vw7.M vw8.M vw9.M ?_ ?_ ?_
  · exact fun r_z40 r_z41 h_z40 h_z41 => vw7.mk_ok E_ok [vw8.okc E_ok h_z41, vw7.okc E_ok h_z40] h_z40
  · exact fun r_z42 h_z42 => vw8.mk_ok E_ok [vw9.okc E_ok h_z42, wr7, vj6] vw8.none
  · exact fun r_z40 r_z42 h_z40 h_z42 => vw9.mk_ok E_ok [vw9.okc E_ok h_z42, vw7.okc E_ok h_z40] h_z42
def wr8 : ub2 E := vw7.okc E_ok uX4.1
def vF5 : ub2 E := vw8.okc E_ok uX4.2.1
def wk4 : ub2 E := vw9.okc E_ok uX4.2.2
inductive vP4 where
 | start (l0 : (List ua3)) (t1_0 : Int) (t1_1 : Int) (t1_2 : ByteArray) (t1_3 : (List ua1))
def v62 : Fb E vP4 ((Option ua4) × (((List ua3) × (Unit × Unit)) × (Int × Unit))) Unit := ⟨64, Tryz.f64, (.cons (.sl 103) (.cons (.agg (.cons (Rd.int .i64).w (.cons (Rd.int .i64).w (.cons Rd.str.w (.cons (.sl 25) .nil))))) .nil)), .nil, fun a b => .start a.1 a.2.1.1 a.2.1.2.1 a.2.1.2.2.1 a.2.1.2.2.2.1, { rl := (.cons (Rd.op 128) (.cons (.agg (.cons (.sl 103 false) (.cons Rd.nl .nil))) (.cons (.int .i64) .nil))), rb := .nil, done := [0, 1, 2], ptrs := [(0, 128)] }, [], mkWr [] []⟩
def uu2 : vP4 → Option (((Option ua4) × (((List ua3) × (Unit × Unit)) × (Int × Unit))) × Unit)
 | .start l0 t1_0 t1_1 t1_2 t1_3 =>
  (uQ0 (.start l0)) >>= fun t1 =>
  if (t1.1.2.1 != (0 : Int)) = true then
   some ((none, ((l0, ((), ())), (t1.1.2.1, ()))), ())
  else
   (uH1 (.start l0 ([]) t1_0 t1_1 t1_2 t1_3)) >>= fun t2 =>
   if (t2.1.1 != (0 : Int)) = true then
    some ((none, ((l0, ((), ())), (t2.1.1, ()))), ())
   else
    (uc4 (.start l0 ([]) t1_0 t1_1 t1_2 t1_3 (1 : Int) (0 : Int))) >>= fun t3 =>
    if (t3.1.2.1 == (0 : Int)) = true then
     (run_z41 (.start t3.1.1)) >>= fun t4 =>
     (uk6 (.start t4.1.1 (1 : Int) (16 : Int))) >>= fun t5 =>
     if (!t5.1.1) = true then
      some ((t3.1.1, ((l0, ((), ())), ((25 : Int), ()))), ())
     else
      some ((t3.1.1, ((l0, ((), ())), (t3.1.2.1, ()))), ())
    else
     some ((t3.1.1, ((l0, ((), ())), (t3.1.2.1, ()))), ())
def vF6 : ub2 E := v62.okc E_ok (run := uu2) (v62.mk_ok E_ok [c_z5, vF5, wr4, wk3, wr1] v62.none)
inductive vP5 where
 | start (l0 : (List ua3)) (t1_0 : Int) (t1_1 : Int) (t1_2 : ByteArray) (t1_3 : (List ua1))
def v63 : Fb E vP5 (Int × (Int × Unit)) Unit := ⟨14, Tryz.f14, (.cons (.sl 103) (.cons (.agg (.cons (Rd.int .i64).w (.cons (Rd.int .i64).w (.cons Rd.str.w (.cons (.sl 25) .nil))))) .nil)), .nil, fun a b => .start a.1 a.2.1.1 a.2.1.2.1 a.2.1.2.2.1 a.2.1.2.2.2.1, { rl := (.cons (.int .i64) (.cons (.int .i64) .nil)), rb := .nil, done := [0, 1] }, [], mkWr [] []⟩
def uH2 : vP5 → Option ((Int × (Int × Unit)) × Unit)
 | .start l0 t1_0 t1_1 t1_2 t1_3 =>
  (uu2 (.start l0 t1_0 t1_1 t1_2 t1_3)) >>= fun t1 =>
  if (t1.1.2.2.1 != (0 : Int)) = true then
   some (((0 : Int), (t1.1.2.2.1, ())), ())
  else
   (run_z41 (.start t1.1.1)) >>= fun t2 =>
   some ((t2.1.1, ((0 : Int), ())), ())
def wk5 : ub2 E := v63.okc E_ok (run := uH2) (v63.mk_ok E_ok [vF5, vF6] v63.none)
inductive vP6 where
 | start (name0 : ByteArray) (parts1 : (List ua5))
def v64 : Fb E vP6 ((ByteArray × (Int × ((List ua5) × Unit))) × Unit) Unit := ⟨60, Tryz.f60, (.cons Rd.str.w (.cons (.sl 37) .nil)), .nil, fun a b => .start a.1 a.2.1, { rl := (.cons (.agg (.cons .str (.cons (.int .i64) (.cons (.sl 37 false) .nil)))) .nil), rb := .nil, done := [0] }, [], mkWr [] []⟩
def uu3 : vP6 → Option (((ByteArray × (Int × ((List ua5) × Unit))) × Unit) × Unit)
 | .start name0 parts1 =>
  some (((name0, ((0 : Int), (parts1, ()))), ()), ())
def wr9 : ub2 E := v64.okc E_ok (run := uu3) (v64.mk_ok E_ok [] v64.none)
inductive vP7 where
 | start (v0_0 : ByteArray) (v0_1 : Int) (v0_2 : (List ua5))
def v65 : Fb E vP7 ((List ua5) × Unit) Unit := ⟨95, Tryz.f95, (.cons (.agg (.cons Rd.str.w (.cons (Rd.int .i64).w (.cons (.sl 37) .nil)))) .nil), .nil, fun a b => .start a.1.1 a.1.2.1 a.1.2.2.1, { rl := (.cons (.sl 37 false) .nil), rb := .nil, done := [0] }, [], mkWr [] []⟩
def u03 : vP7 → Option (((List ua5) × Unit) × Unit)
 | .start v0_0 v0_1 v0_2 =>
  some ((v0_2, ()), ())
def ws1 : ub2 E := v65.okc E_ok (run := u03) (v65.mk_ok E_ok [] v65.none)
inductive vP8 where
 | start (x0_0 : ByteArray) (x0_1 : Int) (x0_2 : (List ua5)) (depth1 : Int) (B0 : Int)
 | p15 (depth1 : Int) (B0 : Int) (H0 : ByteArray) (H1 : Int) (H2 : (List ua5))
 | p244 (depth1 : Int) (s20 : (List ua5)) (s21 : Int) (s22 : Int) (B0 : Int)
def vS5 : Fb E vP8 (Bool × Unit) ((Int × Unit) × ((Unit × Unit) × (((Unit × (Unit × (Unit × Unit))) × Unit) × Unit))) := ⟨131, Tryz.f131, (.cons (.agg (.cons Rd.str.w (.cons (Rd.int .i64).w (.cons (.sl 37) .nil)))) (.cons (Rd.int .i64).w (.cons (Rd.bp 0 0).w (.cons (Rd.bp 1 0).w (.cons (Rd.bp 2 0).w .nil))))), (.cons (.var 3 (.cons (.int .i64) .nil)) (.cons (.var 136 (.cons (Rd.fn 95 .nil) .nil)) (.cons (.var 173 (.cons (Rd.fn 131 (.cons (.bp 0 0) (.cons (.bp 1 0) (.cons (.bp 2 0) .nil)))) .nil)) .nil))), fun a b => .start a.1.1 a.1.2.1 a.1.2.2.1 a.2.1 b.1.1, { rl := (.cons .bool .nil), rb := (.cons (.var 3 (.cons (.int .i64) .nil)) (.cons (.var 136 (.cons (Rd.fn 95 .nil) .nil)) (.cons (.var 173 (.cons (Rd.fn 131 (.cons (.bp 0 0) (.cons (.bp 1 0) (.cons (.bp 2 0) .nil)))) .nil)) .nil))), keep := 3, done := [0] }, [⟨15, { slots := [1, 3, 4, 5], keep := 3 }, (.cons (.int .i64) (.cons (.bp 1 0) (.cons (.bp 2 0) (.cons (.bp 3 0) .nil)))), (.cons (.var 3 (.cons (.int .i64) .nil)) (.cons (.var 136 (.cons (Rd.fn 95 .nil) .nil)) (.cons (.var 173 (.cons (Rd.fn 131 (.cons (.bp 0 0) (.cons (.bp 1 0) (.cons (.bp 2 0) .nil)))) .nil)) (.cons (.var 37 (.cons .str (.cons (.int .i64) (.cons (.sl 37 false) .nil)))) .nil)))), fun a b => .p15 a.1 b.1.1 b.2.2.2.1.1 b.2.2.2.1.2.1 b.2.2.2.1.2.2.1⟩,
 ⟨244, { slots := [1, 4, 20, 21, 22], keep := 3 }, (.cons (.int .i64) (.cons (.bp 2 0) (.cons (.sl 37 false) (.cons (.int .i64) (.cons (.int .i64) .nil))))), (.cons (.var 3 (.cons (.int .i64) .nil)) (.cons (.var 136 (.cons (Rd.fn 95 .nil) .nil)) (.cons (.var 173 (.cons (Rd.fn 131 (.cons (.bp 0 0) (.cons (.bp 1 0) (.cons (.bp 2 0) .nil)))) .nil)) .nil))), fun a b => .p244 a.1 a.2.2.1 a.2.2.2.1 a.2.2.2.2.1 b.1.1⟩], mkWr [] []⟩
def uj9 : vP8 → Option ((Bool × Unit) × ((Int × Unit) × ((Unit × Unit) × (((Unit × (Unit × (Unit × Unit))) × Unit) × Unit))))
 | .start x0_0 x0_1 x0_2 depth1 B0 =>
  if (decide ((IntKind.wrap .i64 (B0 + (1 : Int))) > (200 : Int))) = true then
   some ((false, ()), ((IntKind.wrap .i64 (B0 + (1 : Int)), ()), (((), ()), ((((), ((), ((), ()))), ()), ()))))
  else
   if (decide (depth1 > (40 : Int))) = true then
    some ((false, ()), ((IntKind.wrap .i64 (B0 + (1 : Int)), ()), (((), ()), ((((), ((), ((), ()))), ()), ()))))
   else
    uj9 (.p15 depth1 (IntKind.wrap .i64 (B0 + (1 : Int))) x0_0 x0_1 x0_2)
 | .p15 depth1 B0 H0 H1 H2 =>
  (u03 (.start H0 H1 H2)) >>= fun t1 =>
  uj9 (.p244 depth1 t1.1.1 (List.length t1.1.1 : Int) (0 : Int) B0)
 | .p244 depth1 s20 s21 s22 B0 =>
  if (decide (s22 < s21)) = true then
   (idx s20 s22) >>= fun t1 =>
   (uj9 (.start t1.Name t1.Number t1.Parts (IntKind.wrap .i64 (depth1 + (1 : Int))) B0)) >>= fun t2 =>
   if (!t2.1.1) = true then
    some ((false, ()), ((t2.2.1.1, ()), (((), ()), ((((), ((), ((), ()))), ()), ()))))
   else
    uj9 (.p244 depth1 s20 s21 (IntKind.wrap .i64 (s22 + (1 : Int))) t2.2.1.1)
  else
   some ((true, ()), ((B0, ()), (((), ()), ((((), ((), ((), ()))), ()), ()))))
 partial_fixpoint
def ws2 : ub2 E := vS5.okc E_ok (run := uj9) (uj9.partial_correctness vS5.M fun run' ih => vS5.mk_ok E_ok [vS5.okc E_ok ih, ws1] ih)
inductive vP9 where
 | start (root0_0 : ByteArray) (root0_1 : Int) (root0_2 : (List ua5))
def v66 : Fb E vP9 (Int × Unit) Unit := ⟨94, Tryz.f94, (.cons (.agg (.cons Rd.str.w (.cons (Rd.int .i64).w (.cons (.sl 37) .nil)))) (.cons (Rd.fn 95 .nil).w .nil)), .nil, fun a b => .start a.1.1 a.1.2.1 a.1.2.2.1, { rl := (.cons (.int .i64) .nil), rb := .nil, done := [0] }, [], mkWr [] []⟩
def uH3 : vP9 → Option ((Int × Unit) × Unit)
 | .start root0_0 root0_1 root0_2 =>
  (uj9 (.start root0_0 root0_1 root0_2 (1 : Int) (0 : Int))) >>= fun t1 =>
  (uc2 (.start t1.1.1 (8 : Int))) >>= fun t2 =>
  some ((t2.1.1, ()), ())
def wk6 : ub2 E := v66.okc E_ok (run := uH3) (v66.mk_ok E_ok [c_z7, ws2] v66.none)
inductive vQ0 where
 | start (v0_0 : ByteArray) (v0_1 : (List ua6)) (v0_2 : (Option (List (Option ua4)))) (s1 : ByteArray)
def v67 : Fb E vQ0 (Bool × Unit) Unit := ⟨123, Tryz.f123, (.cons (.agg (.cons Rd.str.w (.cons (.sl 58) (.cons (Rd.so 105).w .nil)))) (.cons (Rd.el 9 0).w .nil)), .nil, fun a b => .start a.1.1 a.1.2.1 a.1.2.2.1 a.2.1, { rl := (.cons .bool .nil), rb := .nil, done := [0] }, [], mkWr [] []⟩
def u04 : vQ0 → Option ((Bool × Unit) × Unit)
 | .start v0_0 v0_1 v0_2 s1 =>
  some ((seq v0_0 s1, ()), ())
def ws3 : ub2 E := v67.okc E_ok (run := u04) (v67.mk_ok E_ok [] v67.none)
inductive vQ1 where
 | start (s0 : (Option (List data_variant))) (B0 : ByteArray)
 | p52 (s0 : (Option (List data_variant))) (s7 : Int) (s8 : Int) (B0 : ByteArray)
def v68 : Fb E vQ1 (Int × Unit) ((ByteArray × Unit) × Unit) := ⟨122, Tryz.f122, (.cons (Rd.so 125).w (.cons (Rd.fn 123 (.cons (.bp 0 0) .nil)).w .nil)), (.cons (.var 9 (.cons .str .nil)) .nil), fun a b => .start a.1 b.1.1, { rl := (.cons (.int .i64) .nil), rb := (.cons (.var 9 (.cons .str .nil)) .nil), keep := 1, done := [0] }, [⟨52, { slots := [0, 1, 7, 8], keep := 1 }, (.cons (Rd.so 125) (.cons (Rd.fn 123 (.cons (.bp 0 0) .nil)) (.cons (.int .i64) (.cons (.int .i64) .nil)))), (.cons (.var 9 (.cons .str .nil)) .nil), fun a b => .p52 a.1 a.2.2.1 a.2.2.2.1 b.1.1⟩], mkWr [] []⟩
def uo1 : vQ1 → Option ((Int × Unit) × ((ByteArray × Unit) × Unit))
 | .start s0 B0 =>
  uo1 (.p52 s0 (List.length (Option.getD s0 []) : Int) (0 : Int) B0)
 | .p52 s0 s7 s8 B0 =>
  if (decide (s8 < s7)) = true then
   (idx (Option.getD s0 []) s8) >>= fun t1 =>
   (u04 (.start t1.name t1.fields t1.parts B0)) >>= fun t2 =>
   if t2.1.1 = true then
    some ((s8, ()), ((B0, ()), ()))
   else
    uo1 (.p52 s0 s7 (IntKind.wrap .i64 (s8 + (1 : Int))) B0)
  else
   some (((-1 : Int), ()), ((B0, ()), ()))
 partial_fixpoint
def ws4 : ub2 E := v68.okc E_ok (run := uo1) (uo1.partial_correctness v68.M fun run' ih => v68.mk_ok E_ok [ws3] ih)
inductive vQ2 where
 | start (x0 : (Option ua4)) (name1 : ByteArray)
def v69 : Fb E vQ2 (Int × Unit) Unit := ⟨80, Tryz.f80, (.cons (Rd.op 128).w (.cons Rd.str.w .nil)), .nil, fun a b => .start a.1 a.2.1, { rl := (.cons (.int .i64) .nil), rb := .nil, done := [0] }, [], mkWr [] []⟩
def uH4 : vQ2 → Option ((Int × Unit) × Unit)
 | .start x0 name1 =>
  x0 >>= fun t1 =>
  (uo1 (.start t1.constructors name1)) >>= fun t2 =>
  some ((t2.1.1, ()), ())
def wk7 : ub2 E := v69.okc E_ok (run := uH4) (v69.mk_ok E_ok [ws4] v69.none)
inductive vQ3 where
 | start (i0 : Int) (part1_0 : ByteArray) (part1_1 : Int) (part1_2 : (List ua5)) (C0 : ByteArray) (C1 : (List ua6)) (C2 : (Option (List (Option ua4))))
def vE6 : Fb E vQ3 (Int × Unit) ((ByteArray × ((List ua6) × ((Option (List (Option ua4))) × Unit))) × Unit) := ⟨143, Tryz.f143, (.cons (Rd.int .i64).w (.cons (.agg (.cons Rd.str.w (.cons (Rd.int .i64).w (.cons (.sl 37) .nil)))) (.cons (Rd.bp 0 0).w .nil))), (.cons (.var 125 (.cons .str (.cons (.sl 58 false) (.cons (Rd.so 105) .nil)))) .nil), fun a b => .start a.1 a.2.1.1 a.2.1.2.1 a.2.1.2.2.1 b.1.1 b.1.2.1 b.1.2.2.1, { rl := (.cons (.int .i64) .nil), rb := (.cons (.var 125 (.cons .str (.cons (.sl 58 false) (.cons (Rd.so 105) .nil)))) .nil), keep := 1, done := [0] }, [], mkWr [] []⟩
inductive vC0 where
 | start (x0 : (Option ua4)) (v1_0 : ByteArray) (v1_1 : Int) (v1_2 : (List ua5))
def vx0 : Fb E vC0 (Int × Unit) Unit := ⟨109, Tryz.f109, (.cons (Rd.op 128).w (.cons (.agg (.cons Rd.str.w (.cons (Rd.int .i64).w (.cons (.sl 37) .nil)))) .nil)), .nil, fun a b => .start a.1 a.2.1.1 a.2.1.2.1 a.2.1.2.2.1, { rl := (.cons (.int .i64) .nil), rb := .nil, done := [0] }, [], mkWr [] []⟩
inductive vQ4 where
 | start (l0 : (List ua5)) (C0 : ByteArray) (C1 : (List ua6)) (C2 : (Option (List (Option ua4))))
 | p52 (s9 : (List ua5)) (s10 : Int) (s11 : Int) (C0 : ByteArray) (C1 : (List ua6)) (C2 : (Option (List (Option ua4))))
def vE7 : Fb E vQ4 (Int × (Int × Unit)) ((ByteArray × ((List ua6) × ((Option (List (Option ua4))) × Unit))) × Unit) := ⟨134, Tryz.f134, (.cons (.sl 37) (.cons (Rd.fn 143 (.cons (.bp 0 0) .nil)).w .nil)), (.cons (.var 125 (.cons .str (.cons (.sl 58 false) (.cons (Rd.so 105) .nil)))) .nil), fun a b => .start a.1 b.1.1 b.1.2.1 b.1.2.2.1, { rl := (.cons (.int .i64) (.cons (.int .i64) .nil)), rb := (.cons (.var 125 (.cons .str (.cons (.sl 58 false) (.cons (Rd.so 105) .nil)))) .nil), keep := 1, done := [0, 1] }, [⟨52, { slots := [1, 9, 10, 11], keep := 1 }, (.cons (Rd.fn 143 (.cons (.bp 0 0) .nil)) (.cons (.sl 37 false) (.cons (.int .i64) (.cons (.int .i64) .nil)))), (.cons (.var 125 (.cons .str (.cons (.sl 58 false) (.cons (Rd.so 105) .nil)))) .nil), fun a b => .p52 a.2.1 a.2.2.1 a.2.2.2.1 b.1.1 b.1.2.1 b.1.2.2.1⟩], mkWr [] []⟩
mutual
def uQ2 : vQ3 → Option ((Int × Unit) × ((ByteArray × ((List ua6) × ((Option (List (Option ua4))) × Unit))) × Unit))
 | .start i0 part1_0 part1_1 part1_2 C0 C1 C2 =>
  (idx (Option.getD C2 []) i0) >>= fun t1 =>
  (run_z53 (.start t1 part1_0 part1_1 part1_2)) >>= fun t2 =>
  some ((t2.1.1, ()), ((C0, (C1, (C2, ()))), ()))
 partial_fixpoint
def run_z53 : vC0 → Option ((Int × Unit) × Unit)
 | .start x0 v1_0 v1_1 v1_2 =>
  (up7 (.start x0)) >>= fun t1 =>
  if t1.1.1 = true then
   if (seq v1_0 (⟨#[]⟩ : ByteArray)) = true then
    (uc2 (.start ((List.length v1_2 : Int) == (0 : Int)) (3 : Int))) >>= fun t2 =>
    x0 >>= fun t3 =>
    if (decide ((0 : Int) ≤ t3.bits)) = true then
     (uk6 (.start v1_1 (0 : Int) (IntKind.wrap .i64 ((shl .i64 (1 : Int) t3.bits) - (1 : Int))))) >>= fun t4 =>
     (uc2 (.start t4.1.1 (2 : Int))) >>= fun t5 =>
     (uc8 (.start ([t2.1.1, t5.1.1] : List Int))) >>= fun t6 =>
     some ((t6.1.1, ()), ())
    else none
   else
    (uc2 (.start false (3 : Int))) >>= fun t7 =>
    x0 >>= fun t8 =>
    if (decide ((0 : Int) ≤ t8.bits)) = true then
     (uk6 (.start v1_1 (0 : Int) (IntKind.wrap .i64 ((shl .i64 (1 : Int) t8.bits) - (1 : Int))))) >>= fun t9 =>
     (uc2 (.start t9.1.1 (2 : Int))) >>= fun t10 =>
     (uc8 (.start ([t7.1.1, t10.1.1] : List Int))) >>= fun t11 =>
     some ((t11.1.1, ()), ())
    else none
  else
   (uH4 (.start x0 v1_0)) >>= fun t12 =>
   if (decide (t12.1.1 < (0 : Int))) = true then
    some (((6 : Int), ()), ())
   else
    x0 >>= fun t13 =>
    (idx (Option.getD t13.constructors []) t12.1.1) >>= fun t14 =>
    (uc2 (.start (v1_1 == (0 : Int)) (3 : Int))) >>= fun t15 =>
    (uc2 (.start ((List.length v1_2 : Int) == (List.length (Option.getD t14.parts []) : Int)) (10 : Int))) >>= fun t16 =>
    (uc8 (.start ([t15.1.1, t16.1.1] : List Int))) >>= fun t17 =>
    if (t17.1.1 != (0 : Int)) = true then
     some ((t17.1.1, ()), ())
    else
     (run_z54 (.start v1_2 t14.name t14.fields t14.parts)) >>= fun t18 =>
     some ((t18.1.2.1, ()), ())
 partial_fixpoint
def run_z54 : vQ4 → Option ((Int × (Int × Unit)) × ((ByteArray × ((List ua6) × ((Option (List (Option ua4))) × Unit))) × Unit))
 | .start l0 C0 C1 C2 =>
  run_z54 (.p52 l0 (List.length l0 : Int) (0 : Int) C0 C1 C2)
 | .p52 s9 s10 s11 C0 C1 C2 =>
  if (decide (s11 < s10)) = true then
   (idx s9 s11) >>= fun t1 =>
   (uQ2 (.start s11 t1.Name t1.Number t1.Parts C0 C1 C2)) >>= fun t2 =>
   if (t2.1.1 != (0 : Int)) = true then
    some ((s11, (t2.1.1, ())), ((t2.2.1.1, (t2.2.1.2.1, (t2.2.1.2.2.1, ()))), ()))
   else
    run_z54 (.p52 s9 s10 (IntKind.wrap .i64 (s11 + (1 : Int))) t2.2.1.1 t2.2.1.2.1 t2.2.1.2.2.1)
  else
   some (((0 : Int), ((0 : Int), ())), ((C0, (C1, (C2, ()))), ()))
 partial_fixpoint
end
theorem vH4 : vE6.Ok uQ2 ∧ vx0.Ok run_z53 ∧ vE7.Ok run_z54 := by
  refine uQ2.mutual_partial_correctness vE6.M vx0.M vE7.M ?_ ?_ ?_
  · exact fun r_z53 h_z53 => vE6.mk_ok E_ok [vx0.okc E_ok h_z53] vE6.none
  · exact fun r_z54 h_z54 => vx0.mk_ok E_ok [vE7.okc E_ok h_z54, wk7, vj5, c_z5, c_z7, vj6] vx0.none
  · exact fun r_z52 r_z54 h_z52 h_z54 => vE7.mk_ok E_ok [vE7.okc E_ok h_z54, vE6.okc E_ok h_z52] h_z54
def ws5 : ub2 E := vx0.okc E_ok vH4.2.1
inductive vQ5 where
 | start (l0 : (List ua3)) (t1_0 : Int) (t1_1 : Int) (t1_2 : ByteArray) (t1_3 : (List ua1)) (v2_0 : ByteArray) (v2_1 : Int) (v2_2 : (List ua5))
 | p15 (x8 : (Option ua4)) (e10 : Int) (C0 : ByteArray) (C1 : Int) (C2 : (List ua5))
def v71 : Fb E vQ5 ((Option ua4) × (Int × Unit)) Unit := ⟨73, Tryz.f73, (.cons (.sl 103) (.cons (.agg (.cons (Rd.int .i64).w (.cons (Rd.int .i64).w (.cons Rd.str.w (.cons (.sl 25) .nil))))) (.cons (.agg (.cons Rd.str.w (.cons (Rd.int .i64).w (.cons (.sl 37) .nil)))) .nil))), .nil, fun a b => .start a.1 a.2.1.1 a.2.1.2.1 a.2.1.2.2.1 a.2.1.2.2.2.1 a.2.2.1.1 a.2.2.1.2.1 a.2.2.1.2.2.1, { rl := (.cons (Rd.op 128) (.cons (.int .i64) .nil)), rb := .nil, done := [0, 1] }, [⟨15, { slots := [5, 8, 10] }, (.cons (.bp 0 0) (.cons (Rd.op 128) (.cons (.int .i64) .nil))), (.cons (.var 37 (.cons .str (.cons (.int .i64) (.cons (.sl 37 false) .nil)))) .nil), fun a b => .p15 a.2.1 a.2.2.1 b.1.1 b.1.2.1 b.1.2.2.1⟩], mkWr [] []⟩
def uk0 : vQ5 → Option (((Option ua4) × (Int × Unit)) × Unit)
 | .start l0 t1_0 t1_1 t1_2 t1_3 v2_0 v2_1 v2_2 =>
  (uu2 (.start l0 t1_0 t1_1 t1_2 t1_3)) >>= fun t1 =>
  if (t1.1.2.2.1 == (0 : Int)) = true then
   (uH3 (.start v2_0 v2_1 v2_2)) >>= fun t2 =>
   uk0 (.p15 t1.1.1 t2.1.1 v2_0 v2_1 v2_2)
  else
   uk0 (.p15 t1.1.1 t1.1.2.2.1 v2_0 v2_1 v2_2)
 | .p15 x8 e10 C0 C1 C2 =>
  if (e10 == (0 : Int)) = true then
   (run_z53 (.start x8 C0 C1 C2)) >>= fun t1 =>
   some ((x8, (t1.1.1, ())), ())
  else
   some ((x8, (e10, ())), ())
 partial_fixpoint
def vU0 : ub2 E := v71.okc E_ok (run := uk0) (uk0.partial_correctness v71.M fun run' ih => v71.mk_ok E_ok [ws5, wk6, vF6] ih)
inductive vQ6 where
 | start (x0 : (Option ua4)) (v1_0 : ByteArray) (v1_1 : Int) (v1_2 : (List ua5))
 | p500 (x0 : (Option ua4)) (tag5 : Int) (fields6 : Int) (s24 : (Option (List (Option ua4)))) (s25 : Int) (s26 : Int) (C0 : ByteArray) (C1 : Int) (C2 : (List ua5))
def vS6 : Fb E vQ6 (Int × Unit) Unit := ⟨74, Tryz.f74, (.cons (Rd.op 128).w (.cons (.agg (.cons Rd.str.w (.cons (Rd.int .i64).w (.cons (.sl 37) .nil)))) .nil)), .nil, fun a b => .start a.1 a.2.1.1 a.2.1.2.1 a.2.1.2.2.1, { rl := (.cons (.int .i64) .nil), rb := .nil, done := [0] }, [⟨500, { slots := [0, 3, 5, 6, 24, 25, 26] }, (.cons (Rd.op 128) (.cons (.bp 0 0) (.cons (.int .i64) (.cons (.int .i64) (.cons (Rd.so 105) (.cons (.int .i64) (.cons (.int .i64) .nil))))))), (.cons (.var 37 (.cons .str (.cons (.int .i64) (.cons (.sl 37 false) .nil)))) .nil), fun a b => .p500 a.1 a.2.2.1 a.2.2.2.1 a.2.2.2.2.1 a.2.2.2.2.2.1 a.2.2.2.2.2.2.1 b.1.1 b.1.2.1 b.1.2.2.1⟩], mkWr [] []⟩
def ul4 : vQ6 → Option ((Int × Unit) × Unit)
 | .start x0 v1_0 v1_1 v1_2 =>
  (up7 (.start x0)) >>= fun t1 =>
  if t1.1.1 = true then
   some ((v1_1, ()), ())
  else
   (uH4 (.start x0 v1_0)) >>= fun t2 =>
   x0 >>= fun t3 =>
   (idx (Option.getD t3.constructors []) t2.1.1) >>= fun t4 =>
   ul4 (.p500 x0 t2.1.1 (0 : Int) t4.parts (List.length (Option.getD t4.parts []) : Int) (0 : Int) v1_0 v1_1 v1_2)
 | .p500 x0 tag5 fields6 s24 s25 s26 C0 C1 C2 =>
  if (decide (s26 < s25)) = true then
   (idx (Option.getD s24 []) s26) >>= fun t1 =>
   (run_z41 (.start t1)) >>= fun t2 =>
   if (decide ((0 : Int) ≤ t2.1.1)) = true then
    (idx C2 s26) >>= fun t3 =>
    (ul4 (.start t1 t3.Name t3.Number t3.Parts)) >>= fun t4 =>
    ul4 (.p500 x0 tag5 (bits .or .i64 (shl .i64 fields6 t2.1.1) t4.1.1) s24 s25 (IntKind.wrap .i64 (s26 + (1 : Int))) C0 C1 C2)
   else none
  else
   (run_z42 (.start x0)) >>= fun t5 =>
   if (decide ((0 : Int) ≤ t5.1.1)) = true then
    some ((bits .or .i64 (shl .i64 tag5 t5.1.1) fields6, ()), ())
   else none
 partial_fixpoint
def ws6 : ub2 E := vS6.okc E_ok (run := ul4) (ul4.partial_correctness vS6.M fun run' ih => vS6.mk_ok E_ok [vS6.okc E_ok ih, wk4, vF5, wk7, vj6] ih)
inductive vQ7 where
 | start (l0 : (List ua3)) (t1_0 : Int) (t1_1 : Int) (t1_2 : ByteArray) (t1_3 : (List ua1)) (v2_0 : ByteArray) (v2_1 : Int) (v2_2 : (List ua5))
def v73 : Fb E vQ7 (Int × (Int × Unit)) Unit := ⟨21, Tryz.f21, (.cons (.sl 103) (.cons (.agg (.cons (Rd.int .i64).w (.cons (Rd.int .i64).w (.cons Rd.str.w (.cons (.sl 25) .nil))))) (.cons (.agg (.cons Rd.str.w (.cons (Rd.int .i64).w (.cons (.sl 37) .nil)))) .nil))), .nil, fun a b => .start a.1 a.2.1.1 a.2.1.2.1 a.2.1.2.2.1 a.2.1.2.2.2.1 a.2.2.1.1 a.2.2.1.2.1 a.2.2.1.2.2.1, { rl := (.cons (.int .i64) (.cons (.int .i64) .nil)), rb := .nil, done := [0, 1] }, [], mkWr [] []⟩
def uB1 : vQ7 → Option ((Int × (Int × Unit)) × Unit)
 | .start l0 t1_0 t1_1 t1_2 t1_3 v2_0 v2_1 v2_2 =>
  (uk0 (.start l0 t1_0 t1_1 t1_2 t1_3 v2_0 v2_1 v2_2)) >>= fun t1 =>
  if (t1.1.2.1 != (0 : Int)) = true then
   some (((0 : Int), (t1.1.2.1, ())), ())
  else
   (ul4 (.start t1.1.1 v2_0 v2_1 v2_2)) >>= fun t2 =>
   some ((t2.1.1, ((0 : Int), ())), ())
def wk8 : ub2 E := v73.okc E_ok (run := uB1) (v73.mk_ok E_ok [ws6, vU0] v73.none)
inductive vQ8 where
 | start (x0 : (Option ua4)) (n1 : Int)
 | p8180 (fields7 : Int) (low9 : Int) (s54 : (Option (List (Option ua4)))) (s55 : Int) (s56 : Int) (C0 : ByteArray) (C1 : Int) (B1 : (List ua5))
def vS7 : Fb E vQ8 ((ByteArray × (Int × ((List ua5) × Unit))) × (Bool × Unit)) Unit := ⟨71, Tryz.f71, (.cons (Rd.op 128).w (.cons (Rd.int .i64).w .nil)), .nil, fun a b => .start a.1 a.2.1, { rl := (.cons (.agg (.cons .str (.cons (.int .i64) (.cons (.sl 37 false) .nil)))) (.cons .bool .nil)), rb := .nil, deep := [(false, 0, 2, 37)], done := [0, 1] }, [⟨8180, { slots := [4, 7, 9, 54, 55, 56], up := [(true, 4, 2, 37)] }, (.cons (.bp 0 0) (.cons (.int .i64) (.cons (.int .i64) (.cons (Rd.so 105) (.cons (.int .i64) (.cons (.int .i64) .nil)))))), (.cons (.var 37 (.cons .str (.cons (.int .i64) (.cons (Rd.rw 1) .nil)))) (.cons (.row 37 false) .nil)), fun a b => .p8180 a.2.1 a.2.2.1 a.2.2.2.1 a.2.2.2.2.1 a.2.2.2.2.2.1 b.1.1 b.1.2.1 b.2.1⟩], mkWr [] []⟩
def ul5 : vQ8 → Option (((ByteArray × (Int × ((List ua5) × Unit))) × (Bool × Unit)) × Unit)
 | .start x0 n1 =>
  (up7 (.start x0)) >>= fun t1 =>
  if t1.1.1 = true then
   some ((((⟨#[]⟩ : ByteArray), (n1, ([], ()))), (true, ())), ())
  else
   (run_z42 (.start x0)) >>= fun t2 =>
   if (decide ((0 : Int) ≤ t2.1.1)) = true then
    (run_z42 (.start x0)) >>= fun t3 =>
    if (decide ((0 : Int) ≤ t3.1.1)) = true then
     x0 >>= fun t4 =>
     if (decide ((shr .i64 n1 t2.1.1) ≥ (List.length (Option.getD t4.constructors []) : Int))) = true then
      some ((((⟨#[]⟩ : ByteArray), ((0 : Int), ([], ()))), (false, ())), ())
     else
      x0 >>= fun t5 =>
      (idx (Option.getD t5.constructors []) (shr .i64 n1 t2.1.1)) >>= fun t6 =>
      (ul3 (.start t6.name t6.fields t6.parts)) >>= fun t7 =>
      if (decide ((0 : Int) ≤ t7.1.1)) = true then
       if ((shr .i64 (bits .and .i64 n1 (IntKind.wrap .i64 ((shl .i64 (1 : Int) t3.1.1) - (1 : Int)))) t7.1.1) != (0 : Int)) = true then
        some ((((⟨#[]⟩ : ByteArray), ((0 : Int), ([], ()))), (false, ())), ())
       else
        ul5 (.p8180 (bits .and .i64 n1 (IntKind.wrap .i64 ((shl .i64 (1 : Int) t3.1.1) - (1 : Int)))) t7.1.1 t6.parts (List.length (Option.getD t6.parts []) : Int) (0 : Int) t6.name (0 : Int) ([] : List ua5))
      else none
    else none
   else none
 | .p8180 fields7 low9 s54 s55 s56 C0 C1 B1 =>
  if (decide (s56 < s55)) = true then
   (idx (Option.getD s54 []) s56) >>= fun t1 =>
   (run_z41 (.start t1)) >>= fun t2 =>
   if (decide ((0 : Int) ≤ (IntKind.wrap .i64 (low9 - t2.1.1)))) = true then
    (run_z41 (.start t1)) >>= fun t3 =>
    if (decide ((0 : Int) ≤ t3.1.1)) = true then
     (ul5 (.start t1 (bits .and .i64 (shr .i64 fields7 (IntKind.wrap .i64 (low9 - t2.1.1))) (IntKind.wrap .i64 ((shl .i64 (1 : Int) t3.1.1) - (1 : Int)))))) >>= fun t4 =>
     if (!t4.1.2.1) = true then
      some (((C0, (C1, (B1, ()))), (false, ())), ())
     else
      if (fits (List.length B1) (List.length ([(⟨t4.1.1.1, t4.1.1.2.1, t4.1.1.2.2.1⟩ : ua5)] : List ua5)) 48) = true then
       ul5 (.p8180 fields7 (IntKind.wrap .i64 (low9 - t2.1.1)) s54 s55 (IntKind.wrap .i64 (s56 + (1 : Int))) C0 C1 (B1 ++ ([(⟨t4.1.1.1, t4.1.1.2.1, t4.1.1.2.2.1⟩ : ua5)] : List ua5)))
      else none
    else none
   else none
  else
   some (((C0, (C1, (B1, ()))), (true, ())), ())
 partial_fixpoint
def ws7 : ub2 E := vS7.okc E_ok (run := ul5) (ul5.partial_correctness vS7.M fun run' ih => vS7.mk_ok E_ok [vS7.okc E_ok ih, vF5, wr8, wk4, vj6] ih)
inductive vQ9 where
 | start (l0 : (List ua3)) (t1_0 : Int) (t1_1 : Int) (t1_2 : ByteArray) (t1_3 : (List ua1)) (bits2 : Int)
def v74 : Fb E vQ9 ((ByteArray × (Int × ((List ua5) × Unit))) × (Int × Unit)) Unit := ⟨19, Tryz.f19, (.cons (.sl 103) (.cons (.agg (.cons (Rd.int .i64).w (.cons (Rd.int .i64).w (.cons Rd.str.w (.cons (.sl 25) .nil))))) (.cons (Rd.int .i64).w .nil))), .nil, fun a b => .start a.1 a.2.1.1 a.2.1.2.1 a.2.1.2.2.1 a.2.1.2.2.2.1 a.2.2.1, { rl := (.cons (.agg (.cons .str (.cons (.int .i64) (.cons (.sl 37 false) .nil)))) (.cons (.int .i64) .nil)), rb := .nil, deep := [(false, 0, 2, 37)], done := [0, 1] }, [], mkWr [] []⟩
def uB2 : vQ9 → Option (((ByteArray × (Int × ((List ua5) × Unit))) × (Int × Unit)) × Unit)
 | .start l0 t1_0 t1_1 t1_2 t1_3 bits2 =>
  (uu2 (.start l0 t1_0 t1_1 t1_2 t1_3)) >>= fun t1 =>
  (uc8 (.start ([t1.1.2.2.1] : List Int))) >>= fun t2 =>
  if (t2.1.1 != (0 : Int)) = true then
   some ((((⟨#[]⟩ : ByteArray), ((0 : Int), ([], ()))), (t2.1.1, ())), ())
  else
   (run_z41 (.start t1.1.1)) >>= fun t3 =>
   if (decide ((0 : Int) ≤ t3.1.1)) = true then
    (uk6 (.start bits2 (0 : Int) (IntKind.wrap .i64 ((shl .i64 (1 : Int) t3.1.1) - (1 : Int))))) >>= fun t4 =>
    if (!t4.1.1) = true then
     some ((((⟨#[]⟩ : ByteArray), ((0 : Int), ([], ()))), ((2 : Int), ())), ())
    else
     (ul5 (.start t1.1.1 bits2)) >>= fun t5 =>
     if (!t5.1.2.1) = true then
      some ((((⟨#[]⟩ : ByteArray), ((0 : Int), ([], ()))), ((3 : Int), ())), ())
     else
      some (((t5.1.1.1, (t5.1.1.2.1, (t5.1.1.2.2.1, ()))), ((0 : Int), ())), ())
   else none
def wk9 : ub2 E := v74.okc E_ok (run := uB2) (v74.mk_ok E_ok [ws7, c_z5, vF5, vj5, vF6] v74.none)
inductive vC1 where
 | start (v0_0 : ByteArray) (v0_1 : (List ua6)) (v0_2 : (Option (List (Option ua4))))
 | p116 (n3 : Int) (s7 : (Option (List (Option ua4)))) (s8 : Int) (s9 : Int)
def vx1 : Fb E vC1 (Int × Unit) Unit := ⟨108, Tryz.f108, (.cons (.agg (.cons Rd.str.w (.cons (.sl 58) (.cons (Rd.so 105).w .nil)))) .nil), .nil, fun a b => .start a.1.1 a.1.2.1 a.1.2.2.1, { rl := (.cons (.int .i64) .nil), rb := .nil, done := [0] }, [⟨116, { slots := [3, 7, 8, 9] }, (.cons (.int .i64) (.cons (Rd.so 105) (.cons (.int .i64) (.cons (.int .i64) .nil)))), .nil, fun a b => .p116 a.1 a.2.1 a.2.2.1 a.2.2.2.1⟩], mkWr [] []⟩
inductive vC2 where
 | start (x0 : (Option ua4))
 | p244 (sum3 : Int) (s16 : (Option (List data_variant))) (s17 : Int) (s18 : Int)
def vx2 : Fb E vC2 (Int × Unit) Unit := ⟨68, Tryz.f68, (.cons (Rd.op 128).w .nil), .nil, fun a b => .start a.1, { rl := (.cons (.int .i64) .nil), rb := .nil, done := [0] }, [⟨244, { slots := [3, 16, 17, 18] }, (.cons (.int .i64) (.cons (Rd.so 125) (.cons (.int .i64) (.cons (.int .i64) .nil)))), .nil, fun a b => .p244 a.1 a.2.1 a.2.2.1 a.2.2.2.1⟩], mkWr [] []⟩
mutual
def uk1 : vC1 → Option ((Int × Unit) × Unit)
 | .start v0_0 v0_1 v0_2 =>
  uk1 (.p116 (1 : Int) v0_2 (List.length (Option.getD v0_2 []) : Int) (0 : Int))
 | .p116 n3 s7 s8 s9 =>
  if (decide (s9 < s8)) = true then
   (idx (Option.getD s7 []) s9) >>= fun t1 =>
   (run_z61 (.start t1)) >>= fun t2 =>
   uk1 (.p116 (IntKind.wrap .i64 (n3 * t2.1.1)) s7 s8 (IntKind.wrap .i64 (s9 + (1 : Int))))
  else
   some ((n3, ()), ())
 partial_fixpoint
def run_z61 : vC2 → Option ((Int × Unit) × Unit)
 | .start x0 =>
  (up7 (.start x0)) >>= fun t1 =>
  if t1.1.1 = true then
   x0 >>= fun t2 =>
   if (decide ((0 : Int) ≤ t2.bits)) = true then
    some ((shl .i64 (1 : Int) t2.bits, ()), ())
   else none
  else
   x0 >>= fun t3 =>
   run_z61 (.p244 (0 : Int) t3.constructors (List.length (Option.getD t3.constructors []) : Int) (0 : Int))
 | .p244 sum3 s16 s17 s18 =>
  if (decide (s18 < s17)) = true then
   (idx (Option.getD s16 []) s18) >>= fun t1 =>
   (uk1 (.start t1.name t1.fields t1.parts)) >>= fun t2 =>
   run_z61 (.p244 (IntKind.wrap .i64 (sum3 + t2.1.1)) s16 s17 (IntKind.wrap .i64 (s18 + (1 : Int))))
  else
   some ((sum3, ()), ())
 partial_fixpoint
end
theorem ve5 : vx1.Ok uk1 ∧ vx2.Ok run_z61 := by
  refine uk1.mutual_partial_correctness vx1.M vx2.M ?_ ?_
  · exact fun r_z60 r_z61 h_z60 h_z61 => vx1.mk_ok E_ok [vx2.okc E_ok h_z61, vx1.okc E_ok h_z60] h_z60
  · exact fun r_z60 r_z61 h_z60 h_z61 => vx2.mk_ok E_ok [vx2.okc E_ok h_z61, vx1.okc E_ok h_z60, vj6] h_z61
def wl0 : ub2 E := vx1.okc E_ok ve5.1
def vU1 : ub2 E := vx2.okc E_ok ve5.2
inductive vR0 where
 | start (x0 : (Option ua4)) (index1 : Int)
 | p116 (index1 : Int) (s18 : (Option (List data_variant))) (s19 : Int) (s20 : Int) (C0 : ByteArray) (C1 : Int)
 | p478452 (index1 : Int) (n7 : Int) (s36 : (Option (List (Option ua4)))) (s37 : Int) (s38 : Int) (C0 : ByteArray) (C1 : Int) (D0 : ByteArray) (D1 : Int) (B2 : (List ua5))
def vS8 : Fb E vR0 ((ByteArray × (Int × ((List ua5) × Unit))) × Unit) Unit := ⟨84, Tryz.f84, (.cons (Rd.op 128).w (.cons (Rd.int .i64).w .nil)), .nil, fun a b => .start a.1 a.2.1, { rl := (.cons (.agg (.cons .str (.cons (.int .i64) (.cons (.sl 37 false) .nil)))) .nil), rb := .nil, deep := [(false, 0, 2, 37)], done := [0] }, [⟨116, { slots := [1, 4, 18, 19, 20] }, (.cons (.int .i64) (.cons (.bp 0 0) (.cons (Rd.so 125) (.cons (.int .i64) (.cons (.int .i64) .nil))))), (.cons (.var 37 (.cons .str (.cons (.int .i64) (.cons Rd.nl .nil)))) .nil), fun a b => .p116 a.1 a.2.2.1 a.2.2.2.1 a.2.2.2.2.1 b.1.1 b.1.2.1⟩,
 ⟨478452, { slots := [1, 4, 7, 8, 36, 37, 38], up := [(true, 8, 2, 37)] }, (.cons (.int .i64) (.cons (.bp 0 0) (.cons (.int .i64) (.cons (.bp 1 0) (.cons (Rd.so 105) (.cons (.int .i64) (.cons (.int .i64) .nil))))))), (.cons (.var 37 (.cons .str (.cons (.int .i64) (.cons Rd.nl .nil)))) (.cons (.var 37 (.cons .str (.cons (.int .i64) (.cons (Rd.rw 2) .nil)))) (.cons (.row 37 false) .nil))), fun a b => .p478452 a.1 a.2.2.1 a.2.2.2.2.1 a.2.2.2.2.2.1 a.2.2.2.2.2.2.1 b.1.1 b.1.2.1 b.2.1.1 b.2.1.2.1 b.2.2.1⟩], mkWr [] []⟩
def ug9 : vR0 → Option (((ByteArray × (Int × ((List ua5) × Unit))) × Unit) × Unit)
 | .start x0 index1 =>
  (up7 (.start x0)) >>= fun t1 =>
  if t1.1.1 = true then
   some ((((⟨#[]⟩ : ByteArray), (index1, ([], ()))), ()), ())
  else
   x0 >>= fun t2 =>
   ug9 (.p116 index1 t2.constructors (List.length (Option.getD t2.constructors []) : Int) (0 : Int) (⟨#[]⟩ : ByteArray) (0 : Int))
 | .p116 index1 s18 s19 s20 C0 C1 =>
  if (decide (s20 < s19)) = true then
   (idx (Option.getD s18 []) s20) >>= fun t1 =>
   (uk1 (.start t1.name t1.fields t1.parts)) >>= fun t2 =>
   if (decide (index1 ≥ t2.1.1)) = true then
    ug9 (.p116 (IntKind.wrap .i64 (index1 - t2.1.1)) s18 s19 (IntKind.wrap .i64 (s20 + (1 : Int))) C0 C1)
   else
    ug9 (.p478452 index1 t2.1.1 t1.parts (List.length (Option.getD t1.parts []) : Int) (0 : Int) C0 C1 t1.name (0 : Int) ([] : List ua5))
  else
   some ((((⟨#[]⟩ : ByteArray), ((0 : Int), ([], ()))), ()), ())
 | .p478452 index1 n7 s36 s37 s38 C0 C1 D0 D1 B2 =>
  if (decide (s38 < s37)) = true then
   (idx (Option.getD s36 []) s38) >>= fun t1 =>
   (run_z61 (.start t1)) >>= fun t2 =>
   if (!(t2.1.1 == (0 : Int))) = true then
    if (!((IntKind.wrap .i64 (Int.tdiv n7 t2.1.1)) == (0 : Int))) = true then
     (ug9 (.start t1 (IntKind.wrap .i64 (Int.tdiv index1 (IntKind.wrap .i64 (Int.tdiv n7 t2.1.1)))))) >>= fun t3 =>
     if (fits (List.length B2) (List.length ([(⟨t3.1.1.1, t3.1.1.2.1, t3.1.1.2.2.1⟩ : ua5)] : List ua5)) 48) = true then
      if (!((IntKind.wrap .i64 (Int.tdiv n7 t2.1.1)) == (0 : Int))) = true then
       ug9 (.p478452 (Int.tmod index1 (IntKind.wrap .i64 (Int.tdiv n7 t2.1.1))) (IntKind.wrap .i64 (Int.tdiv n7 t2.1.1)) s36 s37 (IntKind.wrap .i64 (s38 + (1 : Int))) C0 C1 D0 D1 (B2 ++ ([(⟨t3.1.1.1, t3.1.1.2.1, t3.1.1.2.2.1⟩ : ua5)] : List ua5)))
      else none
     else none
    else none
   else none
  else
   some (((D0, (D1, (B2, ()))), ()), ())
 partial_fixpoint
def ws8 : ub2 E := vS8.okc E_ok (run := ug9) (ug9.partial_correctness vS8.M fun run' ih => vS8.mk_ok E_ok [vS8.okc E_ok ih, vU1, wl0, vj6] ih)
inductive vR1 where
 | start (l0 : (List ua3)) (t1_0 : Int) (t1_1 : Int) (t1_2 : ByteArray) (t1_3 : (List ua1)) (index2 : Int)
def v77 : Fb E vR1 ((ByteArray × (Int × ((List ua5) × Unit))) × (Int × Unit)) Unit := ⟨33, Tryz.f33, (.cons (.sl 103) (.cons (.agg (.cons (Rd.int .i64).w (.cons (Rd.int .i64).w (.cons Rd.str.w (.cons (.sl 25) .nil))))) (.cons (Rd.int .i64).w .nil))), .nil, fun a b => .start a.1 a.2.1.1 a.2.1.2.1 a.2.1.2.2.1 a.2.1.2.2.2.1 a.2.2.1, { rl := (.cons (.agg (.cons .str (.cons (.int .i64) (.cons (.sl 37 false) .nil)))) (.cons (.int .i64) .nil)), rb := .nil, deep := [(false, 0, 2, 37)], done := [0, 1] }, [], mkWr [] []⟩
def um9 : vR1 → Option (((ByteArray × (Int × ((List ua5) × Unit))) × (Int × Unit)) × Unit)
 | .start l0 t1_0 t1_1 t1_2 t1_3 index2 =>
  (uu2 (.start l0 t1_0 t1_1 t1_2 t1_3)) >>= fun t1 =>
  if (t1.1.2.2.1 != (0 : Int)) = true then
   some ((((⟨#[]⟩ : ByteArray), ((0 : Int), ([], ()))), (t1.1.2.2.1, ())), ())
  else
   (run_z61 (.start t1.1.1)) >>= fun t2 =>
   (uk6 (.start index2 (0 : Int) (IntKind.wrap .i64 (t2.1.1 - (1 : Int))))) >>= fun t3 =>
   if (!t3.1.1) = true then
    some ((((⟨#[]⟩ : ByteArray), ((0 : Int), ([], ()))), ((6 : Int), ())), ())
   else
    (ug9 (.start t1.1.1 index2)) >>= fun t4 =>
    some (((t4.1.1.1, (t4.1.1.2.1, (t4.1.1.2.2.1, ()))), ((0 : Int), ())), ())
def wl1 : ub2 E := v77.okc E_ok (run := um9) (v77.mk_ok E_ok [ws8, c_z5, vU1, vF6] v77.none)
inductive vR2 where
 | start (s0 : Int) (x1_0 : ByteArray) (x1_1 : Int) (x1_2 : (List ua5))
def vE8 : Fb E vR2 (Int × Unit) Unit := ⟨135, Tryz.f135, (.cons (Rd.int .i64).w (.cons (.agg (.cons Rd.str.w (.cons (Rd.int .i64).w (.cons (.sl 37) .nil)))) .nil)), .nil, fun a b => .start a.1 a.2.1.1 a.2.1.2.1 a.2.1.2.2.1, { rl := (.cons (.int .i64) .nil), rb := .nil, done := [0] }, [], mkWr [] []⟩
inductive vC3 where
 | start (v0_0 : ByteArray) (v0_1 : Int) (v0_2 : (List ua5))
 | p15 (e4 : Int) (C0 : ByteArray) (C1 : Int) (C2 : (List ua5))
def vx3 : Fb E vC3 (Int × Unit) Unit := ⟨97, Tryz.f97, (.cons (.agg (.cons Rd.str.w (.cons (Rd.int .i64).w (.cons (.sl 37) .nil)))) .nil), .nil, fun a b => .start a.1.1 a.1.2.1 a.1.2.2.1, { rl := (.cons (.int .i64) .nil), rb := .nil, done := [0] }, [⟨15, { slots := [1, 4] }, (.cons (.bp 0 0) (.cons (.int .i64) .nil)), (.cons (.var 37 (.cons .str (.cons (.int .i64) (.cons (.sl 37 false) .nil)))) .nil), fun a b => .p15 a.2.1 b.1.1 b.1.2.1 b.1.2.2.1⟩], mkWr [] []⟩
inductive vR3 where
 | start (l0 : (List ua5))
 | p52 (s9 : (List ua5)) (s10 : Int) (s11 : Int)
def vE9 : Fb E vR3 (Int × (Int × Unit)) Unit := ⟨134, Tryz.f134, (.cons (.sl 37) (.cons (Rd.fn 135 .nil).w .nil)), .nil, fun a b => .start a.1, { rl := (.cons (.int .i64) (.cons (.int .i64) .nil)), rb := .nil, done := [0, 1] }, [⟨52, { slots := [1, 9, 10, 11] }, (.cons (Rd.fn 135 .nil) (.cons (.sl 37 false) (.cons (.int .i64) (.cons (.int .i64) .nil)))), .nil, fun a b => .p52 a.2.1 a.2.2.1 a.2.2.2.1⟩], mkWr [] []⟩
mutual
def u05 : vR2 → Option ((Int × Unit) × Unit)
 | .start s0 x1_0 x1_1 x1_2 =>
  (run_z65 (.start x1_0 x1_1 x1_2)) >>= fun t1 =>
  some ((t1.1.1, ()), ())
 partial_fixpoint
def run_z65 : vC3 → Option ((Int × Unit) × Unit)
 | .start v0_0 v0_1 v0_2 =>
  if (!(seq v0_0 (⟨#[]⟩ : ByteArray))) = true then
   (uc2 (.start true (3 : Int))) >>= fun t1 =>
   if (seq v0_0 (⟨#[]⟩ : ByteArray)) = true then
    (uc2 (.start true (3 : Int))) >>= fun t2 =>
    if (seq v0_0 (⟨#[]⟩ : ByteArray)) = true then
     (uc2 (.start true (4 : Int))) >>= fun t3 =>
     (uk6 (.start v0_1 (0 : Int) (99999 : Int))) >>= fun t4 =>
     (uc2 (.start t4.1.1 (2 : Int))) >>= fun t5 =>
     (uc8 (.start ([t1.1.1, t2.1.1, t3.1.1, t5.1.1] : List Int))) >>= fun t6 =>
     run_z65 (.p15 t6.1.1 v0_0 v0_1 v0_2)
    else
     (ug8 (.start v0_0)) >>= fun t7 =>
     (uc2 (.start t7.1.1 (4 : Int))) >>= fun t8 =>
     (uk6 (.start v0_1 (0 : Int) (99999 : Int))) >>= fun t9 =>
     (uc2 (.start t9.1.1 (2 : Int))) >>= fun t10 =>
     (uc8 (.start ([t1.1.1, t2.1.1, t8.1.1, t10.1.1] : List Int))) >>= fun t11 =>
     run_z65 (.p15 t11.1.1 v0_0 v0_1 v0_2)
   else
    (uc2 (.start (v0_1 == (0 : Int)) (3 : Int))) >>= fun t12 =>
    if (seq v0_0 (⟨#[]⟩ : ByteArray)) = true then
     (uc2 (.start true (4 : Int))) >>= fun t13 =>
     (uk6 (.start v0_1 (0 : Int) (99999 : Int))) >>= fun t14 =>
     (uc2 (.start t14.1.1 (2 : Int))) >>= fun t15 =>
     (uc8 (.start ([t1.1.1, t12.1.1, t13.1.1, t15.1.1] : List Int))) >>= fun t16 =>
     run_z65 (.p15 t16.1.1 v0_0 v0_1 v0_2)
    else
     (ug8 (.start v0_0)) >>= fun t17 =>
     (uc2 (.start t17.1.1 (4 : Int))) >>= fun t18 =>
     (uk6 (.start v0_1 (0 : Int) (99999 : Int))) >>= fun t19 =>
     (uc2 (.start t19.1.1 (2 : Int))) >>= fun t20 =>
     (uc8 (.start ([t1.1.1, t12.1.1, t18.1.1, t20.1.1] : List Int))) >>= fun t21 =>
     run_z65 (.p15 t21.1.1 v0_0 v0_1 v0_2)
  else
   (uc2 (.start ((List.length v0_2 : Int) == (0 : Int)) (3 : Int))) >>= fun t22 =>
   if (seq v0_0 (⟨#[]⟩ : ByteArray)) = true then
    (uc2 (.start true (3 : Int))) >>= fun t23 =>
    if (seq v0_0 (⟨#[]⟩ : ByteArray)) = true then
     (uc2 (.start true (4 : Int))) >>= fun t24 =>
     (uk6 (.start v0_1 (0 : Int) (99999 : Int))) >>= fun t25 =>
     (uc2 (.start t25.1.1 (2 : Int))) >>= fun t26 =>
     (uc8 (.start ([t22.1.1, t23.1.1, t24.1.1, t26.1.1] : List Int))) >>= fun t27 =>
     run_z65 (.p15 t27.1.1 v0_0 v0_1 v0_2)
    else
     (ug8 (.start v0_0)) >>= fun t28 =>
     (uc2 (.start t28.1.1 (4 : Int))) >>= fun t29 =>
     (uk6 (.start v0_1 (0 : Int) (99999 : Int))) >>= fun t30 =>
     (uc2 (.start t30.1.1 (2 : Int))) >>= fun t31 =>
     (uc8 (.start ([t22.1.1, t23.1.1, t29.1.1, t31.1.1] : List Int))) >>= fun t32 =>
     run_z65 (.p15 t32.1.1 v0_0 v0_1 v0_2)
   else
    (uc2 (.start (v0_1 == (0 : Int)) (3 : Int))) >>= fun t33 =>
    if (seq v0_0 (⟨#[]⟩ : ByteArray)) = true then
     (uc2 (.start true (4 : Int))) >>= fun t34 =>
     (uk6 (.start v0_1 (0 : Int) (99999 : Int))) >>= fun t35 =>
     (uc2 (.start t35.1.1 (2 : Int))) >>= fun t36 =>
     (uc8 (.start ([t22.1.1, t33.1.1, t34.1.1, t36.1.1] : List Int))) >>= fun t37 =>
     run_z65 (.p15 t37.1.1 v0_0 v0_1 v0_2)
    else
     (ug8 (.start v0_0)) >>= fun t38 =>
     (uc2 (.start t38.1.1 (4 : Int))) >>= fun t39 =>
     (uk6 (.start v0_1 (0 : Int) (99999 : Int))) >>= fun t40 =>
     (uc2 (.start t40.1.1 (2 : Int))) >>= fun t41 =>
     (uc8 (.start ([t22.1.1, t33.1.1, t39.1.1, t41.1.1] : List Int))) >>= fun t42 =>
     run_z65 (.p15 t42.1.1 v0_0 v0_1 v0_2)
 | .p15 e4 C0 C1 C2 =>
  if (e4 != (0 : Int)) = true then
   some ((e4, ()), ())
  else
   (run_z66 (.start C2)) >>= fun t1 =>
   some ((t1.1.2.1, ()), ())
 partial_fixpoint
def run_z66 : vR3 → Option ((Int × (Int × Unit)) × Unit)
 | .start l0 =>
  run_z66 (.p52 l0 (List.length l0 : Int) (0 : Int))
 | .p52 s9 s10 s11 =>
  if (decide (s11 < s10)) = true then
   (idx s9 s11) >>= fun t1 =>
   (u05 (.start s11 t1.Name t1.Number t1.Parts)) >>= fun t2 =>
   if (t2.1.1 != (0 : Int)) = true then
    some ((s11, (t2.1.1, ())), ())
   else
    run_z66 (.p52 s9 s10 (IntKind.wrap .i64 (s11 + (1 : Int))))
  else
   some (((0 : Int), ((0 : Int), ())), ())
 partial_fixpoint
end
theorem vH5 : vE8.Ok u05 ∧ vx3.Ok run_z65 ∧ vE9.Ok run_z66 := by
  refine u05.mutual_partial_correctness vE8.M vx3.M vE9.M ?_ ?_ ?_
  · exact fun r_z65 h_z65 => vE8.mk_ok E_ok [vx3.okc E_ok h_z65] vE8.none
  · exact fun r_z65 r_z66 h_z65 h_z66 => vx3.mk_ok E_ok [vE9.okc E_ok h_z66, vx3.okc E_ok h_z65, c_z6, vj5, c_z5, c_z7] h_z65
  · exact fun r_z64 r_z66 h_z64 h_z66 => vE9.mk_ok E_ok [vE9.okc E_ok h_z66, vE8.okc E_ok h_z64] h_z66
def ws9 : ub2 E := vx3.okc E_ok vH5.2.1
inductive vR4 where
 | start (v0_0 : ByteArray) (v0_1 : Int) (v0_2 : (List ua5))
 | p500 (s19 : (List ua5)) (s20 : Int) (s21 : Int) (C0 : ByteArray) (C1 : Int) (C2 : (List ua5)) (B1 : (List ByteArray))
def vS9 : Fb E vR4 (ByteArray × Unit) Unit := ⟨98, Tryz.f98, (.cons (.agg (.cons Rd.str.w (.cons (Rd.int .i64).w (.cons (.sl 37) .nil)))) .nil), .nil, fun a b => .start a.1.1 a.1.2.1 a.1.2.2.1, { rl := (.cons .str .nil), rb := .nil, done := [0] }, [⟨500, { slots := [1, 3, 19, 20, 21], rows := [(3, 9)] }, (.cons (.bp 0 0) (.cons (Rd.rw 1) (.cons (.sl 37 false) (.cons (.int .i64) (.cons (.int .i64) .nil))))), (.cons (.var 37 (.cons .str (.cons (.int .i64) (.cons (.sl 37 false) .nil)))) (.cons (.row 9 false) .nil)), fun a b => .p500 a.2.2.1 a.2.2.2.1 a.2.2.2.2.1 b.1.1 b.1.2.1 b.1.2.2.1 b.2.1⟩], mkWr [] []⟩
def uB3 : vR4 → Option ((ByteArray × Unit) × Unit)
 | .start v0_0 v0_1 v0_2 =>
  if (seq v0_0 (⟨#[]⟩ : ByteArray)) = true then
   (vk5 (v0_1, ()) ()) >>= fun t1 =>
   some ((t1.1.1, ()), ())
  else
   if ((List.length v0_2 : Int) == (0 : Int)) = true then
    some ((v0_0, ()), ())
   else
    uB3 (.p500 v0_2 (List.length v0_2 : Int) (0 : Int) v0_0 v0_1 v0_2 ([] : List ByteArray))
 | .p500 s19 s20 s21 C0 C1 C2 B1 =>
  if (decide (s21 < s20)) = true then
   (idx s19 s21) >>= fun t1 =>
   (uB3 (.start t1.Name t1.Number t1.Parts)) >>= fun t2 =>
   if (fits (List.length B1) (List.length ([t2.1.1] : List ByteArray)) 16) = true then
    uB3 (.p500 s19 s20 (IntKind.wrap .i64 (s21 + (1 : Int))) C0 C1 C2 (B1 ++ ([t2.1.1] : List ByteArray)))
   else none
  else
   if (Nat.ble (C0.size + (⟨#[40]⟩ : ByteArray).size) 9223372036854775807) = true then
    (uG2 (B1, (⟨#[44, 32]⟩ : ByteArray), ()) ()) >>= fun t3 =>
    if (Nat.ble ((C0 ++ (⟨#[40]⟩ : ByteArray)).size + t3.1.1.size) 9223372036854775807) = true then
     if (Nat.ble (((C0 ++ (⟨#[40]⟩ : ByteArray)) ++ t3.1.1).size + (⟨#[41]⟩ : ByteArray).size) 9223372036854775807) = true then
      some ((((C0 ++ (⟨#[40]⟩ : ByteArray)) ++ t3.1.1) ++ (⟨#[41]⟩ : ByteArray), ()), ())
     else none
    else none
   else none
 partial_fixpoint
def wt0 : ub2 E := vS9.okc E_ok (run := uB3) (uB3.partial_correctness vS9.M fun run' ih => vS9.mk_ok E_ok [vS9.okc E_ok ih, u28, u27] ih)
inductive vR5 where
 | start (v0_0 : ByteArray) (v0_1 : Int) (v0_2 : (List ua5))
def v78 : Fb E vR5 (ByteArray × (Int × Unit)) Unit := ⟨54, Tryz.f54, (.cons (.agg (.cons Rd.str.w (.cons (Rd.int .i64).w (.cons (.sl 37) .nil)))) .nil), .nil, fun a b => .start a.1.1 a.1.2.1 a.1.2.2.1, { rl := (.cons .str (.cons (.int .i64) .nil)), rb := .nil, done := [0, 1] }, [], mkWr [] []⟩
def vb5 : vR5 → Option ((ByteArray × (Int × Unit)) × Unit)
 | .start v0_0 v0_1 v0_2 =>
  (uH3 (.start v0_0 v0_1 v0_2)) >>= fun t1 =>
  if (t1.1.1 != (0 : Int)) = true then
   some (((⟨#[]⟩ : ByteArray), (t1.1.1, ())), ())
  else
   (run_z65 (.start v0_0 v0_1 v0_2)) >>= fun t2 =>
   if (t2.1.1 != (0 : Int)) = true then
    some (((⟨#[]⟩ : ByteArray), (t2.1.1, ())), ())
   else
    (uB3 (.start v0_0 v0_1 v0_2)) >>= fun t3 =>
    some ((t3.1.1, ((0 : Int), ())), ())
def wt1 : ub2 E := v78.okc E_ok (run := vb5) (v78.mk_ok E_ok [wt0, ws9, wk6] v78.none)
inductive vR6 where
 | start (a0_0 : ByteArray) (a0_1 : Int) (a0_2 : (List ua5)) (b1_0 : ByteArray) (b1_1 : Int) (b1_2 : (List ua5))
 | p7 (C0 : ByteArray) (C1 : Int) (C2 : (List ua5)) (D0 : ByteArray) (D1 : Int) (D2 : (List ua5))
 | p116 (i5 : Int) (C0 : ByteArray) (C1 : Int) (C2 : (List ua5)) (D0 : ByteArray) (D1 : Int) (D2 : (List ua5))
def vT0 : Fb E vR6 (Bool × Unit) Unit := ⟨34, Tryz.f34, (.cons (.agg (.cons Rd.str.w (.cons (Rd.int .i64).w (.cons (.sl 37) .nil)))) (.cons (.agg (.cons Rd.str.w (.cons (Rd.int .i64).w (.cons (.sl 37) .nil)))) .nil)), .nil, fun a b => .start a.1.1 a.1.2.1 a.1.2.2.1 a.2.1.1 a.2.1.2.1 a.2.1.2.2.1, { rl := (.cons .bool .nil), rb := .nil, done := [0] }, [⟨7, { slots := [2, 3] }, (.cons (.bp 0 0) (.cons (.bp 1 0) .nil)), (.cons (.var 37 (.cons .str (.cons (.int .i64) (.cons (.sl 37 false) .nil)))) (.cons (.var 37 (.cons .str (.cons (.int .i64) (.cons (.sl 37 false) .nil)))) .nil)), fun a b => .p7 b.1.1 b.1.2.1 b.1.2.2.1 b.2.1.1 b.2.1.2.1 b.2.1.2.2.1⟩,
 ⟨116, { slots := [2, 3, 5] }, (.cons (.bp 0 0) (.cons (.bp 1 0) (.cons (.int .i64) .nil))), (.cons (.var 37 (.cons .str (.cons (.int .i64) (.cons (.sl 37 false) .nil)))) (.cons (.var 37 (.cons .str (.cons (.int .i64) (.cons (.sl 37 false) .nil)))) .nil)), fun a b => .p116 a.2.2.1 b.1.1 b.1.2.1 b.1.2.2.1 b.2.1.1 b.2.1.2.1 b.2.1.2.2.1⟩], mkWr [] []⟩
def uh0 : vR6 → Option ((Bool × Unit) × Unit)
 | .start a0_0 a0_1 a0_2 b1_0 b1_1 b1_2 =>
  if (!(seq a0_0 b1_0)) = true then
   some ((false, ()), ())
  else
   if (a0_1 != b1_1) = true then
    some ((false, ()), ())
   else
    if ((List.length a0_2 : Int) != (List.length b1_2 : Int)) = true then
     some ((false, ()), ())
    else
     uh0 (.p7 a0_0 a0_1 a0_2 b1_0 b1_1 b1_2)
 | .p7 C0 C1 C2 D0 D1 D2 =>
  uh0 (.p116 (0 : Int) C0 C1 C2 D0 D1 D2)
 | .p116 i5 C0 C1 C2 D0 D1 D2 =>
  if (decide (i5 < (List.length C2 : Int))) = true then
   (idx C2 i5) >>= fun t1 =>
   (idx D2 i5) >>= fun t2 =>
   (uh0 (.start t1.Name t1.Number t1.Parts t2.Name t2.Number t2.Parts)) >>= fun t3 =>
   if (!t3.1.1) = true then
    some ((false, ()), ())
   else
    uh0 (.p116 (IntKind.wrap .i64 (i5 + (1 : Int))) C0 C1 C2 D0 D1 D2)
  else
   some ((true, ()), ())
 partial_fixpoint
def wl2 : ub2 E := vT0.okc E_ok (run := uh0) (uh0.partial_correctness vT0.M fun run' ih => vT0.mk_ok E_ok [vT0.okc E_ok ih] ih)
inductive vR7 where
 | start
def v79 : Fb E vR7 (Bool × Unit) Unit := ⟨10, Tryz.f10, .nil, .nil, fun a b => .start, { rl := (.cons .bool .nil), rb := .nil, done := [0] }, [], mkWr [] []⟩
def u06 : vR7 → Option ((Bool × Unit) × Unit)
 | .start =>
  (uZ5 .start) >>= fun t1 =>
  (u55 (.start (3 : Int))) >>= fun t2 =>
  (uB0 (.start (⟨#[77, 97, 121, 98, 101]⟩ : ByteArray) ([(⟨t2.1.1.1, t2.1.1.2.1, t2.1.1.2.2.1, t2.1.1.2.2.2.1⟩ : ua1)] : List ua1))) >>= fun t3 =>
  (uH2 (.start t1.1.1 t3.1.1.1 t3.1.1.2.1 t3.1.1.2.2.1 t3.1.1.2.2.2.1)) >>= fun t4 =>
  (uZ5 .start) >>= fun t5 =>
  (u55 (.start (2 : Int))) >>= fun t6 =>
  (uB0 (.start (⟨#[67, 111, 108, 111, 114]⟩ : ByteArray) ([]))) >>= fun t7 =>
  (uB0 (.start (⟨#[80, 97, 105, 114]⟩ : ByteArray) ([(⟨t6.1.1.1, t6.1.1.2.1, t6.1.1.2.2.1, t6.1.1.2.2.2.1⟩ : ua1), (⟨t7.1.1.1, t7.1.1.2.1, t7.1.1.2.2.1, t7.1.1.2.2.2.1⟩ : ua1)] : List ua1))) >>= fun t8 =>
  (uu3 (.start (⟨#[66, 108, 117, 101]⟩ : ByteArray) ([]))) >>= fun t9 =>
  (uu3 (.start (⟨#[80, 97, 105, 114]⟩ : ByteArray) ([(⟨(⟨#[]⟩ : ByteArray), (3 : Int), []⟩ : ua5), (⟨t9.1.1.1, t9.1.1.2.1, t9.1.1.2.2.1⟩ : ua5)] : List ua5))) >>= fun t10 =>
  (uB1 (.start t5.1.1 t8.1.1.1 t8.1.1.2.1 t8.1.1.2.2.1 t8.1.1.2.2.2.1 t10.1.1.1 t10.1.1.2.1 t10.1.1.2.2.1)) >>= fun t11 =>
  (uZ5 .start) >>= fun t12 =>
  (u55 (.start (3 : Int))) >>= fun t13 =>
  (uB0 (.start (⟨#[77, 97, 121, 98, 101]⟩ : ByteArray) ([(⟨t13.1.1.1, t13.1.1.2.1, t13.1.1.2.2.1, t13.1.1.2.2.2.1⟩ : ua1)] : List ua1))) >>= fun t14 =>
  (uB2 (.start t12.1.1 t14.1.1.1 t14.1.1.2.1 t14.1.1.2.2.1 t14.1.1.2.2.2.1 (5 : Int))) >>= fun t15 =>
  (uZ5 .start) >>= fun t16 =>
  (uB0 (.start (⟨#[67, 111, 108, 111, 114]⟩ : ByteArray) ([]))) >>= fun t17 =>
  (uB0 (.start (⟨#[66, 111, 111, 108]⟩ : ByteArray) ([]))) >>= fun t18 =>
  (uB0 (.start (⟨#[80, 97, 105, 114]⟩ : ByteArray) ([(⟨t17.1.1.1, t17.1.1.2.1, t17.1.1.2.2.1, t17.1.1.2.2.2.1⟩ : ua1), (⟨t18.1.1.1, t18.1.1.2.1, t18.1.1.2.2.1, t18.1.1.2.2.2.1⟩ : ua1)] : List ua1))) >>= fun t19 =>
  (um9 (.start t16.1.1 t19.1.1.1 t19.1.1.2.1 t19.1.1.2.2.1 t19.1.1.2.2.2.1 (3 : Int))) >>= fun t20 =>
  (uu3 (.start (⟨#[66, 108, 117, 101]⟩ : ByteArray) ([]))) >>= fun t21 =>
  (uu3 (.start (⟨#[80, 97, 105, 114]⟩ : ByteArray) ([(⟨(⟨#[]⟩ : ByteArray), (3 : Int), []⟩ : ua5), (⟨t21.1.1.1, t21.1.1.2.1, t21.1.1.2.2.1⟩ : ua5)] : List ua5))) >>= fun t22 =>
  (vb5 (.start t22.1.1.1 t22.1.1.2.1 t22.1.1.2.2.1)) >>= fun t23 =>
  if (t4.1.2.1 == (0 : Int)) = true then
   if (t4.1.1 == (4 : Int)) = true then
    if (t11.1.2.1 == (0 : Int)) = true then
     if (t11.1.1 == (14 : Int)) = true then
      if (t15.1.2.1 == (3 : Int)) = true then
       if (t20.1.2.1 == (0 : Int)) = true then
        (uu3 (.start (⟨#[71, 114, 101, 101, 110]⟩ : ByteArray) ([]))) >>= fun t24 =>
        (uu3 (.start (⟨#[84, 114, 117, 101]⟩ : ByteArray) ([]))) >>= fun t25 =>
        (uu3 (.start (⟨#[80, 97, 105, 114]⟩ : ByteArray) ([(⟨t24.1.1.1, t24.1.1.2.1, t24.1.1.2.2.1⟩ : ua5), (⟨t25.1.1.1, t25.1.1.2.1, t25.1.1.2.2.1⟩ : ua5)] : List ua5))) >>= fun t26 =>
        (uh0 (.start t20.1.1.1 t20.1.1.2.1 t20.1.1.2.2.1 t26.1.1.1 t26.1.1.2.1 t26.1.1.2.2.1)) >>= fun t27 =>
        if t27.1.1 = true then
         if (t23.1.2.1 == (0 : Int)) = true then
          some ((seq t23.1.1 (⟨#[80, 97, 105, 114, 40, 51, 44, 32, 66, 108, 117, 101, 41]⟩ : ByteArray), ()), ())
         else
          some ((false, ()), ())
        else
         some ((false, ()), ())
       else
        some ((false, ()), ())
      else
       some ((false, ()), ())
     else
      some ((false, ()), ())
    else
     some ((false, ()), ())
   else
    some ((false, ()), ())
  else
   some ((false, ()), ())
def wt2 : ub2 E := v79.okc E_ok (run := u06) (v79.mk_ok E_ok [wl2, wt1, wl1, wk9, wk8, wr9, wk5, c_z2, c_z3, c_z0] v79.none)
inductive wf5 where
 | start (t0_0 : Int) (t0_1 : Int) (t0_2 : ByteArray) (t0_3 : (List ua1)) (depth1 : Int) (count2 : Int)
 | p15 (depth1 : Int) (count2 : Int) (C0 : Int) (C1 : Int) (C2 : ByteArray) (C3 : (List ua1))
 | p244 (depth1 : Int) (count2 : Int) (i7 : Int) (C0 : Int) (C1 : Int) (C2 : ByteArray) (C3 : (List ua1))
 | p489 (depth1 : Int) (count2 : Int) (i7 : Int) (C0 : Int) (C1 : Int) (C2 : ByteArray) (C3 : (List ua1))
def vT1 : Fb E wf5 (Int × Unit) Unit := ⟨102, Tryz.f102, (.cons (.agg (.cons (Rd.int .i64).w (.cons (Rd.int .i64).w (.cons Rd.str.w (.cons (.sl 25) .nil))))) (.cons (Rd.int .i64).w (.cons (Rd.int .i64).w .nil))), .nil, fun a b => .start a.1.1 a.1.2.1 a.1.2.2.1 a.1.2.2.2.1 a.2.1 a.2.2.1, { rl := (.cons (.int .i64) .nil), rb := .nil, done := [0] }, [⟨15, { slots := [1, 2, 3] }, (.cons (.int .i64) (.cons (.int .i64) (.cons (.bp 0 0) .nil))), (.cons (.var 25 (.cons (.int .i64) (.cons (.int .i64) (.cons .str (.cons (.sl 25 false) .nil))))) .nil), fun a b => .p15 a.1 a.2.1 b.1.1 b.1.2.1 b.1.2.2.1 b.1.2.2.2.1⟩,
 ⟨244, { slots := [1, 2, 3, 7] }, (.cons (.int .i64) (.cons (.int .i64) (.cons (.bp 0 0) (.cons (.int .i64) .nil)))), (.cons (.var 25 (.cons (.int .i64) (.cons (.int .i64) (.cons .str (.cons (.sl 25 false) .nil))))) .nil), fun a b => .p244 a.1 a.2.1 a.2.2.2.1 b.1.1 b.1.2.1 b.1.2.2.1 b.1.2.2.2.1⟩,
 ⟨489, { slots := [1, 2, 3, 7] }, (.cons (.int .i64) (.cons (.int .i64) (.cons (.bp 0 0) (.cons (.int .i64) .nil)))), (.cons (.var 25 (.cons (.int .i64) (.cons (.int .i64) (.cons .str (.cons (.sl 25 false) .nil))))) .nil), fun a b => .p489 a.1 a.2.1 a.2.2.2.1 b.1.1 b.1.2.1 b.1.2.2.1 b.1.2.2.2.1⟩], mkWr [] []⟩
def ui9 : wf5 → Option ((Int × Unit) × Unit)
 | .start t0_0 t0_1 t0_2 t0_3 depth1 count2 =>
  if (decide (depth1 > (40 : Int))) = true then
   some (((201 : Int), ()), ())
  else
   if (decide ((IntKind.wrap .i64 (count2 + (1 : Int))) > (200 : Int))) = true then
    some (((201 : Int), ()), ())
   else
    if (decide ((List.length t0_3 : Int) > (200 : Int))) = true then
     some (((201 : Int), ()), ())
    else
     ui9 (.p15 depth1 (IntKind.wrap .i64 (count2 + (1 : Int))) t0_0 t0_1 t0_2 t0_3)
 | .p15 depth1 count2 C0 C1 C2 C3 =>
  ui9 (.p244 depth1 count2 (0 : Int) C0 C1 C2 C3)
 | .p244 depth1 count2 i7 C0 C1 C2 C3 =>
  if (decide (i7 < (List.length C3 : Int))) = true then
   if (decide (count2 ≤ (200 : Int))) = true then
    ui9 (.p489 depth1 count2 i7 C0 C1 C2 C3)
   else
    some ((count2, ()), ())
  else
   some ((count2, ()), ())
 | .p489 depth1 count2 i7 C0 C1 C2 C3 =>
  (idx C3 i7) >>= fun t1 =>
  (ui9 (.start t1.Kind t1.Value t1.Name t1.Parts (IntKind.wrap .i64 (depth1 + (1 : Int))) count2)) >>= fun t2 =>
  ui9 (.p244 depth1 t2.1.1 (IntKind.wrap .i64 (i7 + (1 : Int))) C0 C1 C2 C3)
 partial_fixpoint
def wt3 : ub2 E := vT1.okc E_ok (run := ui9) (ui9.partial_correctness vT1.M fun run' ih => vT1.mk_ok E_ok [vT1.okc E_ok ih] ih)
inductive wf6 where
 | start (t0_0 : Int) (t0_1 : Int) (t0_2 : ByteArray) (t0_3 : (List ua1))
def v80 : Fb E wf6 (Bool × Unit) Unit := ⟨61, Tryz.f61, (.cons (.agg (.cons (Rd.int .i64).w (.cons (Rd.int .i64).w (.cons Rd.str.w (.cons (.sl 25) .nil))))) .nil), .nil, fun a b => .start a.1.1 a.1.2.1 a.1.2.2.1 a.1.2.2.2.1, { rl := (.cons .bool .nil), rb := .nil, done := [0] }, [], mkWr [] []⟩
def uQ3 : wf6 → Option ((Bool × Unit) × Unit)
 | .start t0_0 t0_1 t0_2 t0_3 =>
  (ui9 (.start t0_0 t0_1 t0_2 t0_3 (1 : Int) (0 : Int))) >>= fun t1 =>
  some ((decide (t1.1.1 ≤ (200 : Int)), ()), ())
def wa1 : ub2 E := v80.okc E_ok (run := uQ3) (v80.mk_ok E_ok [wt3] v80.none)
inductive wf7 where
 | start (l0 : (List ua3))
 | p116 (l0 : (List ua3)) (i3 : Int)
 | p1865 (l0 : (List ua3)) (i3 : Int)
 | p14924 (l0 : (List ua3)) (i3 : Int) (k4 : Int)
 | p3820700 (l0 : (List ua3)) (i3 : Int) (k4 : Int) (fields5 : (List ua6)) (j6 : Int)
def v81 : Fb E wf7 (Bool × Unit) Unit := ⟨11, Tryz.f11, (.cons (.sl 103) .nil), .nil, fun a b => .start a.1, { rl := (.cons .bool .nil), rb := .nil, done := [0] }, [⟨116, { slots := [0, 3] }, (.cons (.sl 103 false) (.cons (.int .i64) .nil)), .nil, fun a b => .p116 a.1 a.2.1⟩,
 ⟨1865, { slots := [0, 3] }, (.cons (.sl 103 false) (.cons (.int .i64) .nil)), .nil, fun a b => .p1865 a.1 a.2.1⟩,
 ⟨14924, { slots := [0, 3, 4] }, (.cons (.sl 103 false) (.cons (.int .i64) (.cons (.int .i64) .nil))), .nil, fun a b => .p14924 a.1 a.2.1 a.2.2.1⟩,
 ⟨3820700, { slots := [0, 3, 4, 5, 6] }, (.cons (.sl 103 false) (.cons (.int .i64) (.cons (.int .i64) (.cons (.sl 58 false) (.cons (.int .i64) .nil))))), .nil, fun a b => .p3820700 a.1 a.2.1 a.2.2.1 a.2.2.2.1 a.2.2.2.2.1⟩], mkWr [] []⟩
def ue2 : wf7 → Option ((Bool × Unit) × Unit)
 | .start l0 =>
  if (decide ((List.length l0 : Int) > (24 : Int))) = true then
   some ((false, ()), ())
  else
   ue2 (.p116 l0 (0 : Int))
 | .p116 l0 i3 =>
  if (decide (i3 < (List.length l0 : Int))) = true then
   (idx l0 i3) >>= fun t1 =>
   if (decide ((List.length t1.Constructors : Int) > (20 : Int))) = true then
    some ((false, ()), ())
   else
    (idx l0 i3) >>= fun t2 =>
    if (decide ((List.length t2.Params : Int) > (12 : Int))) = true then
     some ((false, ()), ())
    else
     ue2 (.p1865 l0 i3)
  else
   some ((true, ()), ())
 | .p1865 l0 i3 =>
  ue2 (.p14924 l0 i3 (0 : Int))
 | .p14924 l0 i3 k4 =>
  (idx l0 i3) >>= fun t1 =>
  if (decide (k4 < (List.length t1.Constructors : Int))) = true then
   (idx l0 i3) >>= fun t2 =>
   (idx t2.Constructors k4) >>= fun t3 =>
   if (decide ((List.length t3.Fields : Int) > (12 : Int))) = true then
    some ((false, ()), ())
   else
    ue2 (.p3820700 l0 i3 k4 t3.Fields (0 : Int))
  else
   ue2 (.p116 l0 (IntKind.wrap .i64 (i3 + (1 : Int))))
 | .p3820700 l0 i3 k4 fields5 j6 =>
  if (decide (j6 < (List.length fields5 : Int))) = true then
   (idx fields5 j6) >>= fun t1 =>
   (uQ3 (.start t1.Type_.Kind t1.Type_.Value t1.Type_.Name t1.Type_.Parts)) >>= fun t2 =>
   if (!t2.1.1) = true then
    some ((false, ()), ())
   else
    ue2 (.p3820700 l0 i3 k4 fields5 (IntKind.wrap .i64 (j6 + (1 : Int))))
  else
   ue2 (.p14924 l0 i3 (IntKind.wrap .i64 (k4 + (1 : Int))))
 partial_fixpoint
def wt4 : ub2 E := v81.okc E_ok (run := ue2) (ue2.partial_correctness v81.M fun run' ih => v81.mk_ok E_ok [wa1] ih)
inductive wf8 where
 | start (s0 : ByteArray)
 | p7 (s0 : ByteArray)
 | p116 (s0 : ByteArray) (i3 : Int)
 | p3731 (s0 : ByteArray) (i3 : Int) (c4 : Int) (letter5 : Bool)
def v82 : Fb E wf8 (Bool × Unit) Unit := ⟨118, Tryz.f118, (.cons Rd.str.w .nil), .nil, fun a b => .start a.1, { rl := (.cons .bool .nil), rb := .nil, done := [0] }, [⟨7, { slots := [0] }, (.cons .str .nil), .nil, fun a b => .p7 a.1⟩,
 ⟨116, { slots := [0, 3] }, (.cons .str (.cons (.int .i64) .nil)), .nil, fun a b => .p116 a.1 a.2.1⟩,
 ⟨3731, { slots := [0, 3, 4, 5] }, (.cons .str (.cons (.int .i64) (.cons (.int .u8) (.cons .bool .nil)))), .nil, fun a b => .p3731 a.1 a.2.1 a.2.2.1 a.2.2.2.1⟩], mkWr [] []⟩
def ud6 : wf8 → Option ((Bool × Unit) × Unit)
 | .start s0 =>
  if (decide ((s0.size : Int) < (1 : Int))) = true then
   some ((false, ()), ())
  else
   if (decide ((s0.size : Int) > (16 : Int))) = true then
    some ((false, ()), ())
   else
    ud6 (.p7 s0)
 | .p7 s0 =>
  ud6 (.p116 s0 (0 : Int))
 | .p116 s0 i3 =>
  if (decide (i3 < (s0.size : Int))) = true then
   (sidx s0 i3) >>= fun t1 =>
   if (decide (t1 ≥ (97 : Int))) = true then
    if (decide (t1 ≤ (122 : Int))) = true then
     ud6 (.p3731 s0 i3 t1 true)
    else
     if (decide (t1 ≥ (65 : Int))) = true then
      ud6 (.p3731 s0 i3 t1 (decide (t1 ≤ (90 : Int))))
     else
      ud6 (.p3731 s0 i3 t1 false)
   else
    if (decide (t1 ≥ (65 : Int))) = true then
     ud6 (.p3731 s0 i3 t1 (decide (t1 ≤ (90 : Int))))
    else
     ud6 (.p3731 s0 i3 t1 false)
  else
   some ((true, ()), ())
 | .p3731 s0 i3 c4 letter5 =>
  if (!letter5) = true then
   if (i3 == (0 : Int)) = true then
    some ((false, ()), ())
   else
    if (c4 != (95 : Int)) = true then
     if (decide (c4 < (48 : Int))) = true then
      some ((false, ()), ())
     else
      if (decide (c4 > (57 : Int))) = true then
       some ((false, ()), ())
      else
       ud6 (.p116 s0 (IntKind.wrap .i64 (i3 + (1 : Int))))
    else
     ud6 (.p116 s0 (IntKind.wrap .i64 (i3 + (1 : Int))))
  else
   ud6 (.p116 s0 (IntKind.wrap .i64 (i3 + (1 : Int))))
 partial_fixpoint
def wl3 : ub2 E := v82.okc E_ok (run := ud6) (ud6.partial_correctness v82.M fun run' ih => v82.mk_ok E_ok [] ih)
inductive wf9 where
 | start (l0 : (List ua3)) (name1 : ByteArray)
 | p52 (l0 : (List ua3)) (name1 : ByteArray) (i5 : Int)
def v83 : Fb E wf9 (Int × Unit) Unit := ⟨81, Tryz.f81, (.cons (.sl 103) (.cons Rd.str.w .nil)), .nil, fun a b => .start a.1 a.2.1, { rl := (.cons (.int .i64) .nil), rb := .nil, done := [0] }, [⟨52, { slots := [0, 1, 5] }, (.cons (.sl 103 false) (.cons .str (.cons (.int .i64) .nil))), .nil, fun a b => .p52 a.1 a.2.1 a.2.2.1⟩], mkWr [] []⟩
def uo2 : wf9 → Option ((Int × Unit) × Unit)
 | .start l0 name1 =>
  uo2 (.p52 l0 name1 (0 : Int))
 | .p52 l0 name1 i5 =>
  if (decide (i5 < (List.length l0 : Int))) = true then
   (idx l0 i5) >>= fun t1 =>
   if (seq t1.Name name1) = true then
    some ((i5, ()), ())
   else
    uo2 (.p52 l0 name1 (IntKind.wrap .i64 (i5 + (1 : Int))))
  else
   some (((-1 : Int), ()), ())
 partial_fixpoint
def wa2 : ub2 E := v83.okc E_ok (run := uo2) (uo2.partial_correctness v83.M fun run' ih => v83.mk_ok E_ok [] ih)
inductive wg0 where
 | start (l0 : (List ByteArray)) (s1 : ByteArray)
 | p52 (l0 : (List ByteArray)) (s1 : ByteArray) (i5 : Int)
def v84 : Fb E wg0 (Bool × Unit) Unit := ⟨119, Tryz.f119, (.cons (.sl 9) (.cons Rd.str.w .nil)), .nil, fun a b => .start a.1 a.2.1, { rl := (.cons .bool .nil), rb := .nil, done := [0] }, [⟨52, { slots := [0, 1, 5] }, (.cons (.sl 9 false) (.cons .str (.cons (.int .i64) .nil))), .nil, fun a b => .p52 a.1 a.2.1 a.2.2.1⟩], mkWr [] []⟩
def up8 : wg0 → Option ((Bool × Unit) × Unit)
 | .start l0 s1 =>
  up8 (.p52 l0 s1 (0 : Int))
 | .p52 l0 s1 i5 =>
  if (decide (i5 < (List.length l0 : Int))) = true then
   (idx l0 i5) >>= fun t1 =>
   if (seq t1 s1) = true then
    some ((true, ()), ())
   else
    up8 (.p52 l0 s1 (IntKind.wrap .i64 (i5 + (1 : Int))))
  else
   some ((false, ()), ())
 partial_fixpoint
def wl4 : ub2 E := v84.okc E_ok (run := up8) (up8.partial_correctness v84.M fun run' ih => v84.mk_ok E_ok [] ih)
inductive wg1 where
 | start (l0 : (List ua3)) (name1 : ByteArray)
 | p52 (l0 : (List ua3)) (name1 : ByteArray) (i5 : Int)
 | p3364 (l0 : (List ua3)) (name1 : ByteArray) (i5 : Int) (k6 : Int)
def v85 : Fb E wg1 (Bool × Unit) Unit := ⟨120, Tryz.f120, (.cons (.sl 103) (.cons Rd.str.w .nil)), .nil, fun a b => .start a.1 a.2.1, { rl := (.cons .bool .nil), rb := .nil, done := [0] }, [⟨52, { slots := [0, 1, 5] }, (.cons (.sl 103 false) (.cons .str (.cons (.int .i64) .nil))), .nil, fun a b => .p52 a.1 a.2.1 a.2.2.1⟩,
 ⟨3364, { slots := [0, 1, 5, 6] }, (.cons (.sl 103 false) (.cons .str (.cons (.int .i64) (.cons (.int .i64) .nil)))), .nil, fun a b => .p3364 a.1 a.2.1 a.2.2.1 a.2.2.2.1⟩], mkWr [] []⟩
def ui3 : wg1 → Option ((Bool × Unit) × Unit)
 | .start l0 name1 =>
  ui3 (.p52 l0 name1 (0 : Int))
 | .p52 l0 name1 i5 =>
  if (decide (i5 < (List.length l0 : Int))) = true then
   ui3 (.p3364 l0 name1 i5 (0 : Int))
  else
   some ((false, ()), ())
 | .p3364 l0 name1 i5 k6 =>
  (idx l0 i5) >>= fun t1 =>
  if (decide (k6 < (List.length t1.Constructors : Int))) = true then
   (idx l0 i5) >>= fun t2 =>
   (idx t2.Constructors k6) >>= fun t3 =>
   if (seq t3.Name name1) = true then
    some ((true, ()), ())
   else
    ui3 (.p3364 l0 name1 i5 (IntKind.wrap .i64 (k6 + (1 : Int))))
  else
   ui3 (.p52 l0 name1 (IntKind.wrap .i64 (i5 + (1 : Int))))
 partial_fixpoint
def wt5 : ub2 E := v85.okc E_ok (run := ui3) (ui3.partial_correctness v85.M fun run' ih => v85.mk_ok E_ok [] ih)
inductive wg2 where
 | start (n0 : Int) (lo1 : Int) (hi2 : Int)
def v86 : Fb E wg2 (Bool × Unit) Unit := ⟨17, Tryz.f17, (.cons (Rd.int .i64).w (.cons (Rd.int .i64).w (.cons (Rd.int .i64).w .nil))), .nil, fun a b => .start a.1 a.2.1 a.2.2.1, { rl := (.cons .bool .nil), rb := .nil, done := [0] }, [], mkWr [] []⟩
def uB4 : wg2 → Option ((Bool × Unit) × Unit)
 | .start n0 lo1 hi2 =>
  if (decide (lo1 ≤ n0)) = true then
   some ((decide (n0 ≤ hi2), ()), ())
  else
   some ((false, ()), ())
def vU2 : ub2 E := v86.okc E_ok (run := uB4) (v86.mk_ok E_ok [] v86.none)
inductive wg3 where
 | start (l0 : (List ua3)) (params1 : (List ByteArray)) (t2_0 : Int) (t2_1 : Int) (t2_2 : ByteArray) (t2_3 : (List ua1))
 | p31 (l0 : (List ua3)) (params1 : (List ByteArray)) (parts7 : Int) (C0 : Int) (C1 : Int) (C2 : ByteArray) (C3 : (List ua1))
 | p63 (l0 : (List ua3)) (params1 : (List ByteArray)) (parts7 : Int) (C0 : Int) (C1 : Int) (C2 : ByteArray) (C3 : (List ua1))
 | p255 (l0 : (List ua3)) (params1 : (List ByteArray)) (C0 : Int) (C1 : Int) (C2 : ByteArray) (C3 : (List ua1))
 | p4084 (l0 : (List ua3)) (params1 : (List ByteArray)) (i9 : Int) (C0 : Int) (C1 : Int) (C2 : ByteArray) (C3 : (List ua1))
def vT2 : Fb E wg3 (Int × Unit) Unit := ⟨138, Tryz.f138, (.cons (.sl 103) (.cons (.sl 9) (.cons (.agg (.cons (Rd.int .i64).w (.cons (Rd.int .i64).w (.cons Rd.str.w (.cons (.sl 25) .nil))))) .nil))), .nil, fun a b => .start a.1 a.2.1 a.2.2.1.1 a.2.2.1.2.1 a.2.2.1.2.2.1 a.2.2.1.2.2.2.1, { rl := (.cons (.int .i64) .nil), rb := .nil, done := [0] }, [⟨31, { slots := [0, 1, 5, 7] }, (.cons (.sl 103 false) (.cons (.sl 9 false) (.cons (.bp 0 0) (.cons (.int .i64) .nil)))), (.cons (.var 25 (.cons (.int .i64) (.cons (.int .i64) (.cons .str (.cons (.sl 25 false) .nil))))) .nil), fun a b => .p31 a.1 a.2.1 a.2.2.2.1 b.1.1 b.1.2.1 b.1.2.2.1 b.1.2.2.2.1⟩,
 ⟨63, { slots := [0, 1, 5, 7] }, (.cons (.sl 103 false) (.cons (.sl 9 false) (.cons (.bp 0 0) (.cons (.int .i64) .nil)))), (.cons (.var 25 (.cons (.int .i64) (.cons (.int .i64) (.cons .str (.cons (.sl 25 false) .nil))))) .nil), fun a b => .p63 a.1 a.2.1 a.2.2.2.1 b.1.1 b.1.2.1 b.1.2.2.1 b.1.2.2.2.1⟩,
 ⟨255, { slots := [0, 1, 5] }, (.cons (.sl 103 false) (.cons (.sl 9 false) (.cons (.bp 0 0) .nil))), (.cons (.var 25 (.cons (.int .i64) (.cons (.int .i64) (.cons .str (.cons (.sl 25 false) .nil))))) .nil), fun a b => .p255 a.1 a.2.1 b.1.1 b.1.2.1 b.1.2.2.1 b.1.2.2.2.1⟩,
 ⟨4084, { slots := [0, 1, 5, 9] }, (.cons (.sl 103 false) (.cons (.sl 9 false) (.cons (.bp 0 0) (.cons (.int .i64) .nil)))), (.cons (.var 25 (.cons (.int .i64) (.cons (.int .i64) (.cons .str (.cons (.sl 25 false) .nil))))) .nil), fun a b => .p4084 a.1 a.2.1 a.2.2.2.1 b.1.1 b.1.2.1 b.1.2.2.1 b.1.2.2.2.1⟩], mkWr [] []⟩
def ud2 : wg3 → Option ((Int × Unit) × Unit)
 | .start l0 params1 t2_0 t2_1 t2_2 t2_3 =>
  (uB4 (.start t2_0 (0 : Int) (2 : Int))) >>= fun t1 =>
  if (!t1.1.1) = true then
   some (((15 : Int), ()), ())
  else
   if (t2_0 == (0 : Int)) = true then
    (up8 (.start params1 t2_2)) >>= fun t2 =>
    if (!t2.1.1) = true then
     some (((6 : Int), ()), ())
    else
     ud2 (.p31 l0 params1 (0 : Int) t2_0 t2_1 t2_2 t2_3)
   else
    ud2 (.p31 l0 params1 (0 : Int) t2_0 t2_1 t2_2 t2_3)
 | .p31 l0 params1 parts7 C0 C1 C2 C3 =>
  if (C0 == (1 : Int)) = true then
   (uo2 (.start l0 C2)) >>= fun t1 =>
   if (seq C2 (⟨#[66, 105, 116]⟩ : ByteArray)) = true then
    ud2 (.p63 l0 params1 (1 : Int) C0 C1 C2 C3)
   else
    if (seq C2 (⟨#[66, 111, 111, 108]⟩ : ByteArray)) = true then
     ud2 (.p63 l0 params1 parts7 C0 C1 C2 C3)
    else
     if (decide (t1.1.1 ≥ (0 : Int))) = true then
      (idx l0 t1.1.1) >>= fun t2 =>
      ud2 (.p63 l0 params1 (List.length t2.Params : Int) C0 C1 C2 C3)
     else
      some (((6 : Int), ()), ())
  else
   ud2 (.p63 l0 params1 parts7 C0 C1 C2 C3)
 | .p63 l0 params1 parts7 C0 C1 C2 C3 =>
  if ((List.length C3 : Int) != parts7) = true then
   some (((10 : Int), ()), ())
  else
   if (C0 == (2 : Int)) = true then
    (uB4 (.start C1 (0 : Int) (1000000000 : Int))) >>= fun t1 =>
    if (!t1.1.1) = true then
     some (((2 : Int), ()), ())
    else
     ud2 (.p255 l0 params1 C0 C1 C2 C3)
   else
    ud2 (.p255 l0 params1 C0 C1 C2 C3)
 | .p255 l0 params1 C0 C1 C2 C3 =>
  ud2 (.p4084 l0 params1 (0 : Int) C0 C1 C2 C3)
 | .p4084 l0 params1 i9 C0 C1 C2 C3 =>
  if (decide (i9 < (List.length C3 : Int))) = true then
   (idx C3 i9) >>= fun t1 =>
   (ud2 (.start l0 params1 t1.Kind t1.Value t1.Name t1.Parts)) >>= fun t2 =>
   if (t2.1.1 != (0 : Int)) = true then
    some ((t2.1.1, ()), ())
   else
    ud2 (.p4084 l0 params1 (IntKind.wrap .i64 (i9 + (1 : Int))) C0 C1 C2 C3)
  else
   some (((0 : Int), ()), ())
 partial_fixpoint
def wt6 : ub2 E := vT2.okc E_ok (run := ud2) (ud2.partial_correctness vT2.M fun run' ih => vT2.mk_ok E_ok [vT2.okc E_ok ih, wa2, wl4, vU2] ih)
inductive wg4 where
 | start (l0 : (List ua3)) (params1 : (List ByteArray)) (t2_0 : Int) (t2_1 : Int) (t2_2 : ByteArray) (t2_3 : (List ua1))
def v87 : Fb E wg4 (Int × Unit) Unit := ⟨103, Tryz.f103, (.cons (.sl 103) (.cons (.sl 9) (.cons (.agg (.cons (Rd.int .i64).w (.cons (Rd.int .i64).w (.cons Rd.str.w (.cons (.sl 25) .nil))))) .nil))), .nil, fun a b => .start a.1 a.2.1 a.2.2.1.1 a.2.2.1.2.1 a.2.2.1.2.2.1 a.2.2.1.2.2.2.1, { rl := (.cons (.int .i64) .nil), rb := .nil, done := [0] }, [], mkWr [] []⟩
def u07 : wg4 → Option ((Int × Unit) × Unit)
 | .start l0 params1 t2_0 t2_1 t2_2 t2_3 =>
  (uQ3 (.start t2_0 t2_1 t2_2 t2_3)) >>= fun t1 =>
  if (!t1.1.1) = true then
   some (((8 : Int), ()), ())
  else
   (ud2 (.start l0 params1 t2_0 t2_1 t2_2 t2_3)) >>= fun t2 =>
   some ((t2.1.1, ()), ())
def wl5 : ub2 E := v87.okc E_ok (run := u07) (v87.mk_ok E_ok [wt6, wa1] v87.none)
inductive wg5 where
 | start (d0_0 : ByteArray) (d0_1 : (List ByteArray)) (d0_2 : (List ua2)) (c1_0 : ByteArray) (c1_1 : (List ua6)) (before2 : (List ua3))
 | p116 (before2 : (List ua3)) (i7 : Int) (C0 : ByteArray) (C1 : (List ByteArray)) (C2 : (List ua2)) (D0 : ByteArray) (D1 : (List ua6))
 | p59700 (before2 : (List ua3)) (i7 : Int) (k9 : Int) (C0 : ByteArray) (C1 : (List ByteArray)) (C2 : (List ua2)) (D0 : ByteArray) (D1 : (List ua6)) (G0 : ByteArray) (G1 : Int) (G2 : Int) (G3 : ByteArray) (G4 : (List ua1))
def v88 : Fb E wg5 (Int × Unit) Unit := ⟨121, Tryz.f121, (.cons (.agg (.cons Rd.str.w (.cons (.sl 9) (.cons (.sl 56) .nil)))) (.cons (.agg (.cons Rd.str.w (.cons (.sl 58) .nil))) (.cons (.sl 103) .nil))), .nil, fun a b => .start a.1.1 a.1.2.1 a.1.2.2.1 a.2.1.1 a.2.1.2.1 a.2.2.1, { rl := (.cons (.int .i64) .nil), rb := .nil, done := [0] }, [⟨116, { slots := [2, 3, 4, 7] }, (.cons (.sl 103 false) (.cons (.bp 0 0) (.cons (.bp 1 0) (.cons (.int .i64) .nil)))), (.cons (.var 103 (.cons .str (.cons (.sl 9 false) (.cons (.sl 56 false) .nil)))) (.cons (.var 56 (.cons .str (.cons (.sl 58 false) .nil))) .nil)), fun a b => .p116 a.1 a.2.2.2.1 b.1.1 b.1.2.1 b.1.2.2.1 b.2.1.1 b.2.1.2.1⟩,
 ⟨59700, { slots := [2, 3, 4, 7, 8, 9] }, (.cons (.sl 103 false) (.cons (.bp 0 0) (.cons (.bp 1 0) (.cons (.int .i64) (.cons (.bp 2 0) (.cons (.int .i64) .nil)))))), (.cons (.var 103 (.cons .str (.cons (.sl 9 false) (.cons (.sl 56 false) .nil)))) (.cons (.var 56 (.cons .str (.cons (.sl 58 false) .nil))) (.cons (.var 58 (.cons .str (.cons (.int .i64) (.cons (.int .i64) (.cons .str (.cons (.sl 25 false) .nil)))))) .nil))), fun a b => .p59700 a.1 a.2.2.2.1 a.2.2.2.2.2.1 b.1.1 b.1.2.1 b.1.2.2.1 b.2.1.1 b.2.1.2.1 b.2.2.1.1 b.2.2.1.2.1 b.2.2.1.2.2.1 b.2.2.1.2.2.2.1 b.2.2.1.2.2.2.2.1⟩], mkWr [] []⟩
def uj0 : wg5 → Option ((Int × Unit) × Unit)
 | .start d0_0 d0_1 d0_2 c1_0 c1_1 before2 =>
  if (decide ((List.length c1_1 : Int) > (8 : Int))) = true then
   some (((8 : Int), ()), ())
  else
   uj0 (.p116 before2 (0 : Int) d0_0 d0_1 d0_2 c1_0 c1_1)
 | .p116 before2 i7 C0 C1 C2 D0 D1 =>
  if (decide (i7 < (List.length D1 : Int))) = true then
   (idx D1 i7) >>= fun t1 =>
   (ud6 (.start t1.Name)) >>= fun t2 =>
   if (!t2.1.1) = true then
    some (((4 : Int), ()), ())
   else
    uj0 (.p59700 before2 i7 (0 : Int) C0 C1 C2 D0 D1 t1.Name t1.Type_.Kind t1.Type_.Value t1.Type_.Name t1.Type_.Parts)
  else
   some (((0 : Int), ()), ())
 | .p59700 before2 i7 k9 C0 C1 C2 D0 D1 G0 G1 G2 G3 G4 =>
  if (decide (k9 < i7)) = true then
   (idx D1 k9) >>= fun t1 =>
   if (seq t1.Name G0) = true then
    some (((5 : Int), ()), ())
   else
    uj0 (.p59700 before2 i7 (IntKind.wrap .i64 (k9 + (1 : Int))) C0 C1 C2 D0 D1 G0 G1 G2 G3 G4)
  else
   (u07 (.start before2 C1 G1 G2 G3 G4)) >>= fun t2 =>
   if (t2.1.1 != (0 : Int)) = true then
    some ((t2.1.1, ()), ())
   else
    uj0 (.p116 before2 (IntKind.wrap .i64 (i7 + (1 : Int))) C0 C1 C2 D0 D1)
 partial_fixpoint
def wt7 : ub2 E := v88.okc E_ok (run := uj0) (uj0.partial_correctness v88.M fun run' ih => v88.mk_ok E_ok [wl5, wl3] ih)
inductive wg6 where
 | start (d0_0 : ByteArray) (d0_1 : (List ByteArray)) (d0_2 : (List ua2)) (before1 : (List ua3))
 | p15 (before1 : (List ua3)) (C0 : ByteArray) (C1 : (List ByteArray)) (C2 : (List ua2))
 | p31 (before1 : (List ua3)) (C0 : ByteArray) (C1 : (List ByteArray)) (C2 : (List ua2))
 | p1012 (before1 : (List ua3)) (i5 : Int) (C0 : ByteArray) (C1 : (List ByteArray)) (C2 : (List ua2))
 | p2036 (before1 : (List ua3)) (i6 : Int) (C0 : ByteArray) (C1 : (List ByteArray)) (C2 : (List ua2))
 | p130343 (before1 : (List ua3)) (i6 : Int) (C0 : ByteArray) (C1 : (List ByteArray)) (C2 : (List ua2)) (D0 : ByteArray) (D1 : (List ua6))
def v89 : Fb E wg6 (Int × Unit) Unit := ⟨79, Tryz.f79, (.cons (.agg (.cons Rd.str.w (.cons (.sl 9) (.cons (.sl 56) .nil)))) (.cons (.sl 103) .nil)), .nil, fun a b => .start a.1.1 a.1.2.1 a.1.2.2.1 a.2.1, { rl := (.cons (.int .i64) .nil), rb := .nil, done := [0] }, [⟨15, { slots := [1, 2] }, (.cons (.sl 103 false) (.cons (.bp 0 0) .nil)), (.cons (.var 103 (.cons .str (.cons (.sl 9 false) (.cons (.sl 56 false) .nil)))) .nil), fun a b => .p15 a.1 b.1.1 b.1.2.1 b.1.2.2.1⟩,
 ⟨31, { slots := [1, 2] }, (.cons (.sl 103 false) (.cons (.bp 0 0) .nil)), (.cons (.var 103 (.cons .str (.cons (.sl 9 false) (.cons (.sl 56 false) .nil)))) .nil), fun a b => .p31 a.1 b.1.1 b.1.2.1 b.1.2.2.1⟩,
 ⟨1012, { slots := [1, 2, 5] }, (.cons (.sl 103 false) (.cons (.bp 0 0) (.cons (.int .i64) .nil))), (.cons (.var 103 (.cons .str (.cons (.sl 9 false) (.cons (.sl 56 false) .nil)))) .nil), fun a b => .p1012 a.1 a.2.2.1 b.1.1 b.1.2.1 b.1.2.2.1⟩,
 ⟨2036, { slots := [1, 2, 6] }, (.cons (.sl 103 false) (.cons (.bp 0 0) (.cons (.int .i64) .nil))), (.cons (.var 103 (.cons .str (.cons (.sl 9 false) (.cons (.sl 56 false) .nil)))) .nil), fun a b => .p2036 a.1 a.2.2.1 b.1.1 b.1.2.1 b.1.2.2.1⟩,
 ⟨130343, { slots := [1, 2, 6, 7] }, (.cons (.sl 103 false) (.cons (.bp 0 0) (.cons (.int .i64) (.cons (.bp 1 0) .nil)))), (.cons (.var 103 (.cons .str (.cons (.sl 9 false) (.cons (.sl 56 false) .nil)))) (.cons (.var 56 (.cons .str (.cons (.sl 58 false) .nil))) .nil)), fun a b => .p130343 a.1 a.2.2.1 b.1.1 b.1.2.1 b.1.2.2.1 b.2.1.1 b.2.1.2.1⟩], mkWr [] []⟩
def ud7 : wg6 → Option ((Int × Unit) × Unit)
 | .start d0_0 d0_1 d0_2 before1 =>
  (ud6 (.start d0_0)) >>= fun t1 =>
  if (!t1.1.1) = true then
   some (((4 : Int), ()), ())
  else
   (uo2 (.start before1 d0_0)) >>= fun t2 =>
   if (decide (t2.1.1 ≥ (0 : Int))) = true then
    some (((5 : Int), ()), ())
   else
    if (seq d0_0 (⟨#[66, 105, 116]⟩ : ByteArray)) = true then
     some (((5 : Int), ()), ())
    else
     if (seq d0_0 (⟨#[66, 111, 111, 108]⟩ : ByteArray)) = true then
      some (((5 : Int), ()), ())
     else
      if (seq d0_0 (⟨#[73, 110, 116, 101, 103, 101, 114]⟩ : ByteArray)) = true then
       some (((5 : Int), ()), ())
      else
       ud7 (.p15 before1 d0_0 d0_1 d0_2)
 | .p15 before1 C0 C1 C2 =>
  if (decide ((List.length C1 : Int) > (4 : Int))) = true then
   some (((8 : Int), ()), ())
  else
   if (decide ((List.length C2 : Int) > (16 : Int))) = true then
    some (((8 : Int), ()), ())
   else
    ud7 (.p31 before1 C0 C1 C2)
 | .p31 before1 C0 C1 C2 =>
  if ((List.length C2 : Int) == (0 : Int)) = true then
   some (((10 : Int), ()), ())
  else
   ud7 (.p1012 before1 (0 : Int) C0 C1 C2)
 | .p1012 before1 i5 C0 C1 C2 =>
  if (decide (i5 < (List.length C1 : Int))) = true then
   (idx C1 i5) >>= fun t1 =>
   (ud6 (.start t1)) >>= fun t2 =>
   if (!t2.1.1) = true then
    some (((4 : Int), ()), ())
   else
    (span (List.length C1) (0 : Int) i5) >>= fun t3 =>
    (idx C1 i5) >>= fun t4 =>
    (up8 (.start (cut C1 t3) t4)) >>= fun t5 =>
    if t5.1.1 = true then
     some (((5 : Int), ()), ())
    else
     ud7 (.p1012 before1 (IntKind.wrap .i64 (i5 + (1 : Int))) C0 C1 C2)
  else
   ud7 (.p2036 before1 (0 : Int) C0 C1 C2)
 | .p2036 before1 i6 C0 C1 C2 =>
  if (decide (i6 < (List.length C2 : Int))) = true then
   (idx C2 i6) >>= fun t1 =>
   (ud6 (.start t1.Name)) >>= fun t2 =>
   if (!t2.1.1) = true then
    some (((4 : Int), ()), ())
   else
    (ui3 (.start before1 t1.Name)) >>= fun t3 =>
    if t3.1.1 = true then
     some (((5 : Int), ()), ())
    else
     (span (List.length C2) (0 : Int) i6) >>= fun t4 =>
     (ui3 (.start ([(⟨(⟨#[]⟩ : ByteArray), [], cut C2 t4⟩ : ua3)] : List ua3) t1.Name)) >>= fun t5 =>
     if t5.1.1 = true then
      some (((5 : Int), ()), ())
     else
      if (seq t1.Name (⟨#[70, 97, 108, 115, 101]⟩ : ByteArray)) = true then
       some (((5 : Int), ()), ())
      else
       if (seq t1.Name (⟨#[84, 114, 117, 101]⟩ : ByteArray)) = true then
        some (((5 : Int), ()), ())
       else
        ud7 (.p130343 before1 i6 C0 C1 C2 t1.Name t1.Fields)
  else
   some (((0 : Int), ()), ())
 | .p130343 before1 i6 C0 C1 C2 D0 D1 =>
  (uj0 (.start C0 C1 C2 D0 D1 before1)) >>= fun t1 =>
  if (t1.1.1 != (0 : Int)) = true then
   some ((t1.1.1, ()), ())
  else
   ud7 (.p2036 before1 (IntKind.wrap .i64 (i6 + (1 : Int))) C0 C1 C2)
 partial_fixpoint
def wt8 : ub2 E := v89.okc E_ok (run := ud7) (ud7.partial_correctness v89.M fun run' ih => v89.mk_ok E_ok [wt7, wt5, wl4, wa2, wl3] ih)
inductive wg7 where
 | start (l0 : (List ua3))
 | p116 (l0 : (List ua3)) (i4 : Int)
def v90 : Fb E wg7 (Int × (Int × Unit)) Unit := ⟨24, Tryz.f24, (.cons (.sl 103) .nil), .nil, fun a b => .start a.1, { rl := (.cons (.int .i64) (.cons (.int .i64) .nil)), rb := .nil, done := [0, 1] }, [⟨116, { slots := [0, 4] }, (.cons (.sl 103 false) (.cons (.int .i64) .nil)), .nil, fun a b => .p116 a.1 a.2.1⟩], mkWr [] []⟩
def us2 : wg7 → Option ((Int × (Int × Unit)) × Unit)
 | .start l0 =>
  if (decide ((List.length l0 : Int) > (20 : Int))) = true then
   some (((0 : Int), ((8 : Int), ())), ())
  else
   us2 (.p116 l0 (0 : Int))
 | .p116 l0 i4 =>
  if (decide (i4 < (List.length l0 : Int))) = true then
   (idx l0 i4) >>= fun t1 =>
   (span (List.length l0) (0 : Int) i4) >>= fun t2 =>
   (ud7 (.start t1.Name t1.Params t1.Constructors (cut l0 t2))) >>= fun t3 =>
   if (t3.1.1 != (0 : Int)) = true then
    some ((i4, (t3.1.1, ())), ())
   else
    us2 (.p116 l0 (IntKind.wrap .i64 (i4 + (1 : Int))))
  else
   some (((0 : Int), ((0 : Int), ())), ())
 partial_fixpoint
def wt9 : ub2 E := v90.okc E_ok (run := us2) (us2.partial_correctness v90.M fun run' ih => v90.mk_ok E_ok [wt8] ih)
inductive wg8 where
 | start (l0 : (List ua3))
def v91 : Fb E wg8 (Int × Unit) Unit := ⟨62, Tryz.f62, (.cons (.sl 103) .nil), .nil, fun a b => .start a.1, { rl := (.cons (.int .i64) .nil), rb := .nil, done := [0] }, [], mkWr [] []⟩
def vq2 : wg8 → Option ((Int × Unit) × Unit)
 | .start l0 =>
  (us2 (.start l0)) >>= fun t1 =>
  some ((t1.1.2.1, ()), ())
def wu0 : ub2 E := v91.okc E_ok (run := vq2) (v91.mk_ok E_ok [wt9] v91.none)
inductive wg9 where
 | start (t0_0 : Int) (t0_1 : Int) (t0_2 : ByteArray) (t0_3 : (List ua1))
def v92 : Fb E wg9 (Bool × Unit) Unit := ⟨27, Tryz.f27, (.cons (.agg (.cons (Rd.int .i64).w (.cons (Rd.int .i64).w (.cons Rd.str.w (.cons (.sl 25) .nil))))) .nil), .nil, fun a b => .start a.1.1 a.1.2.1 a.1.2.2.1 a.1.2.2.2.1, { rl := (.cons .bool .nil), rb := .nil, done := [0] }, [], mkWr [] []⟩
def uB5 : wg9 → Option ((Bool × Unit) × Unit)
 | .start t0_0 t0_1 t0_2 t0_3 =>
  if (t0_0 == (1 : Int)) = true then
   some ((seq t0_2 (⟨#[66, 105, 116]⟩ : ByteArray), ()), ())
  else
   some ((false, ()), ())
def wa3 : ub2 E := v92.okc E_ok (run := uB5) (v92.mk_ok E_ok [] v92.none)
inductive wh0 where
 | start (n0 : Int)
def v93 : Fb E wh0 (Bool × Unit) Unit := ⟨44, Tryz.f44, (.cons (Rd.int .i64).w .nil), .nil, fun a b => .start a.1, { rl := (.cons .bool .nil), rb := .nil, done := [0] }, [], mkWr [] []⟩
def uQ4 : wh0 → Option ((Bool × Unit) × Unit)
 | .start n0 =>
  (uB4 (.start n0 (1 : Int) (16 : Int))) >>= fun t1 =>
  some ((t1.1.1, ()), ())
def wa4 : ub2 E := v93.okc E_ok (run := uQ4) (v93.mk_ok E_ok [vU2] v93.none)
inductive wh1 where
 | start (t0_0 : Int) (t0_1 : Int) (t0_2 : ByteArray) (t0_3 : (List ua1))
 | p244 (i4 : Int) (C0 : Int) (C1 : Int) (C2 : ByteArray) (C3 : (List ua1)) (D0 : Int) (D1 : Int) (D2 : ByteArray) (G0 : Int) (G1 : Int) (G2 : ByteArray) (B3 : (List ua1))
def vT3 : Fb E wh1 ((Int × (Int × (ByteArray × ((List ua1) × Unit)))) × Unit) Unit := ⟨107, Tryz.f107, (.cons (.agg (.cons (Rd.int .i64).w (.cons (Rd.int .i64).w (.cons Rd.str.w (.cons (.sl 25) .nil))))) .nil), .nil, fun a b => .start a.1.1 a.1.2.1 a.1.2.2.1 a.1.2.2.2.1, { rl := (.cons (.agg (.cons (.int .i64) (.cons (.int .i64) (.cons .str (.cons (.sl 25 false) .nil))))) .nil), rb := .nil, deep := [(false, 0, 3, 25)], done := [0] }, [⟨244, { slots := [1, 2, 3, 4], up := [(true, 3, 3, 25)] }, (.cons (.bp 0 0) (.cons (.bp 1 0) (.cons (.bp 2 0) (.cons (.int .i64) .nil)))), (.cons (.var 25 (.cons (.int .i64) (.cons (.int .i64) (.cons .str (.cons (.sl 25 false) .nil))))) (.cons (.var 25 (.cons (.int .i64) (.cons (.int .i64) (.cons .str (.cons Rd.nl .nil))))) (.cons (.var 25 (.cons (.int .i64) (.cons (.int .i64) (.cons .str (.cons (Rd.rw 3) .nil))))) (.cons (.row 25 false) .nil)))), fun a b => .p244 a.2.2.2.1 b.1.1 b.1.2.1 b.1.2.2.1 b.1.2.2.2.1 b.2.1.1 b.2.1.2.1 b.2.1.2.2.1 b.2.2.1.1 b.2.2.1.2.1 b.2.2.1.2.2.1 b.2.2.2.1⟩], mkWr [] []⟩
def uo3 : wh1 → Option (((Int × (Int × (ByteArray × ((List ua1) × Unit)))) × Unit) × Unit)
 | .start t0_0 t0_1 t0_2 t0_3 =>
  uo3 (.p244 (0 : Int) t0_0 t0_1 t0_2 t0_3 (0 : Int) (0 : Int) (⟨#[]⟩ : ByteArray) t0_0 t0_1 t0_2 ([] : List ua1))
 | .p244 i4 C0 C1 C2 C3 D0 D1 D2 G0 G1 G2 B3 =>
  if (decide (i4 < (List.length C3 : Int))) = true then
   (idx C3 i4) >>= fun t1 =>
   (uo3 (.start t1.Kind t1.Value t1.Name t1.Parts)) >>= fun t2 =>
   if (fits (List.length B3) (List.length ([(⟨t2.1.1.1, t2.1.1.2.1, t2.1.1.2.2.1, t2.1.1.2.2.2.1⟩ : ua1)] : List ua1)) 56) = true then
    uo3 (.p244 (IntKind.wrap .i64 (i4 + (1 : Int))) C0 C1 C2 C3 D0 D1 D2 G0 G1 G2 (B3 ++ ([(⟨t2.1.1.1, t2.1.1.2.1, t2.1.1.2.2.1, t2.1.1.2.2.2.1⟩ : ua1)] : List ua1)))
   else none
  else
   some (((G0, (G1, (G2, (B3, ())))), ()), ())
 partial_fixpoint
def wl6 : ub2 E := vT3.okc E_ok (run := uo3) (uo3.partial_correctness vT3.M fun run' ih => vT3.mk_ok E_ok [vT3.okc E_ok ih] ih)
inductive wh2 where
 | start (t0_0 : Int) (t0_1 : Int) (t0_2 : ByteArray) (t0_3 : (List ua1)) (params1 : (List ByteArray)) (args2 : (List ua1))
 | p7 (params1 : (List ByteArray)) (args2 : (List ua1)) (C0 : Int) (C1 : Int) (C2 : ByteArray) (C3 : (List ua1)) (D0 : Int) (D1 : Int) (D2 : ByteArray)
 | p212 (params1 : (List ByteArray)) (args2 : (List ua1)) (i7 : Int) (C0 : Int) (C1 : Int) (C2 : ByteArray) (C3 : (List ua1)) (D0 : Int) (D1 : Int) (D2 : ByteArray)
 | p500 (params1 : (List ByteArray)) (args2 : (List ua1)) (i9 : Int) (C0 : Int) (C1 : Int) (C2 : ByteArray) (C3 : (List ua1)) (D0 : Int) (D1 : Int) (D2 : ByteArray) (G0 : Int) (G1 : Int) (G2 : ByteArray) (B3 : (List ua1))
def vT4 : Fb E wh2 ((Int × (Int × (ByteArray × ((List ua1) × Unit)))) × Unit) Unit := ⟨82, Tryz.f82, (.cons (.agg (.cons (Rd.int .i64).w (.cons (Rd.int .i64).w (.cons Rd.str.w (.cons (.sl 25) .nil))))) (.cons (.sl 9) (.cons (.sl 25) .nil))), .nil, fun a b => .start a.1.1 a.1.2.1 a.1.2.2.1 a.1.2.2.2.1 a.2.1 a.2.2.1, { rl := (.cons (.agg (.cons (.int .i64) (.cons (.int .i64) (.cons .str (.cons (.sl 25 false) .nil))))) .nil), rb := .nil, deep := [(false, 0, 3, 25)], done := [0] }, [⟨7, { slots := [1, 2, 3, 6] }, (.cons (.sl 9 false) (.cons (.sl 25 false) (.cons (.bp 0 0) (.cons (.bp 1 0) .nil)))), (.cons (.var 25 (.cons (.int .i64) (.cons (.int .i64) (.cons .str (.cons (.sl 25 false) .nil))))) (.cons (.var 25 (.cons (.int .i64) (.cons (.int .i64) (.cons .str (.cons Rd.nl .nil))))) .nil)), fun a b => .p7 a.1 a.2.1 b.1.1 b.1.2.1 b.1.2.2.1 b.1.2.2.2.1 b.2.1.1 b.2.1.2.1 b.2.1.2.2.1⟩,
 ⟨212, { slots := [1, 2, 3, 6, 7] }, (.cons (.sl 9 false) (.cons (.sl 25 false) (.cons (.bp 0 0) (.cons (.bp 1 0) (.cons (.int .i64) .nil))))), (.cons (.var 25 (.cons (.int .i64) (.cons (.int .i64) (.cons .str (.cons (.sl 25 false) .nil))))) (.cons (.var 25 (.cons (.int .i64) (.cons (.int .i64) (.cons .str (.cons Rd.nl .nil))))) .nil)), fun a b => .p212 a.1 a.2.1 a.2.2.2.2.1 b.1.1 b.1.2.1 b.1.2.2.1 b.1.2.2.2.1 b.2.1.1 b.2.1.2.1 b.2.1.2.2.1⟩,
 ⟨500, { slots := [1, 2, 3, 6, 8, 9], up := [(true, 8, 3, 25)] }, (.cons (.sl 9 false) (.cons (.sl 25 false) (.cons (.bp 0 0) (.cons (.bp 1 0) (.cons (.bp 2 0) (.cons (.int .i64) .nil)))))), (.cons (.var 25 (.cons (.int .i64) (.cons (.int .i64) (.cons .str (.cons (.sl 25 false) .nil))))) (.cons (.var 25 (.cons (.int .i64) (.cons (.int .i64) (.cons .str (.cons Rd.nl .nil))))) (.cons (.var 25 (.cons (.int .i64) (.cons (.int .i64) (.cons .str (.cons (Rd.rw 3) .nil))))) (.cons (.row 25 false) .nil)))), fun a b => .p500 a.1 a.2.1 a.2.2.2.2.2.1 b.1.1 b.1.2.1 b.1.2.2.1 b.1.2.2.2.1 b.2.1.1 b.2.1.2.1 b.2.1.2.2.1 b.2.2.1.1 b.2.2.1.2.1 b.2.2.1.2.2.1 b.2.2.2.1⟩], mkWr [] []⟩
def uf4 : wh2 → Option (((Int × (Int × (ByteArray × ((List ua1) × Unit)))) × Unit) × Unit)
 | .start t0_0 t0_1 t0_2 t0_3 params1 args2 =>
  if (t0_0 == (0 : Int)) = true then
   uf4 (.p212 params1 args2 (0 : Int) t0_0 t0_1 t0_2 t0_3 (0 : Int) (0 : Int) (⟨#[]⟩ : ByteArray))
  else
   uf4 (.p7 params1 args2 t0_0 t0_1 t0_2 t0_3 (0 : Int) (0 : Int) (⟨#[]⟩ : ByteArray))
 | .p7 params1 args2 C0 C1 C2 C3 D0 D1 D2 =>
  uf4 (.p500 params1 args2 (0 : Int) C0 C1 C2 C3 D0 D1 D2 C0 C1 C2 ([] : List ua1))
 | .p212 params1 args2 i7 C0 C1 C2 C3 D0 D1 D2 =>
  if (decide (i7 < (List.length params1 : Int))) = true then
   (idx params1 i7) >>= fun t1 =>
   if (seq t1 C2) = true then
    (idx args2 i7) >>= fun t2 =>
    (uo3 (.start t2.Kind t2.Value t2.Name t2.Parts)) >>= fun t3 =>
    some (((t3.1.1.1, (t3.1.1.2.1, (t3.1.1.2.2.1, (t3.1.1.2.2.2.1, ())))), ()), ())
   else
    uf4 (.p212 params1 args2 (IntKind.wrap .i64 (i7 + (1 : Int))) C0 C1 C2 C3 D0 D1 D2)
  else
   uf4 (.p7 params1 args2 C0 C1 C2 C3 D0 D1 D2)
 | .p500 params1 args2 i9 C0 C1 C2 C3 D0 D1 D2 G0 G1 G2 B3 =>
  if (decide (i9 < (List.length C3 : Int))) = true then
   (idx C3 i9) >>= fun t1 =>
   (uf4 (.start t1.Kind t1.Value t1.Name t1.Parts params1 args2)) >>= fun t2 =>
   if (fits (List.length B3) (List.length ([(⟨t2.1.1.1, t2.1.1.2.1, t2.1.1.2.2.1, t2.1.1.2.2.2.1⟩ : ua1)] : List ua1)) 56) = true then
    uf4 (.p500 params1 args2 (IntKind.wrap .i64 (i9 + (1 : Int))) C0 C1 C2 C3 D0 D1 D2 G0 G1 G2 (B3 ++ ([(⟨t2.1.1.1, t2.1.1.2.1, t2.1.1.2.2.1, t2.1.1.2.2.2.1⟩ : ua1)] : List ua1)))
   else none
  else
   some (((G0, (G1, (G2, (B3, ())))), ()), ())
 partial_fixpoint
def wu1 : ub2 E := vT4.okc E_ok (run := uf4) (uf4.partial_correctness vT4.M fun run' ih => vT4.mk_ok E_ok [vT4.okc E_ok ih, wl6] ih)
inductive wh3 where
 | start (l0 : (List ua3)) (t1_0 : Int) (t1_1 : Int) (t1_2 : ByteArray) (t1_3 : (List ua1))
 | p500 (i7 : Int) (C0 : Int) (C1 : Int) (C2 : ByteArray) (C3 : (List ua1)) (D0 : ByteArray) (D1 : (List ByteArray)) (D2 : (List ua2)) (B2 : (List ua2))
 | p128148 (i7 : Int) (k9 : Int) (C0 : Int) (C1 : Int) (C2 : ByteArray) (C3 : (List ua1)) (D0 : ByteArray) (D1 : (List ByteArray)) (D2 : (List ua2)) (B2 : (List ua2)) (B3 : ByteArray) (B4 : (List ua6))
def v94 : Fb E wh3 ((List ua2) × Unit) Unit := ⟨28, Tryz.f28, (.cons (.sl 103) (.cons (.agg (.cons (Rd.int .i64).w (.cons (Rd.int .i64).w (.cons Rd.str.w (.cons (.sl 25) .nil))))) .nil)), .nil, fun a b => .start a.1 a.2.1.1 a.2.1.2.1 a.2.1.2.2.1 a.2.1.2.2.2.1, { rl := (.cons (.sl 56 false) .nil), rb := .nil, flat := [(0, 56)], done := [0] }, [⟨500, { slots := [3, 5, 6, 7], rows := [(6, 56)] }, (.cons (.bp 0 0) (.cons (.bp 1 0) (.cons (Rd.rw 2) (.cons (.int .i64) .nil)))), (.cons (.var 25 (.cons (.int .i64) (.cons (.int .i64) (.cons .str (.cons (.sl 25 false) .nil))))) (.cons (.var 103 (.cons .str (.cons (.sl 9 false) (.cons (.sl 56 false) .nil)))) (.cons (.row 56 false) .nil))), fun a b => .p500 a.2.2.2.1 b.1.1 b.1.2.1 b.1.2.2.1 b.1.2.2.2.1 b.2.1.1 b.2.1.2.1 b.2.1.2.2.1 b.2.2.1⟩,
 ⟨128148, { slots := [3, 5, 6, 7, 8, 9], up := [(true, 8, 1, 58)] }, (.cons (.bp 0 0) (.cons (.bp 1 0) (.cons (Rd.rw 2) (.cons (.int .i64) (.cons (.bp 3 0) (.cons (.int .i64) .nil)))))), (.cons (.var 25 (.cons (.int .i64) (.cons (.int .i64) (.cons .str (.cons (.sl 25 false) .nil))))) (.cons (.var 103 (.cons .str (.cons (.sl 9 false) (.cons (.sl 56 false) .nil)))) (.cons (.row 56 false) (.cons (.var 56 (.cons .str (.cons (Rd.rw 4) .nil))) (.cons (.row 58 false) .nil))))), fun a b => .p128148 a.2.2.2.1 a.2.2.2.2.2.1 b.1.1 b.1.2.1 b.1.2.2.1 b.1.2.2.2.1 b.2.1.1 b.2.1.2.1 b.2.1.2.2.1 b.2.2.1 b.2.2.2.1.1 b.2.2.2.2.1⟩], mkWr [] [(16019, [8])]⟩
def ug2 : wh3 → Option (((List ua2) × Unit) × Unit)
 | .start l0 t1_0 t1_1 t1_2 t1_3 =>
  if (seq t1_2 (⟨#[66, 111, 111, 108]⟩ : ByteArray)) = true then
   some ((([(⟨(⟨#[70, 97, 108, 115, 101]⟩ : ByteArray), []⟩ : ua2), (⟨(⟨#[84, 114, 117, 101]⟩ : ByteArray), []⟩ : ua2)] : List ua2), ()), ())
  else
   (uo2 (.start l0 t1_2)) >>= fun t1 =>
   (idx l0 t1.1.1) >>= fun t2 =>
   ug2 (.p500 (0 : Int) t1_0 t1_1 t1_2 t1_3 t2.Name t2.Params t2.Constructors ([] : List ua2))
 | .p500 i7 C0 C1 C2 C3 D0 D1 D2 B2 =>
  if (decide (i7 < (List.length D2 : Int))) = true then
   (idx D2 i7) >>= fun t1 =>
   ug2 (.p128148 i7 (0 : Int) C0 C1 C2 C3 D0 D1 D2 B2 t1.Name ([] : List ua6))
  else
   some ((B2, ()), ())
 | .p128148 i7 k9 C0 C1 C2 C3 D0 D1 D2 B2 B3 B4 =>
  (idx D2 i7) >>= fun t1 =>
  if (decide (k9 < (List.length t1.Fields : Int))) = true then
   (idx D2 i7) >>= fun t2 =>
   (idx t2.Fields k9) >>= fun t3 =>
   (uf4 (.start t3.Type_.Kind t3.Type_.Value t3.Type_.Name t3.Type_.Parts D1 C3)) >>= fun t4 =>
   if (fits (List.length B4) (List.length ([(⟨t3.Name, (⟨t4.1.1.1, t4.1.1.2.1, t4.1.1.2.2.1, t4.1.1.2.2.2.1⟩ : ua1)⟩ : ua6)] : List ua6)) 72) = true then
    ug2 (.p128148 i7 (IntKind.wrap .i64 (k9 + (1 : Int))) C0 C1 C2 C3 D0 D1 D2 B2 B3 (B4 ++ ([(⟨t3.Name, (⟨t4.1.1.1, t4.1.1.2.1, t4.1.1.2.2.1, t4.1.1.2.2.2.1⟩ : ua1)⟩ : ua6)] : List ua6)))
   else none
  else
   if (fits (List.length B2) (List.length ([(⟨B3, B4⟩ : ua2)] : List ua2)) 40) = true then
    ug2 (.p500 (IntKind.wrap .i64 (i7 + (1 : Int))) C0 C1 C2 C3 D0 D1 D2 (B2 ++ ([(⟨B3, B4⟩ : ua2)] : List ua2)))
   else none
 partial_fixpoint
def vU3 : ub2 E := v94.okc E_ok (run := ug2) (ug2.partial_correctness v94.M fun run' ih => v94.mk_ok E_ok [wu1, wa2] ih)
inductive wh4 where
 | start (l0 : (List ua3)) (t1_0 : Int) (t1_1 : Int) (t1_2 : ByteArray) (t1_3 : (List ua1)) (before2_0 : Int) (before2_1 : Int) (before2_2 : Int)
 | p31 (l0 : (List ua3)) (C0 : Int) (C1 : Int) (C2 : ByteArray) (C3 : (List ua1)) (D0 : Int) (D1 : Int) (D2 : Int) (G0 : Int) (G1 : Int) (G2 : Int)
 | p63 (l0 : (List ua3)) (C0 : Int) (C1 : Int) (C2 : ByteArray) (C3 : (List ua1)) (D0 : Int) (D1 : Int) (D2 : Int) (G0 : Int) (G1 : Int) (G2 : Int)
 | p127 (l0 : (List ua3)) (C0 : Int) (C1 : Int) (C2 : ByteArray) (C3 : (List ua1)) (D0 : Int) (D1 : Int) (D2 : Int) (G0 : Int) (G1 : Int) (G2 : Int)
 | p8180 (l0 : (List ua3)) (all8 : (List ua2)) (i9 : Int) (C0 : Int) (C1 : Int) (C2 : Int) (D0 : Int) (D1 : Int) (D2 : Int)
 | p523556 (l0 : (List ua3)) (all8 : (List ua2)) (i9 : Int) (k10 : Int) (C0 : Int) (C1 : Int) (C2 : Int) (D0 : Int) (D1 : Int) (D2 : Int)
def vT5 : Fb E wh4 ((Int × (Int × (Int × Unit))) × Unit) Unit := ⟨104, Tryz.f104, (.cons (.sl 103) (.cons (.agg (.cons (Rd.int .i64).w (.cons (Rd.int .i64).w (.cons Rd.str.w (.cons (.sl 25) .nil))))) (.cons (.agg (.cons (Rd.int .i64).w (.cons (Rd.int .i64).w (.cons (Rd.int .i64).w .nil)))) .nil))), .nil, fun a b => .start a.1 a.2.1.1 a.2.1.2.1 a.2.1.2.2.1 a.2.1.2.2.2.1 a.2.2.1.1 a.2.2.1.2.1 a.2.2.1.2.2.1, { rl := (.cons (.agg (.cons (.int .i64) (.cons (.int .i64) (.cons (.int .i64) .nil)))) .nil), rb := .nil, done := [0] }, [⟨31, { slots := [0, 4, 6, 7] }, (.cons (.sl 103 false) (.cons (.bp 0 0) (.cons (.bp 1 0) (.cons (.bp 2 0) .nil)))), (.cons (.var 25 (.cons (.int .i64) (.cons (.int .i64) (.cons .str (.cons (.sl 25 false) .nil))))) (.cons (.var 143 (.cons (.int .i64) (.cons (.int .i64) (.cons (.int .i64) .nil)))) (.cons (.var 143 (.cons (.int .i64) (.cons (.int .i64) (.cons (.int .i64) .nil)))) .nil))), fun a b => .p31 a.1 b.1.1 b.1.2.1 b.1.2.2.1 b.1.2.2.2.1 b.2.1.1 b.2.1.2.1 b.2.1.2.2.1 b.2.2.1.1 b.2.2.1.2.1 b.2.2.1.2.2.1⟩,
 ⟨63, { slots := [0, 4, 6, 7] }, (.cons (.sl 103 false) (.cons (.bp 0 0) (.cons (.bp 1 0) (.cons (.bp 2 0) .nil)))), (.cons (.var 25 (.cons (.int .i64) (.cons (.int .i64) (.cons .str (.cons (.sl 25 false) .nil))))) (.cons (.var 143 (.cons (.int .i64) (.cons (.int .i64) (.cons (.int .i64) .nil)))) (.cons (.var 143 (.cons (.int .i64) (.cons (.int .i64) (.cons (.int .i64) .nil)))) .nil))), fun a b => .p63 a.1 b.1.1 b.1.2.1 b.1.2.2.1 b.1.2.2.2.1 b.2.1.1 b.2.1.2.1 b.2.1.2.2.1 b.2.2.1.1 b.2.2.1.2.1 b.2.2.1.2.2.1⟩,
 ⟨127, { slots := [0, 4, 6, 7] }, (.cons (.sl 103 false) (.cons (.bp 0 0) (.cons (.bp 1 0) (.cons (.bp 2 0) .nil)))), (.cons (.var 25 (.cons (.int .i64) (.cons (.int .i64) (.cons .str (.cons (.sl 25 false) .nil))))) (.cons (.var 143 (.cons (.int .i64) (.cons (.int .i64) (.cons (.int .i64) .nil)))) (.cons (.var 143 (.cons (.int .i64) (.cons (.int .i64) (.cons (.int .i64) .nil)))) .nil))), fun a b => .p127 a.1 b.1.1 b.1.2.1 b.1.2.2.1 b.1.2.2.2.1 b.2.1.1 b.2.1.2.1 b.2.1.2.2.1 b.2.2.1.1 b.2.2.1.2.1 b.2.2.1.2.2.1⟩,
 ⟨8180, { slots := [0, 6, 7, 8, 9] }, (.cons (.sl 103 false) (.cons (.bp 0 0) (.cons (.bp 1 0) (.cons (.sl 56 false) (.cons (.int .i64) .nil))))), (.cons (.var 143 (.cons (.int .i64) (.cons (.int .i64) (.cons (.int .i64) .nil)))) (.cons (.var 143 (.cons (.int .i64) (.cons (.int .i64) (.cons (.int .i64) .nil)))) .nil)), fun a b => .p8180 a.1 a.2.2.2.1 a.2.2.2.2.1 b.1.1 b.1.2.1 b.1.2.2.1 b.2.1.1 b.2.1.2.1 b.2.1.2.2.1⟩,
 ⟨523556, { slots := [0, 6, 7, 8, 9, 10] }, (.cons (.sl 103 false) (.cons (.bp 0 0) (.cons (.bp 1 0) (.cons (.sl 56 false) (.cons (.int .i64) (.cons (.int .i64) .nil)))))), (.cons (.var 143 (.cons (.int .i64) (.cons (.int .i64) (.cons (.int .i64) .nil)))) (.cons (.var 143 (.cons (.int .i64) (.cons (.int .i64) (.cons (.int .i64) .nil)))) .nil)), fun a b => .p523556 a.1 a.2.2.2.1 a.2.2.2.2.1 a.2.2.2.2.2.1 b.1.1 b.1.2.1 b.1.2.2.1 b.2.1.1 b.2.1.2.1 b.2.1.2.2.1⟩], mkWr [] []⟩
def ub7 : wh4 → Option (((Int × (Int × (Int × Unit))) × Unit) × Unit)
 | .start l0 t1_0 t1_1 t1_2 t1_3 before2_0 before2_1 before2_2 =>
  (uQ3 (.start t1_0 t1_1 t1_2 t1_3)) >>= fun t1 =>
  if (!t1.1.1) = true then
   some (((IntKind.wrap .i64 (before2_0 + (1 : Int)), ((8 : Int), (before2_2, ()))), ()), ())
  else
   if (t1_0 == (2 : Int)) = true then
    some (((IntKind.wrap .i64 (before2_0 + (1 : Int)), ((26 : Int), (before2_2, ()))), ()), ())
   else
    (uB5 (.start t1_0 t1_1 t1_2 t1_3)) >>= fun t2 =>
    if t2.1.1 = true then
     (idx t1_3 (0 : Int)) >>= fun t3 =>
     if (t3.Kind != (2 : Int)) = true then
      some (((IntKind.wrap .i64 (before2_0 + (1 : Int)), ((26 : Int), (before2_2, ()))), ()), ())
     else
      ub7 (.p31 l0 t1_0 t1_1 t1_2 t1_3 (0 : Int) (0 : Int) (0 : Int) (IntKind.wrap .i64 (before2_0 + (1 : Int))) (0 : Int) before2_2)
    else
     ub7 (.p31 l0 t1_0 t1_1 t1_2 t1_3 (0 : Int) (0 : Int) (0 : Int) (IntKind.wrap .i64 (before2_0 + (1 : Int))) (0 : Int) before2_2)
 | .p31 l0 C0 C1 C2 C3 D0 D1 D2 G0 G1 G2 =>
  (uB5 (.start C0 C1 C2 C3)) >>= fun t1 =>
  if t1.1.1 = true then
   (idx C3 (0 : Int)) >>= fun t2 =>
   (uQ4 (.start t2.Value)) >>= fun t3 =>
   if (!t3.1.1) = true then
    some (((G0, ((25 : Int), (G2, ()))), ()), ())
   else
    ub7 (.p63 l0 C0 C1 C2 C3 D0 D1 D2 G0 G1 G2)
  else
   ub7 (.p63 l0 C0 C1 C2 C3 D0 D1 D2 G0 G1 G2)
 | .p63 l0 C0 C1 C2 C3 D0 D1 D2 G0 G1 G2 =>
  if (decide (G0 > (200 : Int))) = true then
   some (((G0, ((8 : Int), (G2, ()))), ()), ())
  else
   if (decide (G2 ≥ (40 : Int))) = true then
    some (((G0, ((8 : Int), (G2, ()))), ()), ())
   else
    ub7 (.p127 l0 C0 C1 C2 C3 D0 D1 D2 G0 G1 G2)
 | .p127 l0 C0 C1 C2 C3 D0 D1 D2 G0 G1 G2 =>
  (uB5 (.start C0 C1 C2 C3)) >>= fun t1 =>
  if t1.1.1 = true then
   some (((G0, (G1, (G2, ()))), ()), ())
  else
   (ug2 (.start l0 C0 C1 C2 C3)) >>= fun t2 =>
   ub7 (.p8180 l0 t2.1.1 (0 : Int) D0 D1 D2 G0 G1 G2)
 | .p8180 l0 all8 i9 C0 C1 C2 D0 D1 D2 =>
  if (decide (i9 < (List.length all8 : Int))) = true then
   ub7 (.p523556 l0 all8 i9 (0 : Int) C0 C1 C2 D0 D1 D2)
  else
   some (((D0, (D1, (D2, ()))), ()), ())
 | .p523556 l0 all8 i9 k10 C0 C1 C2 D0 D1 D2 =>
  (idx all8 i9) >>= fun t1 =>
  if (decide (k10 < (List.length t1.Fields : Int))) = true then
   (idx all8 i9) >>= fun t2 =>
   (idx t2.Fields k10) >>= fun t3 =>
   (ub7 (.start l0 t3.Type_.Kind t3.Type_.Value t3.Type_.Name t3.Type_.Parts D0 (0 : Int) (IntKind.wrap .i64 (D2 + (1 : Int))))) >>= fun t4 =>
   if (t4.1.1.2.1 != (0 : Int)) = true then
    some (((t4.1.1.1, (t4.1.1.2.1, (D2, ()))), ()), ())
   else
    ub7 (.p523556 l0 all8 i9 (IntKind.wrap .i64 (k10 + (1 : Int))) C0 C1 C2 t4.1.1.1 t4.1.1.2.1 D2)
  else
   ub7 (.p8180 l0 all8 (IntKind.wrap .i64 (i9 + (1 : Int))) C0 C1 C2 D0 D1 D2)
 partial_fixpoint
def wu2 : ub2 E := vT5.okc E_ok (run := ub7) (ub7.partial_correctness vT5.M fun run' ih => vT5.mk_ok E_ok [vT5.okc E_ok ih, vU3, wa4, wa3, wa1] ih)
inductive wh5 where
 | start (n0 : Int)
def v95 : Fb E wh5 (Int × Unit) Unit := ⟨18, Tryz.f18, (.cons (Rd.int .i64).w .nil), .nil, fun a b => .start a.1, { rl := (.cons (.int .i64) .nil), rb := .nil, done := [0] }, [], mkWr [] []⟩
def uQ5 : wh5 → Option ((Int × Unit) × Unit)
 | .start n0 =>
  if (decide ((0 : Int) ≤ n0)) = true then
   some ((shl .i64 (1 : Int) n0, ()), ())
  else none
def wa5 : ub2 E := v95.okc E_ok (run := uQ5) (v95.mk_ok E_ok [] v95.none)
inductive wh6 where
 | start (count0 : Int)
 | p56 (count0 : Int) (n3 : Int)
def v96 : Fb E wh6 (Int × Unit) Unit := ⟨46, Tryz.f46, (.cons (Rd.int .i64).w .nil), .nil, fun a b => .start a.1, { rl := (.cons (.int .i64) .nil), rb := .nil, done := [0] }, [⟨56, { slots := [0, 3] }, (.cons (.int .i64) (.cons (.int .i64) .nil)), .nil, fun a b => .p56 a.1 a.2.1⟩], mkWr [] []⟩
def uu4 : wh6 → Option ((Int × Unit) × Unit)
 | .start count0 =>
  uu4 (.p56 count0 (0 : Int))
 | .p56 count0 n3 =>
  (uQ5 (.start n3)) >>= fun t1 =>
  if (decide (t1.1.1 < count0)) = true then
   uu4 (.p56 count0 (IntKind.wrap .i64 (n3 + (1 : Int))))
  else
   some ((n3, ()), ())
 partial_fixpoint
def wu3 : ub2 E := v96.okc E_ok (run := uu4) (uu4.partial_correctness v96.M fun run' ih => v96.mk_ok E_ok [wa5] ih)
inductive wh7 where
 | start (l0 : (List ua3)) (c1_0 : ByteArray) (c1_1 : (List ua6))
 | p116 (l0 : (List ua3)) (n5 : Int) (i6 : Int) (C0 : ByteArray) (C1 : (List ua6))
def vF0 : Fb E wh7 (Int × Unit) Unit := ⟨87, Tryz.f87, (.cons (.sl 103) (.cons (.agg (.cons Rd.str.w (.cons (.sl 58) .nil))) .nil)), .nil, fun a b => .start a.1 a.2.1.1 a.2.1.2.1, { rl := (.cons (.int .i64) .nil), rb := .nil, done := [0] }, [⟨116, { slots := [0, 3, 5, 6] }, (.cons (.sl 103 false) (.cons (.bp 0 0) (.cons (.int .i64) (.cons (.int .i64) .nil)))), (.cons (.var 56 (.cons .str (.cons (.sl 58 false) .nil))) .nil), fun a b => .p116 a.1 a.2.2.1 a.2.2.2.1 b.1.1 b.1.2.1⟩], mkWr [] []⟩
inductive wh8 where
 | start (l0 : (List ua3)) (t1_0 : Int) (t1_1 : Int) (t1_2 : ByteArray) (t1_3 : (List ua1))
def vx4 : Fb E wh8 (Int × Unit) Unit := ⟨13, Tryz.f13, (.cons (.sl 103) (.cons (.agg (.cons (Rd.int .i64).w (.cons (Rd.int .i64).w (.cons Rd.str.w (.cons (.sl 25) .nil))))) .nil)), .nil, fun a b => .start a.1 a.2.1.1 a.2.1.2.1 a.2.1.2.2.1 a.2.1.2.2.2.1, { rl := (.cons (.int .i64) .nil), rb := .nil, done := [0] }, [], mkWr [] []⟩
inductive wh9 where
 | start (l0 : (List ua3)) (t1_0 : Int) (t1_1 : Int) (t1_2 : ByteArray) (t1_3 : (List ua1))
 | p116 (l0 : (List ua3)) (all5 : (List ua2)) (most6 : Int) (i7 : Int)
def vF1 : Fb E wh9 (Int × Unit) Unit := ⟨45, Tryz.f45, (.cons (.sl 103) (.cons (.agg (.cons (Rd.int .i64).w (.cons (Rd.int .i64).w (.cons Rd.str.w (.cons (.sl 25) .nil))))) .nil)), .nil, fun a b => .start a.1 a.2.1.1 a.2.1.2.1 a.2.1.2.2.1 a.2.1.2.2.2.1, { rl := (.cons (.int .i64) .nil), rb := .nil, done := [0] }, [⟨116, { slots := [0, 5, 6, 7] }, (.cons (.sl 103 false) (.cons (.sl 56 false) (.cons (.int .i64) (.cons (.int .i64) .nil)))), .nil, fun a b => .p116 a.1 a.2.1 a.2.2.1 a.2.2.2.1⟩], mkWr [] []⟩
mutual
def us3 : wh7 → Option ((Int × Unit) × Unit)
 | .start l0 c1_0 c1_1 =>
  us3 (.p116 l0 (0 : Int) (0 : Int) c1_0 c1_1)
 | .p116 l0 n5 i6 C0 C1 =>
  if (decide (i6 < (List.length C1 : Int))) = true then
   (idx C1 i6) >>= fun t1 =>
   (run_z94 (.start l0 t1.Type_.Kind t1.Type_.Value t1.Type_.Name t1.Type_.Parts)) >>= fun t2 =>
   us3 (.p116 l0 (IntKind.wrap .i64 (n5 + t2.1.1)) (IntKind.wrap .i64 (i6 + (1 : Int))) C0 C1)
  else
   some ((n5, ()), ())
 partial_fixpoint
def run_z94 : wh8 → Option ((Int × Unit) × Unit)
 | .start l0 t1_0 t1_1 t1_2 t1_3 =>
  (uB5 (.start t1_0 t1_1 t1_2 t1_3)) >>= fun t1 =>
  if t1.1.1 = true then
   (idx t1_3 (0 : Int)) >>= fun t2 =>
   some ((t2.Value, ()), ())
  else
   (ug2 (.start l0 t1_0 t1_1 t1_2 t1_3)) >>= fun t3 =>
   (uu4 (.start (List.length t3.1.1 : Int))) >>= fun t4 =>
   (run_z95 (.start l0 t1_0 t1_1 t1_2 t1_3)) >>= fun t5 =>
   some ((IntKind.wrap .i64 (t4.1.1 + t5.1.1), ()), ())
 partial_fixpoint
def run_z95 : wh9 → Option ((Int × Unit) × Unit)
 | .start l0 t1_0 t1_1 t1_2 t1_3 =>
  (ug2 (.start l0 t1_0 t1_1 t1_2 t1_3)) >>= fun t1 =>
  run_z95 (.p116 l0 t1.1.1 (0 : Int) (0 : Int))
 | .p116 l0 all5 most6 i7 =>
  if (decide (i7 < (List.length all5 : Int))) = true then
   (idx all5 i7) >>= fun t1 =>
   (us3 (.start l0 t1.Name t1.Fields)) >>= fun t2 =>
   run_z95 (.p116 l0 all5 (if t2.1.1 > most6 then t2.1.1 else most6) (IntKind.wrap .i64 (i7 + (1 : Int))))
  else
   some ((most6, ()), ())
 partial_fixpoint
end
theorem vH6 : vF0.Ok us3 ∧ vx4.Ok run_z94 ∧ vF1.Ok run_z95 := by
  refine us3.mutual_partial_correctness vF0.M vx4.M vF1.M ?_ ?_ ?_
  · exact fun r_z93 r_z94 h_z93 h_z94 => vF0.mk_ok E_ok [vx4.okc E_ok h_z94, vF0.okc E_ok h_z93] h_z93
  · exact fun r_z95 h_z95 => vx4.mk_ok E_ok [vF1.okc E_ok h_z95, wu3, vU3, wa3] vx4.none
  · exact fun r_z93 r_z95 h_z93 h_z95 => vF1.mk_ok E_ok [vF1.okc E_ok h_z95, vF0.okc E_ok h_z93, vU3] h_z95
def wu4 : ub2 E := vx4.okc E_ok vH6.2.1
inductive wi0 where
 | start (l0 : (List ua3)) (t1_0 : Int) (t1_1 : Int) (t1_2 : ByteArray) (t1_3 : (List ua1))
def v97 : Fb E wi0 (Int × Unit) Unit := ⟨63, Tryz.f63, (.cons (.sl 103) (.cons (.agg (.cons (Rd.int .i64).w (.cons (Rd.int .i64).w (.cons Rd.str.w (.cons (.sl 25) .nil))))) .nil)), .nil, fun a b => .start a.1 a.2.1.1 a.2.1.2.1 a.2.1.2.2.1 a.2.1.2.2.2.1, { rl := (.cons (.int .i64) .nil), rb := .nil, done := [0] }, [], mkWr [] []⟩
def vq3 : wi0 → Option ((Int × Unit) × Unit)
 | .start l0 t1_0 t1_1 t1_2 t1_3 =>
  (u07 (.start l0 ([]) t1_0 t1_1 t1_2 t1_3)) >>= fun t1 =>
  if (t1.1.1 != (0 : Int)) = true then
   some ((t1.1.1, ()), ())
  else
   (ub7 (.start l0 t1_0 t1_1 t1_2 t1_3 (0 : Int) (0 : Int) (0 : Int))) >>= fun t2 =>
   if (t2.1.1.2.1 != (0 : Int)) = true then
    some ((t2.1.1.2.1, ()), ())
   else
    (run_z94 (.start l0 t1_0 t1_1 t1_2 t1_3)) >>= fun t3 =>
    (uQ4 (.start t3.1.1)) >>= fun t4 =>
    if (!t4.1.1) = true then
     some (((25 : Int), ()), ())
    else
     some (((0 : Int), ()), ())
def wu5 : ub2 E := v97.okc E_ok (run := vq3) (v97.mk_ok E_ok [wa4, wu4, wu2, wl5] v97.none)
inductive wi1 where
 | start (l0 : (List ua3)) (t1_0 : Int) (t1_1 : Int) (t1_2 : ByteArray) (t1_3 : (List ua1))
def v98 : Fb E wi1 (Int × Unit) Unit := ⟨12, Tryz.f12, (.cons (.sl 103) (.cons (.agg (.cons (Rd.int .i64).w (.cons (Rd.int .i64).w (.cons Rd.str.w (.cons (.sl 25) .nil))))) .nil)), .nil, fun a b => .start a.1 a.2.1.1 a.2.1.2.1 a.2.1.2.2.1 a.2.1.2.2.2.1, { rl := (.cons (.int .i64) .nil), rb := .nil, done := [0] }, [], mkWr [] []⟩
def vb6 : wi1 → Option ((Int × Unit) × Unit)
 | .start l0 t1_0 t1_1 t1_2 t1_3 =>
  (vq2 (.start l0)) >>= fun t1 =>
  if (t1.1.1 != (0 : Int)) = true then
   some ((t1.1.1, ()), ())
  else
   (vq3 (.start l0 t1_0 t1_1 t1_2 t1_3)) >>= fun t2 =>
   some ((t2.1.1, ()), ())
def wu6 : ub2 E := v98.okc E_ok (run := vb6) (v98.mk_ok E_ok [wu5, wu0] v98.none)
inductive wi2 where
 | start (l0 : (List ByteArray))
def v99 : Fb E wi2 (Unit × Unit) ((List ByteArray) × Unit) := ⟨66, Tryz.f66, (.cons (.sl 9) .nil), .nil, fun a b => .start a.1, { rl := (.cons (Rd.rw 0) .nil), rb := (.cons (.row 9 true) .nil), done := [0] }, [], mkWr [] []⟩
def vq4 : wi2 → Option ((Unit × Unit) × ((List ByteArray) × Unit))
 | .start l0 =>
  if (fits (List.length ([] : List ByteArray)) (List.length l0) 16) = true then
   some (((), ()), (([] : List ByteArray) ++ l0, ()))
  else none
def wu7 : ub2 E := v99.okc E_ok (run := vq4) (v99.mk_ok E_ok [] v99.none)
inductive wi3 where
 | start (l0 : (List ua6))
 | p116 (l0 : (List ua6)) (i4 : Int) (B0 : (List ua6))
def wa0 : Fb E wi3 (Unit × Unit) ((List ua6) × Unit) := ⟨67, Tryz.f67, (.cons (.sl 58) .nil), .nil, fun a b => .start a.1, { rl := (.cons (Rd.rw 0) .nil), rb := (.cons (.row 58 true) .nil), done := [0] }, [⟨116, { slots := [0, 3, 4], rows := [(3, 58)] }, (.cons (.sl 58 false) (.cons (Rd.rw 0) (.cons (.int .i64) .nil))), (.cons (.row 58 false) .nil), fun a b => .p116 a.1 a.2.2.1 b.1⟩], mkWr [] []⟩
def us4 : wi3 → Option ((Unit × Unit) × ((List ua6) × Unit))
 | .start l0 =>
  us4 (.p116 l0 (0 : Int) ([] : List ua6))
 | .p116 l0 i4 B0 =>
  if (decide (i4 < (List.length l0 : Int))) = true then
   (idx l0 i4) >>= fun t1 =>
   (idx l0 i4) >>= fun t2 =>
   (uo3 (.start t2.Type_.Kind t2.Type_.Value t2.Type_.Name t2.Type_.Parts)) >>= fun t3 =>
   if (fits (List.length B0) (List.length ([(⟨t1.Name, (⟨t3.1.1.1, t3.1.1.2.1, t3.1.1.2.2.1, t3.1.1.2.2.2.1⟩ : ua1)⟩ : ua6)] : List ua6)) 72) = true then
    us4 (.p116 l0 (IntKind.wrap .i64 (i4 + (1 : Int))) (B0 ++ ([(⟨t1.Name, (⟨t3.1.1.1, t3.1.1.2.1, t3.1.1.2.2.1, t3.1.1.2.2.2.1⟩ : ua1)⟩ : ua6)] : List ua6)))
   else none
  else
   some (((), ()), (B0, ()))
 partial_fixpoint
def wu8 : ub2 E := wa0.okc E_ok (run := us4) (us4.partial_correctness wa0.M fun run' ih => wa0.mk_ok E_ok [wl6] ih)
inductive vZ0 where
 | start (l0 : (List ua3))
 | p116 (l0 : (List ua3)) (i4 : Int) (B0 : (List ua3))
 | p29844 (l0 : (List ua3)) (i4 : Int) (k6 : Int) (B0 : (List ua3)) (B1 : ByteArray) (B2 : (List ByteArray)) (B3 : (List ua2))
def vD0 : Fb E vZ0 (Unit × Unit) ((List ua3) × Unit) := ⟨15, Tryz.f15, (.cons (.sl 103) .nil), .nil, fun a b => .start a.1, { rl := (.cons (Rd.rw 0) .nil), rb := (.cons (.row 103 true) .nil), rows := [(0, 103)], done := [0] }, [⟨116, { slots := [0, 3, 4], rows := [(3, 103)] }, (.cons (.sl 103 false) (.cons (Rd.rw 0) (.cons (.int .i64) .nil))), (.cons (.row 103 false) .nil), fun a b => .p116 a.1 a.2.2.1 b.1⟩,
 ⟨29844, { slots := [0, 3, 4, 5, 6], up := [(true, 5, 2, 56)] }, (.cons (.sl 103 false) (.cons (Rd.rw 0) (.cons (.int .i64) (.cons (.bp 1 0) (.cons (.int .i64) .nil))))), (.cons (.row 103 false) (.cons (.var 103 (.cons .str (.cons (Rd.rw 2) (.cons (Rd.rw 3) .nil)))) (.cons (.row 9 true) (.cons (.row 56 false) .nil)))), fun a b => .p29844 a.1 a.2.2.1 a.2.2.2.2.1 b.1 b.2.1.1 b.2.2.1 b.2.2.2.1⟩], mkWr [] [(3731, [5])]⟩
def ub4 : vZ0 → Option ((Unit × Unit) × ((List ua3) × Unit))
 | .start l0 =>
  ub4 (.p116 l0 (0 : Int) ([] : List ua3))
 | .p116 l0 i4 B0 =>
  if (decide (i4 < (List.length l0 : Int))) = true then
   (idx l0 i4) >>= fun t1 =>
   (idx l0 i4) >>= fun t2 =>
   (vq4 (.start t2.Params)) >>= fun t3 =>
   ub4 (.p29844 l0 i4 (0 : Int) B0 t1.Name t3.2.1 ([] : List ua2))
  else
   some (((), ()), (B0, ()))
 | .p29844 l0 i4 k6 B0 B1 B2 B3 =>
  (idx l0 i4) >>= fun t1 =>
  if (decide (k6 < (List.length t1.Constructors : Int))) = true then
   (idx l0 i4) >>= fun t2 =>
   (idx t2.Constructors k6) >>= fun t3 =>
   (us4 (.start t3.Fields)) >>= fun t4 =>
   if (fits (List.length B3) (List.length ([(⟨t3.Name, t4.2.1⟩ : ua2)] : List ua2)) 40) = true then
    ub4 (.p29844 l0 i4 (IntKind.wrap .i64 (k6 + (1 : Int))) B0 B1 B2 (B3 ++ ([(⟨t3.Name, t4.2.1⟩ : ua2)] : List ua2)))
   else none
  else
   if (fits (List.length B0) (List.length ([(⟨B1, B2, B3⟩ : ua3)] : List ua3)) 64) = true then
    ub4 (.p116 l0 (IntKind.wrap .i64 (i4 + (1 : Int))) (B0 ++ ([(⟨B1, B2, B3⟩ : ua3)] : List ua3)))
   else none
 partial_fixpoint
def wi7 : ub2 E := vD0.okc E_ok (run := ub4) (ub4.partial_correctness vD0.M fun run' ih => vD0.mk_ok E_ok [wu8, wu7] ih)
inductive vZ1 where
 | start (x0 : (Option ua4)) (v1_0 : ByteArray) (v1_1 : Int) (v1_2 : (List ua5))
 | p244 (sum5 : Int) (s18 : (Option (List data_variant))) (s19 : Int) (s20 : Int) (C0 : ByteArray) (C1 : Int) (C2 : (List ua5))
 | p501364 (sum5 : Int) (own8 : Int) (s34 : (Option (List (Option ua4)))) (s35 : Int) (s36 : Int) (C0 : ByteArray) (C1 : Int) (C2 : (List ua5))
def vr9 : Fb E vZ1 (Int × Unit) Unit := ⟨83, Tryz.f83, (.cons (Rd.op 128).w (.cons (.agg (.cons Rd.str.w (.cons (Rd.int .i64).w (.cons (.sl 37) .nil)))) .nil)), .nil, fun a b => .start a.1 a.2.1.1 a.2.1.2.1 a.2.1.2.2.1, { rl := (.cons (.int .i64) .nil), rb := .nil, done := [0] }, [⟨244, { slots := [3, 5, 18, 19, 20] }, (.cons (.bp 0 0) (.cons (.int .i64) (.cons (Rd.so 125) (.cons (.int .i64) (.cons (.int .i64) .nil))))), (.cons (.var 37 (.cons .str (.cons (.int .i64) (.cons (.sl 37 false) .nil)))) .nil), fun a b => .p244 a.2.1 a.2.2.1 a.2.2.2.1 a.2.2.2.2.1 b.1.1 b.1.2.1 b.1.2.2.1⟩,
 ⟨501364, { slots := [3, 5, 8, 34, 35, 36] }, (.cons (.bp 0 0) (.cons (.int .i64) (.cons (.int .i64) (.cons (Rd.so 105) (.cons (.int .i64) (.cons (.int .i64) .nil)))))), (.cons (.var 37 (.cons .str (.cons (.int .i64) (.cons (.sl 37 false) .nil)))) .nil), fun a b => .p501364 a.2.1 a.2.2.1 a.2.2.2.1 a.2.2.2.2.1 a.2.2.2.2.2.1 b.1.1 b.1.2.1 b.1.2.2.1⟩], mkWr [] []⟩
def ue1 : vZ1 → Option ((Int × Unit) × Unit)
 | .start x0 v1_0 v1_1 v1_2 =>
  (up7 (.start x0)) >>= fun t1 =>
  if t1.1.1 = true then
   some ((v1_1, ()), ())
  else
   x0 >>= fun t2 =>
   ue1 (.p244 (0 : Int) t2.constructors (List.length (Option.getD t2.constructors []) : Int) (0 : Int) v1_0 v1_1 v1_2)
 | .p244 sum5 s18 s19 s20 C0 C1 C2 =>
  if (decide (s20 < s19)) = true then
   (idx (Option.getD s18 []) s20) >>= fun t1 =>
   if (!(seq t1.name C0)) = true then
    (uk1 (.start t1.name t1.fields t1.parts)) >>= fun t2 =>
    ue1 (.p244 (IntKind.wrap .i64 (sum5 + t2.1.1)) s18 s19 (IntKind.wrap .i64 (s20 + (1 : Int))) C0 C1 C2)
   else
    ue1 (.p501364 sum5 (0 : Int) t1.parts (List.length (Option.getD t1.parts []) : Int) (0 : Int) C0 C1 C2)
  else
   some ((sum5, ()), ())
 | .p501364 sum5 own8 s34 s35 s36 C0 C1 C2 =>
  if (decide (s36 < s35)) = true then
   (idx (Option.getD s34 []) s36) >>= fun t1 =>
   (run_z61 (.start t1)) >>= fun t2 =>
   (idx C2 s36) >>= fun t3 =>
   (ue1 (.start t1 t3.Name t3.Number t3.Parts)) >>= fun t4 =>
   ue1 (.p501364 sum5 (IntKind.wrap .i64 ((IntKind.wrap .i64 (own8 * t2.1.1)) + t4.1.1)) s34 s35 (IntKind.wrap .i64 (s36 + (1 : Int))) C0 C1 C2)
  else
   some ((IntKind.wrap .i64 (sum5 + own8), ()), ())
 partial_fixpoint
def v08 : ub2 E := vr9.okc E_ok (run := ue1) (ue1.partial_correctness vr9.M fun run' ih => vr9.mk_ok E_ok [vr9.okc E_ok ih, vU1, wl0, vj6] ih)
inductive vZ2 where
 | start (x0 : Int)
def vD1 : Fb E vZ2 (Bool × Unit) Unit := ⟨125, Tryz.f125, (.cons (Rd.int .i64).w .nil), .nil, fun a b => .start a.1, { rl := (.cons .bool .nil), rb := .nil, done := [0] }, [], mkWr [] []⟩
def uM0 : vZ2 → Option ((Bool × Unit) × Unit)
 | .start x0 =>
  some ((x0 != x0, ()), ())
def wi8 : ub2 E := vD1.okc E_ok (run := uM0) (vD1.mk_ok E_ok [] vD1.none)
inductive vZ3 where
 | start (x0 : Int) (y1 : Int)
def vD2 : Fb E vZ3 (Int × Unit) Unit := ⟨92, Tryz.f92, (.cons (Rd.int .i64).w (.cons (Rd.int .i64).w .nil)), .nil, fun a b => .start a.1 a.2.1, { rl := (.cons (.int .i64) .nil), rb := .nil, done := [0] }, [], mkWr [] []⟩
def uU3 : vZ3 → Option ((Int × Unit) × Unit)
 | .start x0 y1 =>
  (uM0 (.start x0)) >>= fun t1 =>
  (uM0 (.start y1)) >>= fun t2 =>
  if t1.1.1 = true then
   if t2.1.1 = true then
    some (((0 : Int), ()), ())
   else
    some (((-1 : Int), ()), ())
  else
   if t2.1.1 = true then
    some (((1 : Int), ()), ())
   else
    if (decide (x0 < y1)) = true then
     some (((-1 : Int), ()), ())
    else
     if (decide (x0 > y1)) = true then
      some (((1 : Int), ()), ())
     else
      some (((0 : Int), ()), ())
def wi9 : ub2 E := vD2.okc E_ok (run := uU3) (vD2.mk_ok E_ok [wi8] vD2.none)
inductive vZ4 where
 | start (l0 : (List ua3)) (t1_0 : Int) (t1_1 : Int) (t1_2 : ByteArray) (t1_3 : (List ua1)) (v2_0 : ByteArray) (v2_1 : Int) (v2_2 : (List ua5)) (v2_3 : ByteArray) (v2_4 : Int) (v2_5 : (List ua5))
 | p15 (x8 : (Option ua4)) (e9 : Int) (C0 : ByteArray) (C1 : Int) (C2 : (List ua5)) (C3 : ByteArray) (C4 : Int) (C5 : (List ua5))
def vD3 : Fb E vZ4 (Int × (Int × Unit)) Unit := ⟨49, Tryz.f49, (.cons (.sl 103) (.cons (.agg (.cons (Rd.int .i64).w (.cons (Rd.int .i64).w (.cons Rd.str.w (.cons (.sl 25) .nil))))) (.cons (.agg (.cons Rd.str.w (.cons (Rd.int .i64).w (.cons (.sl 37) (.cons Rd.str.w (.cons (Rd.int .i64).w (.cons (.sl 37) .nil))))))) .nil))), .nil, fun a b => .start a.1 a.2.1.1 a.2.1.2.1 a.2.1.2.2.1 a.2.1.2.2.2.1 a.2.2.1.1 a.2.2.1.2.1 a.2.2.1.2.2.1 a.2.2.1.2.2.2.1 a.2.2.1.2.2.2.2.1 a.2.2.1.2.2.2.2.2.1, { rl := (.cons (.int .i64) (.cons (.int .i64) .nil)), rb := .nil, done := [0, 1] }, [⟨15, { slots := [5, 8, 9] }, (.cons (.bp 0 0) (.cons (Rd.op 128) (.cons (.int .i64) .nil))), (.cons (.var 85 (.cons .str (.cons (.int .i64) (.cons (.sl 37 false) (.cons .str (.cons (.int .i64) (.cons (.sl 37 false) .nil))))))) .nil), fun a b => .p15 a.2.1 a.2.2.1 b.1.1 b.1.2.1 b.1.2.2.1 b.1.2.2.2.1 b.1.2.2.2.2.1 b.1.2.2.2.2.2.1⟩], mkWr [] []⟩
def uj4 : vZ4 → Option ((Int × (Int × Unit)) × Unit)
 | .start l0 t1_0 t1_1 t1_2 t1_3 v2_0 v2_1 v2_2 v2_3 v2_4 v2_5 =>
  (uk0 (.start l0 t1_0 t1_1 t1_2 t1_3 v2_0 v2_1 v2_2)) >>= fun t1 =>
  if (t1.1.2.1 == (0 : Int)) = true then
   (uk0 (.start l0 t1_0 t1_1 t1_2 t1_3 v2_3 v2_4 v2_5)) >>= fun t2 =>
   uj4 (.p15 t1.1.1 t2.1.2.1 v2_0 v2_1 v2_2 v2_3 v2_4 v2_5)
  else
   uj4 (.p15 t1.1.1 t1.1.2.1 v2_0 v2_1 v2_2 v2_3 v2_4 v2_5)
 | .p15 x8 e9 C0 C1 C2 C3 C4 C5 =>
  if (e9 != (0 : Int)) = true then
   some (((0 : Int), (e9, ())), ())
  else
   (ue1 (.start x8 C0 C1 C2)) >>= fun t1 =>
   (ue1 (.start x8 C3 C4 C5)) >>= fun t2 =>
   (uU3 (.start t1.1.1 t2.1.1)) >>= fun t3 =>
   some ((t3.1.1, ((0 : Int), ())), ())
 partial_fixpoint
def wj0 : ub2 E := vD3.okc E_ok (run := uj4) (uj4.partial_correctness vD3.M fun run' ih => vD3.mk_ok E_ok [wi9, v08, vU0] ih)
inductive vZ5 where
 | start (l0 : (List ua3)) (t1_0 : Int) (t1_1 : Int) (t1_2 : ByteArray) (t1_3 : (List ua1))
def vD4 : Fb E vZ5 (Int × (Int × Unit)) Unit := ⟨16, Tryz.f16, (.cons (.sl 103) (.cons (.agg (.cons (Rd.int .i64).w (.cons (Rd.int .i64).w (.cons Rd.str.w (.cons (.sl 25) .nil))))) .nil)), .nil, fun a b => .start a.1 a.2.1.1 a.2.1.2.1 a.2.1.2.2.1 a.2.1.2.2.2.1, { rl := (.cons (.int .i64) (.cons (.int .i64) .nil)), rb := .nil, done := [0, 1] }, [], mkWr [] []⟩
def uU4 : vZ5 → Option ((Int × (Int × Unit)) × Unit)
 | .start l0 t1_0 t1_1 t1_2 t1_3 =>
  (uu2 (.start l0 t1_0 t1_1 t1_2 t1_3)) >>= fun t1 =>
  if (t1.1.2.2.1 != (0 : Int)) = true then
   some (((0 : Int), (t1.1.2.2.1, ())), ())
  else
   (run_z61 (.start t1.1.1)) >>= fun t2 =>
   some ((t2.1.1, ((0 : Int), ())), ())
def wj1 : ub2 E := vD4.okc E_ok (run := uU4) (vD4.mk_ok E_ok [vU1, vF6] vD4.none)
inductive vZ6 where
 | start (n0 : Int) (by1 : Int)
def vD5 : Fb E vZ6 (Int × Unit) Unit := ⟨50, Tryz.f50, (.cons (Rd.int .i64).w (.cons (Rd.int .i64).w .nil)), .nil, fun a b => .start a.1 a.2.1, { rl := (.cons (.int .i64) .nil), rb := .nil, done := [0] }, [], mkWr [] []⟩
def uM1 : vZ6 → Option ((Int × Unit) × Unit)
 | .start n0 by1 =>
  if (!(by1 == (0 : Int))) = true then
   if (decide ((Int.tmod n0 by1) < (0 : Int))) = true then
    some ((IntKind.wrap .i64 ((Int.tmod n0 by1) + by1), ()), ())
   else
    some ((Int.tmod n0 by1, ()), ())
  else none
def wj2 : ub2 E := vD5.okc E_ok (run := uM1) (vD5.mk_ok E_ok [] vD5.none)
inductive vZ7 where
 | start (v0_0 : ByteArray) (v0_1 : Int) (v0_2 : (List ua5)) (depth1 : Int) (count2 : Int)
 | p15 (depth1 : Int) (count2 : Int) (C0 : ByteArray) (C1 : Int) (C2 : (List ua5))
 | p244 (depth1 : Int) (count2 : Int) (i7 : Int) (C0 : ByteArray) (C1 : Int) (C2 : (List ua5))
 | p489 (depth1 : Int) (count2 : Int) (i7 : Int) (C0 : ByteArray) (C1 : Int) (C2 : (List ua5))
def vs0 : Fb E vZ7 (Int × Unit) Unit := ⟨72, Tryz.f72, (.cons (.agg (.cons Rd.str.w (.cons (Rd.int .i64).w (.cons (.sl 37) .nil)))) (.cons (Rd.int .i64).w (.cons (Rd.int .i64).w .nil))), .nil, fun a b => .start a.1.1 a.1.2.1 a.1.2.2.1 a.2.1 a.2.2.1, { rl := (.cons (.int .i64) .nil), rb := .nil, done := [0] }, [⟨15, { slots := [1, 2, 3] }, (.cons (.int .i64) (.cons (.int .i64) (.cons (.bp 0 0) .nil))), (.cons (.var 37 (.cons .str (.cons (.int .i64) (.cons (.sl 37 false) .nil)))) .nil), fun a b => .p15 a.1 a.2.1 b.1.1 b.1.2.1 b.1.2.2.1⟩,
 ⟨244, { slots := [1, 2, 3, 7] }, (.cons (.int .i64) (.cons (.int .i64) (.cons (.bp 0 0) (.cons (.int .i64) .nil)))), (.cons (.var 37 (.cons .str (.cons (.int .i64) (.cons (.sl 37 false) .nil)))) .nil), fun a b => .p244 a.1 a.2.1 a.2.2.2.1 b.1.1 b.1.2.1 b.1.2.2.1⟩,
 ⟨489, { slots := [1, 2, 3, 7] }, (.cons (.int .i64) (.cons (.int .i64) (.cons (.bp 0 0) (.cons (.int .i64) .nil)))), (.cons (.var 37 (.cons .str (.cons (.int .i64) (.cons (.sl 37 false) .nil)))) .nil), fun a b => .p489 a.1 a.2.1 a.2.2.2.1 b.1.1 b.1.2.1 b.1.2.2.1⟩], mkWr [] []⟩
def uf9 : vZ7 → Option ((Int × Unit) × Unit)
 | .start v0_0 v0_1 v0_2 depth1 count2 =>
  if (decide (depth1 > (40 : Int))) = true then
   some (((201 : Int), ()), ())
  else
   if (decide ((IntKind.wrap .i64 (count2 + (1 : Int))) > (200 : Int))) = true then
    some (((201 : Int), ()), ())
   else
    if (decide ((List.length v0_2 : Int) > (200 : Int))) = true then
     some (((201 : Int), ()), ())
    else
     uf9 (.p15 depth1 (IntKind.wrap .i64 (count2 + (1 : Int))) v0_0 v0_1 v0_2)
 | .p15 depth1 count2 C0 C1 C2 =>
  uf9 (.p244 depth1 count2 (0 : Int) C0 C1 C2)
 | .p244 depth1 count2 i7 C0 C1 C2 =>
  if (decide (i7 < (List.length C2 : Int))) = true then
   if (decide (count2 ≤ (200 : Int))) = true then
    uf9 (.p489 depth1 count2 i7 C0 C1 C2)
   else
    some ((count2, ()), ())
  else
   some ((count2, ()), ())
 | .p489 depth1 count2 i7 C0 C1 C2 =>
  (idx C2 i7) >>= fun t1 =>
  (uf9 (.start t1.Name t1.Number t1.Parts (IntKind.wrap .i64 (depth1 + (1 : Int))) count2)) >>= fun t2 =>
  uf9 (.p244 depth1 t2.1.1 (IntKind.wrap .i64 (i7 + (1 : Int))) C0 C1 C2)
 partial_fixpoint
def wj3 : ub2 E := vs0.okc E_ok (run := uf9) (uf9.partial_correctness vs0.M fun run' ih => vs0.mk_ok E_ok [vs0.okc E_ok ih] ih)
inductive vZ8 where
 | start (v0_0 : ByteArray) (v0_1 : Int) (v0_2 : (List ua5))
def vD6 : Fb E vZ8 (Bool × Unit) Unit := ⟨20, Tryz.f20, (.cons (.agg (.cons Rd.str.w (.cons (Rd.int .i64).w (.cons (.sl 37) .nil)))) .nil), .nil, fun a b => .start a.1.1 a.1.2.1 a.1.2.2.1, { rl := (.cons .bool .nil), rb := .nil, done := [0] }, [], mkWr [] []⟩
def uk8 : vZ8 → Option ((Bool × Unit) × Unit)
 | .start v0_0 v0_1 v0_2 =>
  (uf9 (.start v0_0 v0_1 v0_2 (1 : Int) (0 : Int))) >>= fun t1 =>
  some ((decide (t1.1.1 ≤ (200 : Int)), ()), ())
def v09 : ub2 E := vD6.okc E_ok (run := uk8) (vD6.mk_ok E_ok [wj3] vD6.none)
inductive vZ9 where
 | start (l0 : (List ua3)) (t1_0 : Int) (t1_1 : Int) (t1_2 : ByteArray) (t1_3 : (List ua1)) (v2_0 : ByteArray) (v2_1 : Int) (v2_2 : (List ua5))
def vD7 : Fb E vZ9 (Int × Unit) Unit := ⟨31, Tryz.f31, (.cons (.sl 103) (.cons (.agg (.cons (Rd.int .i64).w (.cons (Rd.int .i64).w (.cons Rd.str.w (.cons (.sl 25) .nil))))) (.cons (.agg (.cons Rd.str.w (.cons (Rd.int .i64).w (.cons (.sl 37) .nil)))) .nil))), .nil, fun a b => .start a.1 a.2.1.1 a.2.1.2.1 a.2.1.2.2.1 a.2.1.2.2.2.1 a.2.2.1.1 a.2.2.1.2.1 a.2.2.1.2.2.1, { rl := (.cons (.int .i64) .nil), rb := .nil, done := [0] }, [], mkWr [] []⟩
def um7 : vZ9 → Option ((Int × Unit) × Unit)
 | .start l0 t1_0 t1_1 t1_2 t1_3 v2_0 v2_1 v2_2 =>
  (uk0 (.start l0 t1_0 t1_1 t1_2 t1_3 v2_0 v2_1 v2_2)) >>= fun t1 =>
  some ((t1.1.2.1, ()), ())
def wj4 : ub2 E := vD7.okc E_ok (run := um7) (vD7.mk_ok E_ok [vU0] vD7.none)
inductive v00 where
 | start (v0_0 : ByteArray) (v0_1 : Int) (v0_2 : (List ua5))
 | p244 (i4 : Int) (C0 : ByteArray) (C1 : Int) (C2 : (List ua5)) (D0 : ByteArray) (D1 : Int) (G0 : ByteArray) (G1 : Int) (B3 : (List ua5))
def vs1 : Fb E v00 ((ByteArray × (Int × ((List ua5) × Unit))) × Unit) Unit := ⟨22, Tryz.f22, (.cons (.agg (.cons Rd.str.w (.cons (Rd.int .i64).w (.cons (.sl 37) .nil)))) .nil), .nil, fun a b => .start a.1.1 a.1.2.1 a.1.2.2.1, { rl := (.cons (.agg (.cons .str (.cons (.int .i64) (.cons (.sl 37 false) .nil)))) .nil), rb := .nil, deep := [(false, 0, 2, 37)], done := [0] }, [⟨244, { slots := [1, 2, 3, 4], up := [(true, 3, 2, 37)] }, (.cons (.bp 0 0) (.cons (.bp 1 0) (.cons (.bp 2 0) (.cons (.int .i64) .nil)))), (.cons (.var 37 (.cons .str (.cons (.int .i64) (.cons (.sl 37 false) .nil)))) (.cons (.var 37 (.cons .str (.cons (.int .i64) (.cons Rd.nl .nil)))) (.cons (.var 37 (.cons .str (.cons (.int .i64) (.cons (Rd.rw 3) .nil)))) (.cons (.row 37 false) .nil)))), fun a b => .p244 a.2.2.2.1 b.1.1 b.1.2.1 b.1.2.2.1 b.2.1.1 b.2.1.2.1 b.2.2.1.1 b.2.2.1.2.1 b.2.2.2.1⟩], mkWr [] []⟩
def uf0 : v00 → Option (((ByteArray × (Int × ((List ua5) × Unit))) × Unit) × Unit)
 | .start v0_0 v0_1 v0_2 =>
  uf0 (.p244 (0 : Int) v0_0 v0_1 v0_2 (⟨#[]⟩ : ByteArray) (0 : Int) v0_0 v0_1 ([] : List ua5))
 | .p244 i4 C0 C1 C2 D0 D1 G0 G1 B3 =>
  if (decide (i4 < (List.length C2 : Int))) = true then
   (idx C2 i4) >>= fun t1 =>
   (uf0 (.start t1.Name t1.Number t1.Parts)) >>= fun t2 =>
   if (fits (List.length B3) (List.length ([(⟨t2.1.1.1, t2.1.1.2.1, t2.1.1.2.2.1⟩ : ua5)] : List ua5)) 48) = true then
    uf0 (.p244 (IntKind.wrap .i64 (i4 + (1 : Int))) C0 C1 C2 D0 D1 G0 G1 (B3 ++ ([(⟨t2.1.1.1, t2.1.1.2.1, t2.1.1.2.2.1⟩ : ua5)] : List ua5)))
   else none
  else
   some (((G0, (G1, (B3, ()))), ()), ())
 partial_fixpoint
def wj5 : ub2 E := vs1.okc E_ok (run := uf0) (uf0.partial_correctness vs1.M fun run' ih => vs1.mk_ok E_ok [vs1.okc E_ok ih] ih)
inductive v01 where
 | start (all0 : (List ua2)) (name1 : ByteArray)
 | p52 (all0 : (List ua2)) (name1 : ByteArray) (i5 : Int)
def vD8 : Fb E v01 (Int × Unit) Unit := ⟨29, Tryz.f29, (.cons (.sl 56) (.cons Rd.str.w .nil)), .nil, fun a b => .start a.1 a.2.1, { rl := (.cons (.int .i64) .nil), rb := .nil, done := [0] }, [⟨52, { slots := [0, 1, 5] }, (.cons (.sl 56 false) (.cons .str (.cons (.int .i64) .nil))), .nil, fun a b => .p52 a.1 a.2.1 a.2.2.1⟩], mkWr [] []⟩
def um8 : v01 → Option ((Int × Unit) × Unit)
 | .start all0 name1 =>
  um8 (.p52 all0 name1 (0 : Int))
 | .p52 all0 name1 i5 =>
  if (decide (i5 < (List.length all0 : Int))) = true then
   (idx all0 i5) >>= fun t1 =>
   if (seq t1.Name name1) = true then
    some ((i5, ()), ())
   else
    um8 (.p52 all0 name1 (IntKind.wrap .i64 (i5 + (1 : Int))))
  else
   some (((-1 : Int), ()), ())
 partial_fixpoint
def wj6 : ub2 E := vD8.okc E_ok (run := um8) (um8.partial_correctness vD8.M fun run' ih => vD8.mk_ok E_ok [] ih)
inductive v02 where
 | start (n0 : Int) (width1 : Int)
def vD9 : Fb E v02 (Bool × Unit) Unit := ⟨40, Tryz.f40, (.cons (Rd.int .i64).w (.cons (Rd.int .i64).w .nil)), .nil, fun a b => .start a.1 a.2.1, { rl := (.cons .bool .nil), rb := .nil, done := [0] }, [], mkWr [] []⟩
def ut5 : v02 → Option ((Bool × Unit) × Unit)
 | .start n0 width1 =>
  (uQ5 (.start width1)) >>= fun t1 =>
  (uB4 (.start n0 (0 : Int) (IntKind.wrap .i64 (t1.1.1 - (1 : Int))))) >>= fun t2 =>
  some ((t2.1.1, ()), ())
def v10 : ub2 E := vD9.okc E_ok (run := ut5) (vD9.mk_ok E_ok [vU2, wa5] vD9.none)
end
end Go.Proofs.YtaennkkcnhfglaaGreatDoor.Ev.F
