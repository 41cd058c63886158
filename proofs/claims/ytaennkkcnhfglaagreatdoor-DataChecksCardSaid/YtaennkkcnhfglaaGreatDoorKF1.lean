/- A part of the proof. -/
import Derived.Test.YtaennkkcnhfglaaGreatDoorKEvShelf
import Derived.Test.YtaennkkcnhfglaaGreatDoorKShelf
import Derived.Test.YtaennkkcnhfglaaGreatDoorKEvLib
import Derived.Test.YtaennkkcnhfglaaGreatDoorKEvRun
import Derived.Test.YtaennkkcnhfglaaGreatDoorProg
set_option linter.unusedVariables false
set_option maxRecDepth 100000
namespace Go.Proofs.YtaennkkcnhfglaaGreatDoor.Ev.F
open Go.Proofs Go.Proofs.YtaennkkcnhfglaaGreatDoor.Ev
noncomputable section
structure ua1 where
 Kind : Int
 Value : Int
 Name : ByteArray
 Parts : (List ua1)
structure ua6 where
 Name : ByteArray
 Type_ : ua1
structure ua0 where
 Name : ByteArray
 Fields : (List ua6)
structure ua2 where
 Name : ByteArray
 Params : (List ByteArray)
 Constructors : (List ua0)
structure un5 where
 list : (List ua2)
 params : (List ByteArray)
mutual
structure ua5 where
 bits : Int
 constructors : (Option (List data_variant))
structure data_variant where
 name : ByteArray
 fields : (List ua6)
 parts : (Option (List (Option ua5)))
end
structure ua4 where
 Name : ByteArray
 Number : Int
 Parts : (List ua4)
def S : Nat → Type
 | 5 => Int
 | 9 => ByteArray
 | 25 => ua1
 | 29 => Int
 | 37 => ua4
 | 56 => ua0
 | 58 => ua6
 | 103 => ua2
 | 105 => (Option ua5)
 | 107 => un5
 | 125 => data_variant
 | 128 => ua5
 | 188 => Int
 | _ => Unit
def pk (e : Nat) : Pk S (S e) :=
 if h : e = 5 then h ▸ ((Pk.int .u8) : Pk S Int) else
 if h : e = 9 then h ▸ (Pk.str : Pk S ByteArray) else
 if h : e = 25 then h ▸ ((Pk.iso (Pk.cons (Pk.int .i64) (Pk.cons (Pk.int .i64) (Pk.cons Pk.str (Pk.cons (Pk.sl 25) Pk.unit)))) (fun a => (⟨a.1, a.2.1, a.2.2.1, a.2.2.2.1⟩ : ua1)) (fun x => (x.Kind, x.Value, x.Name, x.Parts, ())) (fun x => by cases x; rfl)) : Pk S ua1) else
 if h : e = 29 then h ▸ ((Pk.int .i64) : Pk S Int) else
 if h : e = 37 then h ▸ ((Pk.iso (Pk.cons Pk.str (Pk.cons (Pk.int .i64) (Pk.cons (Pk.sl 37) Pk.unit))) (fun a => (⟨a.1, a.2.1, a.2.2.1⟩ : ua4)) (fun x => (x.Name, x.Number, x.Parts, ())) (fun x => by cases x; rfl)) : Pk S ua4) else
 if h : e = 56 then h ▸ ((Pk.iso (Pk.cons Pk.str (Pk.cons (Pk.sl 58) Pk.unit)) (fun a => (⟨a.1, a.2.1⟩ : ua0)) (fun x => (x.Name, x.Fields, ())) (fun _ => rfl)) : Pk S ua0) else
 if h : e = 58 then h ▸ ((Pk.iso (Pk.cons Pk.str (Pk.cons (Pk.iso (Pk.cons (Pk.int .i64) (Pk.cons (Pk.int .i64) (Pk.cons Pk.str (Pk.cons (Pk.sl 25) Pk.unit)))) (fun a => (⟨a.1, a.2.1, a.2.2.1, a.2.2.2.1⟩ : ua1)) (fun x => (x.Kind, x.Value, x.Name, x.Parts, ())) (fun x => by cases x; rfl)) Pk.unit)) (fun a => (⟨a.1, a.2.1⟩ : ua6)) (fun x => (x.Name, x.Type_, ())) (fun _ => rfl)) : Pk S ua6) else
 if h : e = 103 then h ▸ ((Pk.iso (Pk.cons Pk.str (Pk.cons (Pk.sl 9) (Pk.cons (Pk.sl 56) Pk.unit))) (fun a => (⟨a.1, a.2.1, a.2.2.1⟩ : ua2)) (fun x => (x.Name, x.Params, x.Constructors, ())) (fun _ => rfl)) : Pk S ua2) else
 if h : e = 105 then h ▸ ((Pk.op 128) : Pk S (Option ua5)) else
 if h : e = 107 then h ▸ ((Pk.iso (Pk.cons (Pk.sl 103) (Pk.cons (Pk.sl 9) Pk.unit)) (fun a => (⟨a.1, a.2.1⟩ : un5)) (fun x => (x.list, x.params, ())) (fun _ => rfl)) : Pk S un5) else
 if h : e = 125 then h ▸ ((Pk.iso (Pk.cons Pk.str (Pk.cons (Pk.sl 58) (Pk.cons (Pk.so 105) Pk.unit))) (fun a => (⟨a.1, a.2.1, a.2.2.1⟩ : data_variant)) (fun x => (x.name, x.fields, x.parts, ())) (fun x => by cases x; rfl)) : Pk S data_variant) else
 if h : e = 128 then h ▸ ((Pk.iso (Pk.cons (Pk.int .i64) (Pk.cons (Pk.so 125) Pk.unit)) (fun a => (⟨a.1, a.2.1⟩ : ua5)) (fun x => (x.bits, x.constructors, ())) (fun x => by cases x; rfl)) : Pk S ua5) else
 if h : e = 188 then h ▸ ((Pk.int .u64) : Pk S Int) else
 Pk.no (Tryz.prog.cellsOf e)
theorem x48 (e : Nat) : (pk e).len = Tryz.prog.cellsOf e := by
  unfold pk
  by_cases h : e = 5
  · subst h; kernel_rfl
  refine (congrArg Pk.len (dif_neg h)).trans ?_; clear h
  by_cases h : e = 9
  · subst h; kernel_rfl
  refine (congrArg Pk.len (dif_neg h)).trans ?_; clear h
  by_cases h : e = 25
  · subst h; kernel_rfl
  refine (congrArg Pk.len (dif_neg h)).trans ?_; clear h
  by_cases h : e = 29
  · subst h; kernel_rfl
  refine (congrArg Pk.len (dif_neg h)).trans ?_; clear h
  by_cases h : e = 37
  · subst h; kernel_rfl
  refine (congrArg Pk.len (dif_neg h)).trans ?_; clear h
  by_cases h : e = 56
  · subst h; kernel_rfl
  refine (congrArg Pk.len (dif_neg h)).trans ?_; clear h
  by_cases h : e = 58
  · subst h; kernel_rfl
  refine (congrArg Pk.len (dif_neg h)).trans ?_; clear h
  by_cases h : e = 103
  · subst h; kernel_rfl
  refine (congrArg Pk.len (dif_neg h)).trans ?_; clear h
  by_cases h : e = 105
  · subst h; kernel_rfl
  refine (congrArg Pk.len (dif_neg h)).trans ?_; clear h
  by_cases h : e = 107
  · subst h; kernel_rfl
  refine (congrArg Pk.len (dif_neg h)).trans ?_; clear h
  by_cases h : e = 125
  · subst h; kernel_rfl
  refine (congrArg Pk.len (dif_neg h)).trans ?_; clear h
  by_cases h : e = 128
  · subst h; kernel_rfl
  refine (congrArg Pk.len (dif_neg h)).trans ?_; clear h
  by_cases h : e = 188
  · subst h; kernel_rfl
  refine (congrArg Pk.len (dif_neg h)).trans ?_; clear h
  exact Pk.no_len _
def plain : Nat → Bool := fun t => mem t []
def byt (e : Nat) (s : ByteArray) : Option (List (S e)) := if h : e = 5 then some (h ▸ (ub8 s : List Int)) else none
theorem x24 : ∀ e s l, byt e s = some l → Tryz.prog.underlying e = some (.int .u8) ∧ Tryz.prog.cellsOf e = 1 ∧ l.length = s.size ∧ ∀ i x, l[i]? = some x → (pk e).wt x = [.v (.int .u8 ((s.data.toList.getD i 0).toNat : Int))] := by
  intro e s l h
  unfold byt at h
  split at h
  · rename_i he; subst he; obtain rfl := Option.some.inj h
    exact ⟨by kernel_rfl, by kernel_rfl, (vj0 s).1, fun i x hx => by rw [(vj0 s).2 i x hx]; kernel_rfl⟩
  cases h
def x35 : List Int := [1, 10, 100, 1000, 10000, 100000, 1000000, 10000000, 100000000, 1000000000, 10000000000, 100000000000, 1000000000000, 10000000000000, 100000000000000, 1000000000000000, 10000000000000000, 100000000000000000, 1000000000000000000, 10000000000000000000]
def x36 : List Int := [0, 1, 28, 2, 29, 14, 24, 3, 30, 22, 20, 15, 25, 17, 4, 8, 31, 27, 13, 23, 21, 19, 16, 7, 26, 12, 18, 6, 11, 5, 10, 9]
def x37 : List Int := [0, 1, 56, 2, 57, 49, 28, 3, 61, 58, 42, 50, 38, 29, 17, 4, 62, 47, 59, 36, 45, 43, 51, 22, 53, 39, 33, 30, 24, 18, 12, 5, 63, 55, 48, 27, 60, 41, 37, 16, 46, 35, 44, 21, 52, 32, 23, 11, 54, 26, 40, 15, 34, 20, 31, 10, 25, 14, 19, 9, 13, 8, 7, 6]
def w45 : Nat → Option (AV S)
 | 3 => some (.ar 188 x35)
 | 4 => some (.ar 5 x36)
 | 5 => some (.ar 5 x37)
 | _ => none
theorem xt4 : ∀ g x, w45 g = some x → idsV x = [] := by
 intro g x h
 unfold w45 at h
 split at h <;> first | (cases h; done) | (obtain rfl := Option.some.inj h; rfl)
def nums : (e : Nat) → List (S e) → Option (List Int)
 | 5, l => some l
 | _, _ => none
theorem xU8 : ∀ e l xs, nums e l = some xs → Tryz.prog.underlying e = some (.int .u8) ∧ xs.length = l.length ∧ ∀ (i : Nat) x n, l[i]? = some x → xs[i]? = some n → (pk e).wt x = [.v (.int .u8 n)] := by
  intro e l xs h
  unfold nums at h
  split at h
  · obtain rfl := Option.some.inj h
    exact ⟨by kernel_rfl, rfl, fun i x n hx hn => by obtain rfl : x = n := Option.some.inj (hx.symm.trans hn); kernel_rfl⟩
  · cases h
def held : Nat → Option (String × Array Value)
 | 3 => some ("internal/strconv.uint64pow10", (Go.Lib.pow10Tab.map fun z => Value.int .u64 z).toArray)
 | _ => none
def ro : Nat → Bool := fun f => mem f [113, 123, 161, 178]
def rc : Nat → List Nat
 | _ => []
def fr : Nat → Bool := fun f => mem f []
def flat : Nat → Bool := fun e => mem e []
def lk : Nat → Nat → Option Nat
 | 125, 2 => some 105
 | 128, 1 => some 125
 | _, _ => none
theorem x89 : ∀ e j e1, lk e j = some e1 → ∀ y l, ((pk e).rd (((pk e).wt y).set j (.sl e1 l false))).isSome = true := by
  intro e j e1 h
  unfold lk at h
  split at h
  · obtain rfl := Option.some.inj h; exact fun y l => by kernel_rfl
  · obtain rfl := Option.some.inj h; exact fun y l => by kernel_rfl
  · cases h
noncomputable abbrev E : Env := x41 Tryz.prog S pk w45 plain byt nums held ro rc fr flat lk
theorem E_ok : E.Ok := xD0 x48 (by kernel_rfl) xt4 (fun t h => by cases h) x24 xU8 (fun e h => by cases h) x89
def ur0 : Con E := wW6 E 128
theorem ut3 : ur0.Ok := wz5 (fn := Tryz.f128) (by kernel_rfl) (by kernel_rfl) (by kernel_rfl) (g := 3) rfl (fun n w h0 h1 ht => Tryz.strconv_Itoa n h0 h1 w ht)
def ur1 : Con E := wW7 E 136 9 uN1
theorem ut4 : ur1.Ok := wz6 (fn := Tryz.f136) (by kernel_rfl) (by kernel_rfl) (by kernel_rfl) (fun x => x) (fun _ => rfl) (by kernel_rfl) (fun p u => congrArg (fun l => uN1 (l, p.2) u) (List.map_id' p.1).symm) (fun a c sep w => Tryz.strings_Join_none a c sep w) (fun bk o c xs sep w => Tryz.strings_Join bk o c xs sep w)
def ue4 : Con E := uw7 E 189
theorem ui2 : ue4.Ok := uE2 189 (fn := Tryz.f189) (by kernel_rfl) (by kernel_rfl) (by kernel_rfl) (by kernel_rfl) (by kernel_rfl)
def base : Spec E.S := (Con.add ue4 (Con.add ur1 (Con.add ur0 ub0)))
theorem x87 : ua9 E base := (Con.add_ok ui2 (Con.add_ok ut4 (Con.add_ok ut3 ua7)))
inductive P_z0 where
 | start
def wj2 : P_z0 → List Bool
 | .start => []
def x68 : P_z0 → St E.S
 | .start => st0 24 [] []
abbrev R_z0 : Type := (((List ua2) × Unit) × Unit)
def vL2 : Res E ((List ua2) × Unit) Unit := { rows := [], flat := [], keep := 0, done := [0], rl := (.cons (Rd.sl 103 true) .nil), rb := .nil }
def u16 : P_z0 → Option R_z0
 | .start =>
  some ((([(⟨(⟨#[77, 97, 121, 98, 101]⟩ : ByteArray), ([(⟨#[97]⟩ : ByteArray)] : List ByteArray), ([(⟨(⟨#[78, 111, 110, 101]⟩ : ByteArray), []⟩ : ua0), (⟨(⟨#[83, 111, 109, 101]⟩ : ByteArray), ([(⟨(⟨#[118, 97, 108, 117, 101]⟩ : ByteArray), (⟨(0 : Int), (0 : Int), (⟨#[97]⟩ : ByteArray), []⟩ : ua1)⟩ : ua6)] : List ua6)⟩ : ua0)] : List ua0)⟩ : ua2), (⟨(⟨#[80, 97, 105, 114]⟩ : ByteArray), ([(⟨#[97]⟩ : ByteArray), (⟨#[98]⟩ : ByteArray)] : List ByteArray), ([(⟨(⟨#[80, 97, 105, 114]⟩ : ByteArray), ([(⟨(⟨#[108, 101, 102, 116]⟩ : ByteArray), (⟨(0 : Int), (0 : Int), (⟨#[97]⟩ : ByteArray), []⟩ : ua1)⟩ : ua6), (⟨(⟨#[114, 105, 103, 104, 116]⟩ : ByteArray), (⟨(0 : Int), (0 : Int), (⟨#[98]⟩ : ByteArray), []⟩ : ua1)⟩ : ua6)] : List ua6)⟩ : ua0)] : List ua0)⟩ : ua2), (⟨(⟨#[67, 111, 108, 111, 114]⟩ : ByteArray), [], ([(⟨(⟨#[82, 101, 100]⟩ : ByteArray), []⟩ : ua0), (⟨(⟨#[71, 114, 101, 101, 110]⟩ : ByteArray), []⟩ : ua0), (⟨(⟨#[66, 108, 117, 101]⟩ : ByteArray), []⟩ : ua0)] : List ua0)⟩ : ua2)] : List ua2), ()), ())
def xL9 : List (Plc E P_z0) := []
theorem xe6 : All (ub7 24 0 wj2 x68) xL9 := trivial
def wV8 : Code := Tryz.f57.body.getD .skip
def xa7 : Spec E.S := ub0
theorem wK1 : ua9 E xa7 := ua7
theorem xS9 : ∀ pt r, u16 pt = some r → Good E Tryz.f57 wV8 0 (vL2.av r) (vL2.bx r) (wj2 pt) (x68 pt) := by
 intro pt r hr
 cases pt <;> exact ua8 (spec := xa7) (wr := (mkWr [] [])) (l := xL9) (z := 24) (p := vL2) (run' := fun _ => none) E_ok xe6.mem rfl wK1 (fun _ _ h => by cases h) (Eq.trans (by kernel_rfl) hr)
def xG7 : Con E := ⟨57, _, _, .nil, .nil, 0, R_z0, fun a b => u16 (.start), vL2.av, vL2.bx⟩
theorem wW9 : xG7.Ok := fun a b r h => ub2 (fn := Tryz.f57) (code := wV8) E_ok (by kernel_rfl) (by kernel_rfl) (by kernel_rfl) (Nat.le_of_ble_eq_true rfl) (xS9 (.start) r h)
inductive P_z1 where
 | start (n0 : Int)
def wj3 : P_z1 → List Bool
 | .start .. => []
def x69 : P_z1 → St E.S
 | .start n0 => st0 5 [.v (.int .i64 n0)] []
abbrev R_z1 : Type := (((Int × (Int × (ByteArray × (Unit × Unit)))) × Unit) × Unit)
def vL3 : Res E ((Int × (Int × (ByteArray × (Unit × Unit)))) × Unit) Unit := { rows := [], flat := [], keep := 0, done := [0], rl := (.cons (Rd.agg (.cons (Rd.int .i64) (.cons (Rd.int .i64) (.cons Rd.str (.cons Rd.nl .nil))))) .nil), rb := .nil }
def vM1 : P_z1 → Option R_z1
 | .start n0 =>
  some ((((2 : Int), (n0, ((⟨#[]⟩ : ByteArray), ((), ())))), ()), ())
def xM0 : List (Plc E P_z1) := []
theorem xf7 : All (ub7 5 0 wj3 x69) xM0 := trivial
def wV9 : Code := Tryz.f101.body.getD .skip
def xa8 : Spec E.S := ub0
theorem wK2 : ua9 E xa8 := ua7
theorem xT0 : ∀ pt r, vM1 pt = some r → Good E Tryz.f101 wV9 0 (vL3.av r) (vL3.bx r) (wj3 pt) (x69 pt) := by
 intro pt r hr
 cases pt <;> exact ua8 (spec := xa8) (wr := (mkWr [] [])) (l := xM0) (z := 5) (p := vL3) (run' := fun _ => none) E_ok xf7.mem rfl wK2 (fun _ _ h => by cases h) (Eq.trans (by kernel_rfl) hr)
def xG8 : Con E := ⟨101, _, _, (.cons (Rd.int .i64).w .nil), .nil, 0, R_z1, fun a b => vM1 (.start a.1), vL3.av, vL3.bx⟩
theorem wX6 : xG8.Ok := fun a b r h => ub2 (fn := Tryz.f101) (code := wV9) E_ok (by kernel_rfl) (by kernel_rfl) (by kernel_rfl) (Nat.le_of_ble_eq_true rfl) (xT0 (.start a.1) r h)
inductive P_z2 where
 | start (name0 : ByteArray) (parts1 : (List ua1))
def wj4 : P_z2 → List Bool
 | .start .. => []
def x70 : P_z2 → St E.S
 | .start name0 parts1 => st0 8 [.v (.string name0), .sl 25 parts1 false] []
abbrev R_z2 : Type := (((Int × (Int × (ByteArray × ((List ua1) × Unit)))) × Unit) × Unit)
def vL4 : Res E ((Int × (Int × (ByteArray × ((List ua1) × Unit)))) × Unit) Unit := { rows := [], flat := [], keep := 0, done := [0], rl := (.cons (Rd.agg (.cons (Rd.int .i64) (.cons (Rd.int .i64) (.cons Rd.str (.cons (Rd.sl 25 false) .nil))))) .nil), rb := .nil }
def uD7 : P_z2 → Option R_z2
 | .start name0 parts1 =>
  some ((((1 : Int), ((0 : Int), (name0, (parts1, ())))), ()), ())
def xM1 : List (Plc E P_z2) := []
theorem xg8 : All (ub7 8 0 wj4 x70) xM1 := trivial
def wW0 : Code := Tryz.f58.body.getD .skip
def xa9 : Spec E.S := ub0
theorem wK3 : ua9 E xa9 := ua7
theorem xT1 : ∀ pt r, uD7 pt = some r → Good E Tryz.f58 wW0 0 (vL4.av r) (vL4.bx r) (wj4 pt) (x70 pt) := by
 intro pt r hr
 cases pt <;> exact ua8 (spec := xa9) (wr := (mkWr [] [])) (l := xM1) (z := 8) (p := vL4) (run' := fun _ => none) E_ok xg8.mem rfl wK3 (fun _ _ h => by cases h) (Eq.trans (by kernel_rfl) hr)
def wX7 : Con E := ⟨58, _, _, (.cons Rd.str.w (.cons (Rw.sl 25) .nil)), .nil, 0, R_z2, fun a b => uD7 (.start a.1 a.2.1), vL4.av, vL4.bx⟩
theorem vE6 : wX7.Ok := fun a b r h => ub2 (fn := Tryz.f58) (code := wW0) E_ok (by kernel_rfl) (by kernel_rfl) (by kernel_rfl) (Nat.le_of_ble_eq_true rfl) (xT1 (.start a.1 a.2.1) r h)
inductive P_z3 where
 | start (n0 : Int)
def wj5 : P_z3 → List Bool
 | .start .. => []
def x71 : P_z3 → St E.S
 | .start n0 => st0 7 [.v (.int .i64 n0)] []
abbrev R_z3 : Type := (((Int × (Int × (ByteArray × ((List ua1) × Unit)))) × Unit) × Unit)
def vL5 : Res E ((Int × (Int × (ByteArray × ((List ua1) × Unit)))) × Unit) Unit := { rows := [], flat := [], keep := 0, done := [0], rl := (.cons (Rd.agg (.cons (Rd.int .i64) (.cons (Rd.int .i64) (.cons Rd.str (.cons (Rd.sl 25 false) .nil))))) .nil), rb := .nil }
def vg4 : P_z3 → Option R_z3
 | .start n0 =>
  (vM1 (.start n0)) >>= fun t1 =>
  (uD7 (.start (⟨#[66, 105, 116]⟩ : ByteArray) ([(⟨t1.1.1.1, t1.1.1.2.1, t1.1.1.2.2.1, []⟩ : ua1)] : List ua1))) >>= fun t2 =>
  some (((t2.1.1.1, (t2.1.1.2.1, (t2.1.1.2.2.1, (t2.1.1.2.2.2.1, ())))), ()), ())
def xM2 : List (Plc E P_z3) := []
theorem xh9 : All (ub7 7 0 wj5 x71) xM2 := trivial
def wW1 : Code := Tryz.f59.body.getD .skip
def xb0 : Spec E.S := (Con.add wX7 (Con.add xG8 ub0))
theorem wK4 : ua9 E xb0 := (Con.add_ok vE6 (Con.add_ok wX6 ua7))
theorem xT2 : ∀ pt r, vg4 pt = some r → Good E Tryz.f59 wW1 0 (vL5.av r) (vL5.bx r) (wj5 pt) (x71 pt) := by
 intro pt r hr
 cases pt <;> exact ua8 (spec := xb0) (wr := (mkWr [] [])) (l := xM2) (z := 7) (p := vL5) (run' := fun _ => none) E_ok xh9.mem rfl wK4 (fun _ _ h => by cases h) (Eq.trans (by kernel_rfl) hr)
def xG9 : Con E := ⟨59, _, _, (.cons (Rd.int .i64).w .nil), .nil, 0, R_z3, fun a b => vg4 (.start a.1), vL5.av, vL5.bx⟩
theorem wZ1 : xG9.Ok := fun a b r h => ub2 (fn := Tryz.f59) (code := wW1) E_ok (by kernel_rfl) (by kernel_rfl) (by kernel_rfl) (Nat.le_of_ble_eq_true rfl) (xT2 (.start a.1) r h)
inductive P_z4 where
 | start (s0 : (List ByteArray))
def wj6 : P_z4 → List Bool
 | .start .. => []
def x72 : P_z4 → St E.S
 | .start s0 => st0 9 [.sl 9 s0 false] []
abbrev R_z4 : Type := (((List ByteArray) × Unit) × Unit)
def vL6 : Res E ((List ByteArray) × Unit) Unit := { rows := [], flat := [], keep := 0, done := [0], rl := (.cons (Rd.sl 9 true) .nil), rb := .nil }
def uM0 : P_z4 → Option R_z4
 | .start s0 =>
  (bif decide ((List.length s0 : Int) = (List.length s0 : Int)) then span (List.length s0) (0 : Int) (List.length s0 : Int) else none) >>= fun t1 =>
  some ((cut s0 t1, ()), ())
def xM3 : List (Plc E P_z4) := []
theorem xj0 : All (ub7 9 0 wj6 x72) xM3 := trivial
def wW2 : Code := Tryz.f78.body.getD .skip
def xb1 : Spec E.S := ub0
theorem wK5 : ua9 E xb1 := ua7
theorem xT3 : ∀ pt r, uM0 pt = some r → Good E Tryz.f78 wW2 0 (vL6.av r) (vL6.bx r) (wj6 pt) (x72 pt) := by
 intro pt r hr
 cases pt <;> exact ua8 (spec := xb1) (wr := (mkWr [] [])) (l := xM3) (z := 9) (p := vL6) (run' := fun _ => none) E_ok xj0.mem rfl wK5 (fun _ _ h => by cases h) (Eq.trans (by kernel_rfl) hr)
def wZ2 : Con E := ⟨78, _, _, (.cons (Rw.sl 9) .nil), .nil, 0, R_z4, fun a b => uM0 (.start a.1), vL6.av, vL6.bx⟩
theorem vE7 : wZ2.Ok := fun a b r h => ub2 (fn := Tryz.f78) (code := wW2) E_ok (by kernel_rfl) (by kernel_rfl) (by kernel_rfl) (Nat.le_of_ble_eq_true rfl) (xT3 (.start a.1) r h)
inductive P_z5 where
 | start (n0 : Int) (lo1 : Int) (hi2 : Int)
def wj7 : P_z5 → List Bool
 | .start .. => []
def x73 : P_z5 → St E.S
 | .start n0 lo1 hi2 => st0 15 [.v (.int .i64 n0), .v (.int .i64 lo1), .v (.int .i64 hi2)] []
abbrev R_z5 : Type := ((Bool × Unit) × Unit)
def vL7 : Res E (Bool × Unit) Unit := { rows := [], flat := [], keep := 0, done := [0], rl := (.cons Rd.bool .nil), rb := .nil }
def uk1 : P_z5 → Option R_z5
 | .start n0 lo1 hi2 =>
  if (decide (lo1 ≤ n0)) = true then
   some ((decide (n0 ≤ hi2), ()), ())
  else
   some ((false, ()), ())
def xM4 : List (Plc E P_z5) := []
theorem xk1 : All (ub7 15 0 wj7 x73) xM4 := trivial
def wW3 : Code := Tryz.f70.body.getD .skip
def xb2 : Spec E.S := ub0
theorem wK6 : ua9 E xb2 := ua7
theorem xT4 : ∀ pt r, uk1 pt = some r → Good E Tryz.f70 wW3 0 (vL7.av r) (vL7.bx r) (wj7 pt) (x73 pt) := by
 intro pt r hr
 cases pt <;> exact ua8 (spec := xb2) (wr := (mkWr [] [])) (l := xM4) (z := 15) (p := vL7) (run' := fun _ => none) E_ok xk1.mem rfl wK6 (fun _ _ h => by cases h) (Eq.trans (by kernel_rfl) hr)
def uR8 : Con E := ⟨70, _, _, (.cons (Rd.int .i64).w (.cons (Rd.int .i64).w (.cons (Rd.int .i64).w .nil))), .nil, 0, R_z5, fun a b => uk1 (.start a.1 a.2.1 a.2.2.1), vL7.av, vL7.bx⟩
theorem uq3 : uR8.Ok := fun a b r h => ub2 (fn := Tryz.f70) (code := wW3) E_ok (by kernel_rfl) (by kernel_rfl) (by kernel_rfl) (Nat.le_of_ble_eq_true rfl) (xT4 (.start a.1 a.2.1 a.2.2.1) r h)
inductive P_z6 where
 | start (s0 : ByteArray)
 | p52 (s0 : ByteArray) (s7 : (List Int)) (s8 : Int) (s9 : Int)
 | p3379 (s0 : ByteArray) (i3 : Int) (c4 : Int) (letter5 : Bool) (s7 : (List Int)) (s8 : Int) (s9 : Int)
def vx5 : P_z6 → List Bool
 | .start .. => []
 | .p52 .. => [false, false, true, false, true]
 | .p3379 .. => [true, true, false, false, true, true, false, false, true, false, true]
def xX9 : P_z6 → St E.S
 | .start s0 => st0 50 [.v (.string s0)] []
 | .p52 s0 s7 s8 s9 => mkSt 50 [0, 7, 8, 9] [.v (.string s0), .sl 5 s7 false, .v (.int .i64 s8), .v (.int .i64 s9)] []
 | .p3379 s0 i3 c4 letter5 s7 s8 s9 => mkSt 50 [0, 3, 4, 5, 7, 8, 9] [.v (.string s0), .v (.int .i64 i3), .v (.int .u8 c4), .v (.bool letter5), .sl 5 s7 false, .v (.int .i64 s8), .v (.int .i64 s9)] []
abbrev R_z6 : Type := ((Bool × Unit) × Unit)
def vd8 : Res E (Bool × Unit) Unit := { rows := [], flat := [], keep := 0, done := [0], rl := (.cons Rd.bool .nil), rb := .nil }
def uf9 : P_z6 → Option R_z6
 | .start s0 =>
  uf9 (.p52 s0 (ub8 s0) (List.length (ub8 s0) : Int) (0 : Int))
 | .p52 s0 s7 s8 s9 =>
  if (decide (s9 < s8)) = true then
   (idx s7 s9) >>= fun t1 =>
   if (decide ((97 : Int) ≤ t1)) = true then
    if (decide (t1 ≤ (122 : Int))) = true then
     uf9 (.p3379 s0 s9 t1 true s7 s8 s9)
    else
     if (decide ((65 : Int) ≤ t1)) = true then
      uf9 (.p3379 s0 s9 t1 (decide (t1 ≤ (90 : Int))) s7 s8 s9)
     else
      uf9 (.p3379 s0 s9 t1 false s7 s8 s9)
   else
    if (decide ((65 : Int) ≤ t1)) = true then
     uf9 (.p3379 s0 s9 t1 (decide (t1 ≤ (90 : Int))) s7 s8 s9)
    else
     uf9 (.p3379 s0 s9 t1 false s7 s8 s9)
  else
   (uk1 (.start (s0.size : Int) (1 : Int) (16 : Int))) >>= fun t2 =>
   some ((t2.1.1, ()), ())
 | .p3379 s0 i3 c4 letter5 s7 s8 s9 =>
  if (!letter5) = true then
   if (i3 == (0 : Int)) = true then
    some ((false, ()), ())
   else
    if (c4 != (95 : Int)) = true then
     if (decide (c4 < (48 : Int))) = true then
      some ((false, ()), ())
     else
      if (decide (c4 > (57 : Int))) = true then
       some ((false, ()), ())
      else
       uf9 (.p52 s0 s7 s8 (IntKind.wrap .i64 (s9 + (1 : Int))))
    else
     uf9 (.p52 s0 s7 s8 (IntKind.wrap .i64 (s9 + (1 : Int))))
  else
   uf9 (.p52 s0 s7 s8 (IntKind.wrap .i64 (s9 + (1 : Int))))
 partial_fixpoint
def xM5 : List (Plc E P_z6) := [⟨52, [false, false, true, false, true], { slots := [0, 7, 8, 9], rows := [], flat := [], keep := 0 }, _, _, (.cons Rd.str (.cons (Rd.sl 5 false) (.cons (Rd.int .i64) (.cons (Rd.int .i64) .nil)))), .nil, fun a b => .p52 a.1 a.2.1 a.2.2.1 a.2.2.2.1⟩,
 ⟨3379, [true, true, false, false, true, true, false, false, true, false, true], { slots := [0, 3, 4, 5, 7, 8, 9], rows := [], flat := [], keep := 0 }, _, _, (.cons Rd.str (.cons (Rd.int .i64) (.cons (Rd.int .u8) (.cons Rd.bool (.cons (Rd.sl 5 false) (.cons (Rd.int .i64) (.cons (Rd.int .i64) .nil))))))), .nil, fun a b => .p3379 a.1 a.2.1 a.2.2.1 a.2.2.2.1 a.2.2.2.2.1 a.2.2.2.2.2.1 a.2.2.2.2.2.2.1⟩]
theorem xl2 : All (ub7 50 0 vx5 xX9) xM5 := ⟨⟨rfl, rfl, fun _ _ => rfl, fun _ _ => rfl⟩, ⟨⟨rfl, rfl, fun _ _ => rfl, fun _ _ => rfl⟩, trivial⟩⟩
def vR2 : Code := Tryz.f129.body.getD .skip
def xb3 : Spec E.S := (Con.add uR8 ub0)
theorem wK7 : ua9 E xb3 := (Con.add_ok uq3 ua7)
theorem xT5 : ∀ pt r, uf9 pt = some r → Good E Tryz.f129 vR2 0 (vd8.av r) (vd8.bx r) (vx5 pt) (xX9 pt) := by
 refine uf9.partial_correctness (fun pt r => Good E Tryz.f129 vR2 0 (vd8.av r) (vd8.bx r) (vx5 pt) (xX9 pt)) ?_
 intro run' ih pt r hr
 cases pt <;> exact ua8 (spec := xb3) (wr := (mkWr [] [])) (l := xM5) (z := 50) (p := vd8) E_ok xl2.mem rfl wK7 ih (Eq.trans (by kernel_rfl) hr)
def w06 : Con E := ⟨129, _, _, (.cons Rd.str.w .nil), .nil, 0, R_z6, fun a b => uf9 (.start a.1), vd8.av, vd8.bx⟩
theorem vE8 : w06.Ok := fun a b r h => ub2 (fn := Tryz.f129) (code := vR2) E_ok (by kernel_rfl) (by kernel_rfl) (by kernel_rfl) (Nat.le_of_ble_eq_true rfl) (xT5 (.start a.1) r h)
inductive P_z7 where
 | start (is0 : Bool) (e1 : Int)
def wj8 : P_z7 → List Bool
 | .start .. => []
def x74 : P_z7 → St E.S
 | .start is0 e1 => st0 7 [.v (.bool is0), .v (.int .i64 e1)] []
abbrev R_z7 : Type := ((Int × Unit) × Unit)
def vL8 : Res E (Int × Unit) Unit := { rows := [], flat := [], keep := 0, done := [0], rl := (.cons (Rd.int .i64) .nil), rb := .nil }
def uc4 : P_z7 → Option R_z7
 | .start is0 e1 =>
  if is0 = true then
   some (((0 : Int), ()), ())
  else
   some ((e1, ()), ())
def xM6 : List (Plc E P_z7) := []
theorem xm3 : All (ub7 7 0 wj8 x74) xM6 := trivial
def wW4 : Code := Tryz.f111.body.getD .skip
def xb4 : Spec E.S := ub0
theorem wK8 : ua9 E xb4 := ua7
theorem xT6 : ∀ pt r, uc4 pt = some r → Good E Tryz.f111 wW4 0 (vL8.av r) (vL8.bx r) (wj8 pt) (x74 pt) := by
 intro pt r hr
 cases pt <;> exact ua8 (spec := xb4) (wr := (mkWr [] [])) (l := xM6) (z := 7) (p := vL8) (run' := fun _ => none) E_ok xm3.mem rfl wK8 (fun _ _ h => by cases h) (Eq.trans (by kernel_rfl) hr)
def uR9 : Con E := ⟨111, _, _, (.cons Rd.bool.w (.cons (Rd.int .i64).w .nil)), .nil, 0, R_z7, fun a b => uc4 (.start a.1 a.2.1), vL8.av, vL8.bx⟩
theorem uq4 : uR9.Ok := fun a b r h => ub2 (fn := Tryz.f111) (code := wW4) E_ok (by kernel_rfl) (by kernel_rfl) (by kernel_rfl) (Nat.le_of_ble_eq_true rfl) (xT6 (.start a.1 a.2.1) r h)
inductive P_z8 where
 | start (s0 : (List ByteArray)) (v1 : ByteArray)
 | p52 (s0 : (List ByteArray)) (v1 : ByteArray) (s7 : Int) (s8 : Int)
def vx6 : P_z8 → List Bool
 | .start .. => []
 | .p52 .. => [false, false, true, false, true]
def xY0 : P_z8 → St E.S
 | .start s0 v1 => st0 19 [.sl 9 s0 false, .v (.string v1)] []
 | .p52 s0 v1 s7 s8 => mkSt 19 [0, 1, 7, 8] [.sl 9 s0 false, .v (.string v1), .v (.int .i64 s7), .v (.int .i64 s8)] []
abbrev R_z8 : Type := ((Int × Unit) × Unit)
def ve4 : Res E (Int × Unit) Unit := { rows := [], flat := [], keep := 0, done := [0], rl := (.cons (Rd.int .i64) .nil), rb := .nil }
def uv0 : P_z8 → Option R_z8
 | .start s0 v1 =>
  uv0 (.p52 s0 v1 (List.length s0 : Int) (0 : Int))
 | .p52 s0 v1 s7 s8 =>
  if (decide (s8 < s7)) = true then
   (idx s0 s8) >>= fun t1 =>
   if (seq v1 t1) = true then
    some ((s8, ()), ())
   else
    uv0 (.p52 s0 v1 s7 (IntKind.wrap .i64 (s8 + (1 : Int))))
  else
   some (((-1 : Int), ()), ())
 partial_fixpoint
def xM7 : List (Plc E P_z8) := [⟨52, [false, false, true, false, true], { slots := [0, 1, 7, 8], rows := [], flat := [], keep := 0 }, _, _, (.cons (Rd.sl 9 false) (.cons Rd.str (.cons (Rd.int .i64) (.cons (Rd.int .i64) .nil)))), .nil, fun a b => .p52 a.1 a.2.1 a.2.2.1 a.2.2.2.1⟩]
theorem xn4 : All (ub7 19 0 vx6 xY0) xM7 := ⟨⟨rfl, rfl, fun _ _ => rfl, fun _ _ => rfl⟩, trivial⟩
def vR3 : Code := Tryz.f163.body.getD .skip
def xb5 : Spec E.S := ub0
theorem wK9 : ua9 E xb5 := ua7
theorem xT7 : ∀ pt r, uv0 pt = some r → Good E Tryz.f163 vR3 0 (ve4.av r) (ve4.bx r) (vx6 pt) (xY0 pt) := by
 refine uv0.partial_correctness (fun pt r => Good E Tryz.f163 vR3 0 (ve4.av r) (ve4.bx r) (vx6 pt) (xY0 pt)) ?_
 intro run' ih pt r hr
 cases pt <;> exact ua8 (spec := xb5) (wr := (mkWr [] [])) (l := xM7) (z := 19) (p := ve4) E_ok xn4.mem rfl wK9 ih (Eq.trans (by kernel_rfl) hr)
def w21 : Con E := ⟨163, _, _, (.cons (Rw.sl 9) (.cons Rd.str.w .nil)), .nil, 0, R_z8, fun a b => uv0 (.start a.1 a.2.1), ve4.av, ve4.bx⟩
theorem vE9 : w21.Ok := fun a b r h => ub2 (fn := Tryz.f163) (code := vR3) E_ok (by kernel_rfl) (by kernel_rfl) (by kernel_rfl) (Nat.le_of_ble_eq_true rfl) (xT7 (.start a.1 a.2.1) r h)
inductive P_z9 where
 | start (s0 : (List ByteArray)) (v1 : ByteArray)
def wj9 : P_z9 → List Bool
 | .start .. => []
def x75 : P_z9 → St E.S
 | .start s0 v1 => st0 9 [.sl 9 s0 false, .v (.string v1)] []
abbrev R_z9 : Type := ((Bool × Unit) × Unit)
def vL9 : Res E (Bool × Unit) Unit := { rows := [], flat := [], keep := 0, done := [0], rl := (.cons Rd.bool .nil), rb := .nil }
def u17 : P_z9 → Option R_z9
 | .start s0 v1 =>
  (uv0 (.start s0 v1)) >>= fun t1 =>
  some ((decide (t1.1.1 ≥ (0 : Int)), ()), ())
def xM8 : List (Plc E P_z9) := []
theorem xo5 : All (ub7 9 0 wj9 x75) xM8 := trivial
def wW5 : Code := Tryz.f144.body.getD .skip
def xb6 : Spec E.S := (Con.add w21 ub0)
theorem wL0 : ua9 E xb6 := (Con.add_ok vE9 ua7)
theorem xT8 : ∀ pt r, u17 pt = some r → Good E Tryz.f144 wW5 0 (vL9.av r) (vL9.bx r) (wj9 pt) (x75 pt) := by
 intro pt r hr
 cases pt <;> exact ua8 (spec := xb6) (wr := (mkWr [] [])) (l := xM8) (z := 9) (p := vL9) (run' := fun _ => none) E_ok xo5.mem rfl wL0 (fun _ _ h => by cases h) (Eq.trans (by kernel_rfl) hr)
def w28 : Con E := ⟨144, _, _, (.cons (Rw.sl 9) (.cons Rd.str.w .nil)), .nil, 0, R_z9, fun a b => u17 (.start a.1 a.2.1), vL9.av, vL9.bx⟩
theorem vF0 : w28.Ok := fun a b r h => ub2 (fn := Tryz.f144) (code := wW5) E_ok (by kernel_rfl) (by kernel_rfl) (by kernel_rfl) (Nat.le_of_ble_eq_true rfl) (xT8 (.start a.1 a.2.1) r h)
inductive wv0 where
 | start (l0 : (List Int))
 | p52 (s5 : (List Int)) (s6 : Int) (s7 : Int)
def u88 : wv0 → List Bool
 | .start .. => []
 | .p52 .. => [false, false, true, false, true]
def xb7 : wv0 → St E.S
 | .start l0 => st0 15 [.sl 29 l0 false] []
 | .p52 s5 s6 s7 => mkSt 15 [5, 6, 7] [.sl 29 s5 false, .v (.int .i64 s6), .v (.int .i64 s7)] []
abbrev xN3 : Type := ((Int × Unit) × Unit)
def uN6 : Res E (Int × Unit) Unit := { rows := [], flat := [], keep := 0, done := [0], rl := (.cons (Rd.int .i64) .nil), rb := .nil }
def uc8 : wv0 → Option xN3
 | .start l0 =>
  uc8 (.p52 l0 (List.length l0 : Int) (0 : Int))
 | .p52 s5 s6 s7 =>
  if (decide (s7 < s6)) = true then
   (idx s5 s7) >>= fun t1 =>
   if (t1 != (0 : Int)) = true then
    some ((t1, ()), ())
   else
    uc8 (.p52 s5 s6 (IntKind.wrap .i64 (s7 + (1 : Int))))
  else
   some (((0 : Int), ()), ())
 partial_fixpoint
def xe7 : List (Plc E wv0) := [⟨52, [false, false, true, false, true], { slots := [5, 6, 7], rows := [], flat := [], keep := 0 }, _, _, (.cons (Rd.sl 29 false) (.cons (Rd.int .i64) (.cons (Rd.int .i64) .nil))), .nil, fun a b => .p52 a.1 a.2.1 a.2.2.1⟩]
theorem wL2 : All (ub7 15 0 u88 xb7) xe7 := ⟨⟨rfl, rfl, fun _ _ => rfl, fun _ _ => rfl⟩, trivial⟩
def vt1 : Code := Tryz.f69.body.getD .skip
def wk7 : Spec E.S := ub0
theorem v12 : ua9 E wk7 := ua7
theorem xt5 : ∀ pt r, uc8 pt = some r → Good E Tryz.f69 vt1 0 (uN6.av r) (uN6.bx r) (u88 pt) (xb7 pt) := by
 refine uc8.partial_correctness (fun pt r => Good E Tryz.f69 vt1 0 (uN6.av r) (uN6.bx r) (u88 pt) (xb7 pt)) ?_
 intro run' ih pt r hr
 cases pt <;> exact ua8 (spec := wk7) (wr := (mkWr [] [])) (l := xe7) (z := 15) (p := uN6) E_ok wL2.mem rfl v12 ih (Eq.trans (by kernel_rfl) hr)
def uE3 : Con E := ⟨69, _, _, (.cons (Rw.sl 29) .nil), .nil, 0, xN3, fun a b => uc8 (.start a.1), uN6.av, uN6.bx⟩
theorem un4 : uE3.Ok := fun a b r h => ub2 (fn := Tryz.f69) (code := vt1) E_ok (by kernel_rfl) (by kernel_rfl) (by kernel_rfl) (Nat.le_of_ble_eq_true rfl) (xt5 (.start a.1) r h)
inductive wv1 where
 | start (name0 : ByteArray) (known1 : (List ByteArray))
def vH3 : wv1 → List Bool
 | .start .. => []
def xI4 : wv1 → St E.S
 | .start name0 known1 => st0 15 [.v (.string name0), .sl 9 known1 false] []
abbrev xN4 : Type := ((Int × Unit) × Unit)
def vb6 : Res E (Int × Unit) Unit := { rows := [], flat := [], keep := 0, done := [0], rl := (.cons (Rd.int .i64) .nil), rb := .nil }
def ux6 : wv1 → Option xN4
 | .start name0 known1 =>
  (uf9 (.start name0)) >>= fun t1 =>
  (uc4 (.start t1.1.1 (4 : Int))) >>= fun t2 =>
  (u17 (.start known1 name0)) >>= fun t3 =>
  (uc4 (.start (!t3.1.1) (5 : Int))) >>= fun t4 =>
  (uc8 (.start ([t2.1.1, t4.1.1] : List Int))) >>= fun t5 =>
  some ((t5.1.1, ()), ())
def xe8 : List (Plc E wv1) := []
theorem wL3 : All (ub7 15 0 vH3 xI4) xe8 := trivial
def we1 : Code := Tryz.f110.body.getD .skip
def wk8 : Spec E.S := (Con.add uE3 (Con.add w28 (Con.add uR9 (Con.add w06 ub0))))
theorem v13 : ua9 E wk8 := (Con.add_ok un4 (Con.add_ok vF0 (Con.add_ok uq4 (Con.add_ok vE8 ua7))))
theorem xt6 : ∀ pt r, ux6 pt = some r → Good E Tryz.f110 we1 0 (vb6.av r) (vb6.bx r) (vH3 pt) (xI4 pt) := by
 intro pt r hr
 cases pt <;> exact ua8 (spec := wk8) (wr := (mkWr [] [])) (l := xe8) (z := 15) (p := vb6) (run' := fun _ => none) E_ok wL3.mem rfl v13 (fun _ _ h => by cases h) (Eq.trans (by kernel_rfl) hr)
def u61 : Con E := ⟨110, _, _, (.cons Rd.str.w (.cons (Rw.sl 9) .nil)), .nil, 0, xN4, fun a b => ux6 (.start a.1 a.2.1), vb6.av, vb6.bx⟩
theorem uJ2 : u61.Ok := fun a b r h => ub2 (fn := Tryz.f110) (code := we1) E_ok (by kernel_rfl) (by kernel_rfl) (by kernel_rfl) (Nat.le_of_ble_eq_true rfl) (xt6 (.start a.1 a.2.1) r h)
inductive wv2 where
 | start (i0 : Int) (p1 : ByteArray) (s2 : ua2)
def vH4 : wv2 → List Bool
 | .start .. => []
def xI5 : wv2 → St E.S
 | .start i0 p1 s2 => st0 12 [.v (.int .i64 i0), .v (.string p1), .el 103 s2 0] []
abbrev xN5 : Type := ((Int × Unit) × Unit)
def vb7 : Res E (Int × Unit) Unit := { rows := [], flat := [], keep := 0, done := [0], rl := (.cons (Rd.int .i64) .nil), rb := .nil }
def uZ4 : wv2 → Option xN5
 | .start i0 p1 s2 =>
  (span (List.length s2.Params) (0 : Int) i0) >>= fun t1 =>
  (ux6 (.start p1 (cut s2.Params t1))) >>= fun t2 =>
  some ((t2.1.1, ()), ())
def xe9 : List (Plc E wv2) := []
theorem wL4 : All (ub7 12 0 vH4 xI5) xe9 := trivial
def we2 : Code := Tryz.f113.body.getD .skip
def wk9 : Spec E.S := (Con.add u61 ub0)
theorem v14 : ua9 E wk9 := (Con.add_ok uJ2 ua7)
theorem xt7 : ∀ pt r, uZ4 pt = some r → Good E Tryz.f113 we2 0 (vb7.av r) (vb7.bx r) (vH4 pt) (xI5 pt) := by
 intro pt r hr
 cases pt <;> exact ua8 (spec := wk9) (wr := (mkWr [] [])) (l := xe9) (z := 12) (p := vb7) (run' := fun _ => none) E_ok wL4.mem rfl v14 (fun _ _ h => by cases h) (Eq.trans (by kernel_rfl) hr)
def wX0 : Con E := ⟨113, _, _, (.cons (Rd.int .i64).w (.cons Rd.str.w (.cons (Rd.el 103 0).w .nil))), .nil, 0, xN5, fun a b => uZ4 (.start a.1 a.2.1 a.2.2.1), vb7.av, vb7.bx⟩
theorem wz7 : wX0.Ok := fun a b r h => ub2 (fn := Tryz.f113) (code := we2) E_ok (by kernel_rfl) (by kernel_rfl) (by kernel_rfl) (Nat.le_of_ble_eq_true rfl) (xt7 (.start a.1 a.2.1 a.2.2.1) r h)
inductive wv3 where
 | start (l0 : (List ByteArray)) (C0 : ByteArray) (C1 : (List ByteArray)) (C2 : (List ua0))
 | p52 (s9 : (List ByteArray)) (s10 : Int) (s11 : Int) (C0 : ByteArray) (C1 : (List ByteArray)) (C2 : (List ua0))
def u89 : wv3 → List Bool
 | .start .. => []
 | .p52 .. => [false, false, true, false, true]
def xc0 : wv3 → St E.S
 | .start l0 C0 C1 C2 => st0 25 [.sl 9 l0 false, .fn 113 [.bp 0 0]] [.var 103 [.v (.string C0), .sl 9 C1 false, .sl 56 C2 false]]
 | .p52 s9 s10 s11 C0 C1 C2 => mkSt 25 [1, 9, 10, 11] [.fn 113 [.bp 0 0], .sl 9 s9 false, .v (.int .i64 s10), .v (.int .i64 s11)] [.var 103 [.v (.string C0), .sl 9 C1 false, .sl 56 C2 false]]
abbrev xN6 : Type := ((Int × (Int × Unit)) × ((ByteArray × ((List ByteArray) × ((List ua0) × Unit))) × Unit))
def uN7 : Res E (Int × (Int × Unit)) ((ByteArray × ((List ByteArray) × ((List ua0) × Unit))) × Unit) := { rows := [], flat := [], keep := 1, done := [0, 1], rl := (.cons (Rd.int .i64) (.cons (Rd.int .i64) .nil)), rb := (.cons (.var 103 (.cons Rd.str (.cons (Rd.sl 9 false) (.cons (Rd.sl 56 false) .nil)))) .nil) }
def um4 : wv3 → Option xN6
 | .start l0 C0 C1 C2 =>
  um4 (.p52 l0 (List.length l0 : Int) (0 : Int) C0 C1 C2)
 | .p52 s9 s10 s11 C0 C1 C2 =>
  if (decide (s11 < s10)) = true then
   (idx s9 s11) >>= fun t1 =>
   (uZ4 (.start s11 t1 (⟨C0, C1, C2⟩ : ua2))) >>= fun t2 =>
   if (t2.1.1 != (0 : Int)) = true then
    some ((s11, (t2.1.1, ())), ((C0, (C1, (C2, ()))), ()))
   else
    um4 (.p52 s9 s10 (IntKind.wrap .i64 (s11 + (1 : Int))) C0 C1 C2)
  else
   some (((0 : Int), ((0 : Int), ())), ((C0, (C1, (C2, ()))), ()))
 partial_fixpoint
def xf0 : List (Plc E wv3) := [⟨52, [false, false, true, false, true], { slots := [1, 9, 10, 11], rows := [], flat := [], keep := 1 }, _, _, (.cons (Rd.fn 113 (.cons (Rd.bp 0 0) .nil)) (.cons (Rd.sl 9 false) (.cons (Rd.int .i64) (.cons (Rd.int .i64) .nil)))), (.cons (.var 103 (.cons Rd.str (.cons (Rd.sl 9 false) (.cons (Rd.sl 56 false) .nil)))) .nil), fun a b => .p52 a.2.1 a.2.2.1 a.2.2.2.1 b.1.1 b.1.2.1 b.1.2.2.1⟩]
theorem wL5 : All (ub7 25 1 u89 xc0) xf0 := ⟨⟨rfl, rfl, fun _ _ => rfl, fun _ _ => rfl⟩, trivial⟩
def vt2 : Code := Tryz.f112.body.getD .skip
def wl0 : Spec E.S := (Con.add wX0 ub0)
theorem v16 : ua9 E wl0 := (Con.add_ok wz7 ua7)
theorem xt8 : ∀ pt r, um4 pt = some r → Good E Tryz.f112 vt2 1 (uN7.av r) (uN7.bx r) (u89 pt) (xc0 pt) := by
 refine um4.partial_correctness (fun pt r => Good E Tryz.f112 vt2 1 (uN7.av r) (uN7.bx r) (u89 pt) (xc0 pt)) ?_
 intro run' ih pt r hr
 cases pt <;> exact ua8 (spec := wl0) (wr := (mkWr [] [])) (l := xf0) (z := 25) (p := uN7) E_ok wL5.mem rfl v16 ih (Eq.trans (by kernel_rfl) hr)
def wX1 : Con E := ⟨112, _, _, (.cons (Rw.sl 9) (.cons (Rd.fn 113 (.cons (Rd.bp 0 0) .nil)).w .nil)), (.cons (.var 103 (.cons Rd.str (.cons (Rd.sl 9 false) (.cons (Rd.sl 56 false) .nil)))) .nil), 1, xN6, fun a b => um4 (.start a.1 b.1.1 b.1.2.1 b.1.2.2.1), uN7.av, uN7.bx⟩
theorem wz8 : wX1.Ok := fun a b r h => ub2 (fn := Tryz.f112) (code := vt2) E_ok (by kernel_rfl) (by kernel_rfl) (by kernel_rfl) (Nat.le_of_ble_eq_true rfl) (xt8 (.start a.1 b.1.1 b.1.2.1 b.1.2.2.1) r h)
inductive wv4 where
 | start (t0_0 : Int) (t0_1 : Int) (t0_2 : ByteArray) (t0_3 : (List ua1))
def vH5 : wv4 → List Bool
 | .start .. => []
def xI6 : wv4 → St E.S
 | .start t0_0 t0_1 t0_2 t0_3 => st0 5 [.agg [.v (.int .i64 t0_0), .v (.int .i64 t0_1), .v (.string t0_2), .sl 25 t0_3 false]] []
abbrev xN7 : Type := (((List ua1) × Unit) × Unit)
def vb8 : Res E ((List ua1) × Unit) Unit := { rows := [], flat := [], keep := 0, done := [0], rl := (.cons (Rd.sl 25 false) .nil), rb := .nil }
def uZ5 : wv4 → Option xN7
 | .start t0_0 t0_1 t0_2 t0_3 =>
  some ((t0_3, ()), ())
def xf1 : List (Plc E wv4) := []
theorem wL6 : All (ub7 5 0 vH5 xI6) xf1 := trivial
def we3 : Code := Tryz.f140.body.getD .skip
def wl1 : Spec E.S := ub0
theorem v17 : ua9 E wl1 := ua7
theorem xt9 : ∀ pt r, uZ5 pt = some r → Good E Tryz.f140 we3 0 (vb8.av r) (vb8.bx r) (vH5 pt) (xI6 pt) := by
 intro pt r hr
 cases pt <;> exact ua8 (spec := wl1) (wr := (mkWr [] [])) (l := xf1) (z := 5) (p := vb8) (run' := fun _ => none) E_ok wL6.mem rfl v17 (fun _ _ h => by cases h) (Eq.trans (by kernel_rfl) hr)
def wX2 : Con E := ⟨140, _, _, (.cons (Rw.agg (.cons (Rd.int .i64).w (.cons (Rd.int .i64).w (.cons Rd.str.w (.cons (Rw.sl 25) .nil))))) .nil), .nil, 0, xN7, fun a b => uZ5 (.start a.1.1 a.1.2.1 a.1.2.2.1 a.1.2.2.2.1), vb8.av, vb8.bx⟩
theorem wz9 : wX2.Ok := fun a b r h => ub2 (fn := Tryz.f140) (code := we3) E_ok (by kernel_rfl) (by kernel_rfl) (by kernel_rfl) (Nat.le_of_ble_eq_true rfl) (xt9 (.start a.1.1 a.1.2.1 a.1.2.2.1 a.1.2.2.2.1) r h)
inductive vj5 where
 | start (x0_0 : Int) (x0_1 : Int) (x0_2 : ByteArray) (x0_3 : (List ua1)) (depth1 : Int) (B0 : Int)
 | p15 (depth1 : Int) (B0 : Int) (H0 : Int) (H1 : Int) (H2 : ByteArray) (H3 : (List ua1))
 | p244 (depth1 : Int) (s20 : (List ua1)) (s21 : Int) (s22 : Int) (B0 : Int)
def uF1 : vj5 → List Bool
 | .start .. => []
 | .p15 .. => [true, true, true]
 | .p244 .. => [false, false, true, false, true, true, true]
def vO1 : vj5 → St E.S
 | .start x0_0 x0_1 x0_2 x0_3 depth1 B0 => st0 33 [.agg [.v (.int .i64 x0_0), .v (.int .i64 x0_1), .v (.string x0_2), .sl 25 x0_3 false], .v (.int .i64 depth1), .bp 0 0, .bp 1 0, .bp 2 0] [.var 3 [.v (.int .i64 B0)], .var 182 [.fn 140 []], .var 200 [.fn 158 [.bp 0 0, .bp 1 0, .bp 2 0]]]
 | .p15 depth1 B0 H0 H1 H2 H3 => mkSt 33 [1, 3, 4, 5] [.v (.int .i64 depth1), .bp 1 0, .bp 2 0, .bp 3 0] [.var 3 [.v (.int .i64 B0)], .var 182 [.fn 140 []], .var 200 [.fn 158 [.bp 0 0, .bp 1 0, .bp 2 0]], .var 25 [.v (.int .i64 H0), .v (.int .i64 H1), .v (.string H2), .sl 25 H3 false]]
 | .p244 depth1 s20 s21 s22 B0 => mkSt 33 [1, 4, 20, 21, 22] [.v (.int .i64 depth1), .bp 2 0, .sl 25 s20 false, .v (.int .i64 s21), .v (.int .i64 s22)] [.var 3 [.v (.int .i64 B0)], .var 182 [.fn 140 []], .var 200 [.fn 158 [.bp 0 0, .bp 1 0, .bp 2 0]]]
abbrev vB6 : Type := ((Bool × Unit) × ((Int × Unit) × ((Unit × Unit) × (((Unit × (Unit × (Unit × Unit))) × Unit) × Unit))))
def un8 : Res E (Bool × Unit) ((Int × Unit) × ((Unit × Unit) × (((Unit × (Unit × (Unit × Unit))) × Unit) × Unit))) := { rows := [], flat := [], keep := 3, done := [0], rl := (.cons Rd.bool .nil), rb := (.cons (.var 3 (.cons (Rd.int .i64) .nil)) (.cons (.var 182 (.cons (Rd.fn 140 .nil) .nil)) (.cons (.var 200 (.cons (Rd.fn 158 (.cons (Rd.bp 0 0) (.cons (Rd.bp 1 0) (.cons (Rd.bp 2 0) .nil)))) .nil)) .nil))) }
def uj4 : vj5 → Option vB6
 | .start x0_0 x0_1 x0_2 x0_3 depth1 B0 =>
  if (decide ((IntKind.wrap .i64 (B0 + (1 : Int))) > (200 : Int))) = true then
   some ((false, ()), ((IntKind.wrap .i64 (B0 + (1 : Int)), ()), (((), ()), ((((), ((), ((), ()))), ()), ()))))
  else
   if (decide (depth1 > (40 : Int))) = true then
    some ((false, ()), ((IntKind.wrap .i64 (B0 + (1 : Int)), ()), (((), ()), ((((), ((), ((), ()))), ()), ()))))
   else
    uj4 (.p15 depth1 (IntKind.wrap .i64 (B0 + (1 : Int))) x0_0 x0_1 x0_2 x0_3)
 | .p15 depth1 B0 H0 H1 H2 H3 =>
  (uZ5 (.start H0 H1 H2 H3)) >>= fun t1 =>
  uj4 (.p244 depth1 t1.1.1 (List.length t1.1.1 : Int) (0 : Int) B0)
 | .p244 depth1 s20 s21 s22 B0 =>
  if (decide (s22 < s21)) = true then
   (idx s20 s22) >>= fun t1 =>
   (uj4 (.start t1.Kind t1.Value t1.Name t1.Parts (IntKind.wrap .i64 (depth1 + (1 : Int))) B0)) >>= fun t2 =>
   if (!t2.1.1) = true then
    some ((false, ()), ((t2.2.1.1, ()), (((), ()), ((((), ((), ((), ()))), ()), ()))))
   else
    uj4 (.p244 depth1 s20 s21 (IntKind.wrap .i64 (s22 + (1 : Int))) t2.2.1.1)
  else
   some ((true, ()), ((B0, ()), (((), ()), ((((), ((), ((), ()))), ()), ()))))
 partial_fixpoint
def xf2 : List (Plc E vj5) := [⟨15, [true, true, true], { slots := [1, 3, 4, 5], rows := [], flat := [], keep := 3 }, _, _, (.cons (Rd.int .i64) (.cons (Rd.bp 1 0) (.cons (Rd.bp 2 0) (.cons (Rd.bp 3 0) .nil)))), (.cons (.var 3 (.cons (Rd.int .i64) .nil)) (.cons (.var 182 (.cons (Rd.fn 140 .nil) .nil)) (.cons (.var 200 (.cons (Rd.fn 158 (.cons (Rd.bp 0 0) (.cons (Rd.bp 1 0) (.cons (Rd.bp 2 0) .nil)))) .nil)) (.cons (.var 25 (.cons (Rd.int .i64) (.cons (Rd.int .i64) (.cons Rd.str (.cons (Rd.sl 25 false) .nil))))) .nil)))), fun a b => .p15 a.1 b.1.1 b.2.2.2.1.1 b.2.2.2.1.2.1 b.2.2.2.1.2.2.1 b.2.2.2.1.2.2.2.1⟩,
 ⟨244, [false, false, true, false, true, true, true], { slots := [1, 4, 20, 21, 22], rows := [], flat := [], keep := 3 }, _, _, (.cons (Rd.int .i64) (.cons (Rd.bp 2 0) (.cons (Rd.sl 25 false) (.cons (Rd.int .i64) (.cons (Rd.int .i64) .nil))))), (.cons (.var 3 (.cons (Rd.int .i64) .nil)) (.cons (.var 182 (.cons (Rd.fn 140 .nil) .nil)) (.cons (.var 200 (.cons (Rd.fn 158 (.cons (Rd.bp 0 0) (.cons (Rd.bp 1 0) (.cons (Rd.bp 2 0) .nil)))) .nil)) .nil))), fun a b => .p244 a.1 a.2.2.1 a.2.2.2.1 a.2.2.2.2.1 b.1.1⟩]
theorem wL7 : All (ub7 33 3 uF1 vO1) xf2 := ⟨⟨rfl, rfl, fun _ _ => rfl, fun _ _ => rfl⟩, ⟨⟨rfl, rfl, fun _ _ => rfl, fun _ _ => rfl⟩, trivial⟩⟩
def uH8 : Code := Tryz.f158.body.getD .skip
def w72 (run' : vj5 → Option vB6) : Con E := ⟨158, ((Int × (Int × (ByteArray × ((List ua1) × Unit)))) × (Int × (Unit × (Unit × (Unit × Unit))))), ((Int × Unit) × ((Unit × Unit) × (((Unit × (Unit × (Unit × Unit))) × Unit) × Unit))), (RwL.cons (Rw.agg (RwL.cons (Rd.int .i64).w (RwL.cons (Rd.int .i64).w (RwL.cons Rd.str.w (RwL.cons (Rw.sl 25) RwL.nil))))) (RwL.cons (Rd.int .i64).w (RwL.cons (Rd.bp 0 0).w (RwL.cons (Rd.bp 1 0).w (RwL.cons (Rd.bp 2 0).w RwL.nil))))), (RdBL.cons (RdB.var 3 (RdL.cons (Rd.int .i64) RdL.nil)) (RdBL.cons (RdB.var 182 (RdL.cons (Rd.fn 140 RdL.nil) RdL.nil)) (RdBL.cons (RdB.var 200 (RdL.cons (Rd.fn 158 (RdL.cons (Rd.bp 0 0) (RdL.cons (Rd.bp 1 0) (RdL.cons (Rd.bp 2 0) RdL.nil)))) RdL.nil)) RdBL.nil))), 3, vB6, fun a b => run' (.start a.1.1 a.1.2.1 a.1.2.2.1 a.1.2.2.2.1 a.2.1 b.1.1), un8.av, un8.bx⟩
theorem wH1 {run' : vj5 → Option vB6} (ih : ∀ pt r, run' pt = some r → Good E Tryz.f158 uH8 3 (un8.av r) (un8.bx r) (uF1 pt) (vO1 pt)) : (w72 run').Ok := fun a b r h => ub2 (fn := Tryz.f158) (code := uH8) E_ok (by kernel_rfl) (by kernel_rfl) (by kernel_rfl) (Nat.le_of_ble_eq_true rfl) (ih (.start a.1.1 a.1.2.1 a.1.2.2.1 a.1.2.2.2.1 a.2.1 b.1.1) r h)
def wl2 (run' : vj5 → Option vB6) : Spec E.S := (Con.add (w72 run') (Con.add wX2 ub0))
theorem v18 {run' : vj5 → Option vB6} (ih : ∀ pt r, run' pt = some r → Good E Tryz.f158 uH8 3 (un8.av r) (un8.bx r) (uF1 pt) (vO1 pt)) : ua9 E (wl2 run') := (Con.add_ok (wH1 ih) (Con.add_ok wz9 ua7))
theorem xu0 : ∀ pt r, uj4 pt = some r → Good E Tryz.f158 uH8 3 (un8.av r) (un8.bx r) (uF1 pt) (vO1 pt) := by
 refine uj4.partial_correctness (fun pt r => Good E Tryz.f158 uH8 3 (un8.av r) (un8.bx r) (uF1 pt) (vO1 pt)) ?_
 intro run' ih pt r hr
 cases pt <;> exact ua8 (spec := (wl2 run')) (wr := (mkWr [] [])) (l := xf2) (z := 33) (p := un8) E_ok wL7.mem rfl (v18 ih) ih (Eq.trans (by kernel_rfl) hr)
def wX3 : Con E := ⟨158, _, _, (.cons (Rw.agg (.cons (Rd.int .i64).w (.cons (Rd.int .i64).w (.cons Rd.str.w (.cons (Rw.sl 25) .nil))))) (.cons (Rd.int .i64).w (.cons (Rd.bp 0 0).w (.cons (Rd.bp 1 0).w (.cons (Rd.bp 2 0).w .nil))))), (.cons (.var 3 (.cons (Rd.int .i64) .nil)) (.cons (.var 182 (.cons (Rd.fn 140 .nil) .nil)) (.cons (.var 200 (.cons (Rd.fn 158 (.cons (Rd.bp 0 0) (.cons (Rd.bp 1 0) (.cons (Rd.bp 2 0) .nil)))) .nil)) .nil))), 3, vB6, fun a b => uj4 (.start a.1.1 a.1.2.1 a.1.2.2.1 a.1.2.2.2.1 a.2.1 b.1.1), un8.av, un8.bx⟩
theorem wA0 : wX3.Ok := fun a b r h => ub2 (fn := Tryz.f158) (code := uH8) E_ok (by kernel_rfl) (by kernel_rfl) (by kernel_rfl) (Nat.le_of_ble_eq_true rfl) (xu0 (.start a.1.1 a.1.2.1 a.1.2.2.1 a.1.2.2.2.1 a.2.1 b.1.1) r h)
inductive wv5 where
 | start (root0_0 : Int) (root0_1 : Int) (root0_2 : ByteArray) (root0_3 : (List ua1))
def vH6 : wv5 → List Bool
 | .start .. => []
def xI7 : wv5 → St E.S
 | .start root0_0 root0_1 root0_2 root0_3 => st0 12 [.agg [.v (.int .i64 root0_0), .v (.int .i64 root0_1), .v (.string root0_2), .sl 25 root0_3 false], .fn 140 []] []
abbrev xN8 : Type := ((Int × Unit) × Unit)
def vb9 : Res E (Int × Unit) Unit := { rows := [], flat := [], keep := 0, done := [0], rl := (.cons (Rd.int .i64) .nil), rb := .nil }
def uG9 : wv5 → Option xN8
 | .start root0_0 root0_1 root0_2 root0_3 =>
  (uj4 (.start root0_0 root0_1 root0_2 root0_3 (1 : Int) (0 : Int))) >>= fun t1 =>
  (uc4 (.start t1.1.1 (8 : Int))) >>= fun t2 =>
  some ((t2.1.1, ()), ())
def xf3 : List (Plc E wv5) := []
theorem wL8 : All (ub7 12 0 vH6 xI7) xf3 := trivial
def we4 : Code := Tryz.f139.body.getD .skip
def wl3 : Spec E.S := (Con.add uR9 (Con.add wX3 ub0))
theorem v19 : ua9 E wl3 := (Con.add_ok uq4 (Con.add_ok wA0 ua7))
theorem xu1 : ∀ pt r, uG9 pt = some r → Good E Tryz.f139 we4 0 (vb9.av r) (vb9.bx r) (vH6 pt) (xI7 pt) := by
 intro pt r hr
 cases pt <;> exact ua8 (spec := wl3) (wr := (mkWr [] [])) (l := xf3) (z := 12) (p := vb9) (run' := fun _ => none) E_ok wL8.mem rfl v19 (fun _ _ h => by cases h) (Eq.trans (by kernel_rfl) hr)
def vR9 : Con E := ⟨139, _, _, (.cons (Rw.agg (.cons (Rd.int .i64).w (.cons (Rd.int .i64).w (.cons Rd.str.w (.cons (Rw.sl 25) .nil))))) (.cons (Rd.fn 140 .nil).w .nil)), .nil, 0, xN8, fun a b => uG9 (.start a.1.1 a.1.2.1 a.1.2.2.1 a.1.2.2.2.1), vb9.av, vb9.bx⟩
theorem vm7 : vR9.Ok := fun a b r h => ub2 (fn := Tryz.f139) (code := we4) E_ok (by kernel_rfl) (by kernel_rfl) (by kernel_rfl) (Nat.le_of_ble_eq_true rfl) (xu1 (.start a.1.1 a.1.2.1 a.1.2.2.1 a.1.2.2.2.1) r h)
inductive wv6 where
 | start (d0_0 : ByteArray) (d0_1 : (List ByteArray)) (d0_2 : (List ua0)) (s1 : ByteArray)
def vH7 : wv6 → List Bool
 | .start .. => []
def xI8 : wv6 → St E.S
 | .start d0_0 d0_1 d0_2 s1 => st0 8 [.agg [.v (.string d0_0), .sl 9 d0_1 false, .sl 56 d0_2 false], .el 9 s1 0] []
abbrev xN9 : Type := ((Bool × Unit) × Unit)
def vc0 : Res E (Bool × Unit) Unit := { rows := [], flat := [], keep := 0, done := [0], rl := (.cons Rd.bool .nil), rb := .nil }
def uZ6 : wv6 → Option xN9
 | .start d0_0 d0_1 d0_2 s1 =>
  some ((seq d0_0 s1, ()), ())
def xf4 : List (Plc E wv6) := []
theorem wL9 : All (ub7 8 0 vH7 xI8) xf4 := trivial
def we5 : Code := Tryz.f178.body.getD .skip
def wl4 : Spec E.S := ub0
theorem v22 : ua9 E wl4 := ua7
theorem xu2 : ∀ pt r, uZ6 pt = some r → Good E Tryz.f178 we5 0 (vc0.av r) (vc0.bx r) (vH7 pt) (xI8 pt) := by
 intro pt r hr
 cases pt <;> exact ua8 (spec := wl4) (wr := (mkWr [] [])) (l := xf4) (z := 8) (p := vc0) (run' := fun _ => none) E_ok wL9.mem rfl v22 (fun _ _ h => by cases h) (Eq.trans (by kernel_rfl) hr)
def wX4 : Con E := ⟨178, _, _, (.cons (Rw.agg (.cons Rd.str.w (.cons (Rw.sl 9) (.cons (Rw.sl 56) .nil)))) (.cons (Rd.el 9 0).w .nil)), .nil, 0, xN9, fun a b => uZ6 (.start a.1.1 a.1.2.1 a.1.2.2.1 a.2.1), vc0.av, vc0.bx⟩
theorem wA1 : wX4.Ok := fun a b r h => ub2 (fn := Tryz.f178) (code := we5) E_ok (by kernel_rfl) (by kernel_rfl) (by kernel_rfl) (Nat.le_of_ble_eq_true rfl) (xu2 (.start a.1.1 a.1.2.1 a.1.2.2.1 a.2.1) r h)
inductive wv7 where
 | start (s0 : (List ua2)) (B0 : ByteArray)
 | p52 (s0 : (List ua2)) (s7 : Int) (s8 : Int) (B0 : ByteArray)
def u90 : wv7 → List Bool
 | .start .. => []
 | .p52 .. => [false, false, true, false, true]
def xc1 : wv7 → St E.S
 | .start s0 B0 => st0 19 [.sl 103 s0 false, .fn 178 [.bp 0 0]] [.var 9 [.v (.string B0)]]
 | .p52 s0 s7 s8 B0 => mkSt 19 [0, 1, 7, 8] [.sl 103 s0 false, .fn 178 [.bp 0 0], .v (.int .i64 s7), .v (.int .i64 s8)] [.var 9 [.v (.string B0)]]
abbrev xO0 : Type := ((Int × Unit) × ((ByteArray × Unit) × Unit))
def uN8 : Res E (Int × Unit) ((ByteArray × Unit) × Unit) := { rows := [], flat := [], keep := 1, done := [0], rl := (.cons (Rd.int .i64) .nil), rb := (.cons (.var 9 (.cons Rd.str .nil)) .nil) }
def um5 : wv7 → Option xO0
 | .start s0 B0 =>
  um5 (.p52 s0 (List.length s0 : Int) (0 : Int) B0)
 | .p52 s0 s7 s8 B0 =>
  if (decide (s8 < s7)) = true then
   (idx s0 s8) >>= fun t1 =>
   (uZ6 (.start t1.Name t1.Params t1.Constructors B0)) >>= fun t2 =>
   if t2.1.1 = true then
    some ((s8, ()), ((B0, ()), ()))
   else
    um5 (.p52 s0 s7 (IntKind.wrap .i64 (s8 + (1 : Int))) B0)
  else
   some (((-1 : Int), ()), ((B0, ()), ()))
 partial_fixpoint
def xf5 : List (Plc E wv7) := [⟨52, [false, false, true, false, true], { slots := [0, 1, 7, 8], rows := [], flat := [], keep := 1 }, _, _, (.cons (Rd.sl 103 false) (.cons (Rd.fn 178 (.cons (Rd.bp 0 0) .nil)) (.cons (Rd.int .i64) (.cons (Rd.int .i64) .nil)))), (.cons (.var 9 (.cons Rd.str .nil)) .nil), fun a b => .p52 a.1 a.2.2.1 a.2.2.2.1 b.1.1⟩]
theorem wM0 : All (ub7 19 1 u90 xc1) xf5 := ⟨⟨rfl, rfl, fun _ _ => rfl, fun _ _ => rfl⟩, trivial⟩
def vt3 : Code := Tryz.f177.body.getD .skip
def wl5 : Spec E.S := (Con.add wX4 ub0)
theorem v23 : ua9 E wl5 := (Con.add_ok wA1 ua7)
theorem xu3 : ∀ pt r, um5 pt = some r → Good E Tryz.f177 vt3 1 (uN8.av r) (uN8.bx r) (u90 pt) (xc1 pt) := by
 refine um5.partial_correctness (fun pt r => Good E Tryz.f177 vt3 1 (uN8.av r) (uN8.bx r) (u90 pt) (xc1 pt)) ?_
 intro run' ih pt r hr
 cases pt <;> exact ua8 (spec := wl5) (wr := (mkWr [] [])) (l := xf5) (z := 19) (p := uN8) E_ok wM0.mem rfl v23 ih (Eq.trans (by kernel_rfl) hr)
def wX5 : Con E := ⟨177, _, _, (.cons (Rw.sl 103) (.cons (Rd.fn 178 (.cons (Rd.bp 0 0) .nil)).w .nil)), (.cons (.var 9 (.cons Rd.str .nil)) .nil), 1, xO0, fun a b => um5 (.start a.1 b.1.1), uN8.av, uN8.bx⟩
theorem wA2 : wX5.Ok := fun a b r h => ub2 (fn := Tryz.f177) (code := vt3) E_ok (by kernel_rfl) (by kernel_rfl) (by kernel_rfl) (Nat.le_of_ble_eq_true rfl) (xu3 (.start a.1 b.1.1) r h)
inductive wv8 where
 | start (s0_0 : (List ua2)) (s0_1 : (List ByteArray)) (name1 : ByteArray)
def vH8 : wv8 → List Bool
 | .start .. => []
def xI9 : wv8 → St E.S
 | .start s0_0 s0_1 name1 => st0 19 [.agg [.sl 103 s0_0 false, .sl 9 s0_1 false], .v (.string name1)] []
abbrev xO1 : Type := (((ByteArray × ((List ByteArray) × ((List ua0) × Unit))) × (Bool × Unit)) × Unit)
def vc1 : Res E ((ByteArray × ((List ByteArray) × ((List ua0) × Unit))) × (Bool × Unit)) Unit := { rows := [], flat := [], keep := 0, deep := [(false, 0, 1, 9), (false, 0, 2, 56)], done := [0, 1], rl := (.cons (Rd.agg (.cons Rd.str (.cons (Rd.sl 9 false) (.cons (Rd.sl 56 false) .nil)))) (.cons Rd.bool .nil)), rb := .nil }
def uH0 : wv8 → Option xO1
 | .start s0_0 s0_1 name1 =>
  (um5 (.start s0_0 name1)) >>= fun t1 =>
  if (decide (t1.1.1 < (0 : Int))) = true then
   some ((((⟨#[]⟩ : ByteArray), ([], ([], ()))), (false, ())), ())
  else
   (idx s0_0 t1.1.1) >>= fun t2 =>
   some (((t2.Name, (t2.Params, (t2.Constructors, ()))), (true, ())), ())
def xf6 : List (Plc E wv8) := []
theorem wM1 : All (ub7 19 0 vH8 xI9) xf6 := trivial
def we6 : Code := Tryz.f159.body.getD .skip
def wl6 : Spec E.S := (Con.add wX5 ub0)
theorem v24 : ua9 E wl6 := (Con.add_ok wA2 ua7)
theorem xu4 : ∀ pt r, uH0 pt = some r → Good E Tryz.f159 we6 0 (vc1.av r) (vc1.bx r) (vH8 pt) (xI9 pt) := by
 intro pt r hr
 cases pt <;> exact ua8 (spec := wl6) (wr := (mkWr [] [])) (l := xf6) (z := 19) (p := vc1) (run' := fun _ => none) E_ok wM1.mem rfl v24 (fun _ _ h => by cases h) (Eq.trans (by kernel_rfl) hr)
def vS0 : Con E := ⟨159, _, _, (.cons (Rw.agg (.cons (Rw.sl 103) (.cons (Rw.sl 9) .nil))) (.cons Rd.str.w .nil)), .nil, 0, xO1, fun a b => uH0 (.start a.1.1 a.1.2.1 a.2.1), vc1.av, vc1.bx⟩
theorem vm8 : vS0.Ok := fun a b r h => ub2 (fn := Tryz.f159) (code := we6) E_ok (by kernel_rfl) (by kernel_rfl) (by kernel_rfl) (Nat.le_of_ble_eq_true rfl) (xu4 (.start a.1.1 a.1.2.1 a.2.1) r h)
inductive u45 where
 | start (s0 : Int) (x1_0 : Int) (x1_1 : Int) (x1_2 : ByteArray) (x1_3 : (List ua1)) (s2 : un5)
def uy7 : u45 → List Bool
 | .start .. => []
def vr4 : u45 → St E.S
 | .start s0 x1_0 x1_1 x1_2 x1_3 s2 => st0 9 [.v (.int .i64 s0), .agg [.v (.int .i64 x1_0), .v (.int .i64 x1_1), .v (.string x1_2), .sl 25 x1_3 false], .el 107 s2 0] []
abbrev vB7 : Type := ((Int × Unit) × Unit)
def uk9 : Res E (Int × Unit) Unit := { rows := [], flat := [], keep := 0, done := [0], rl := (.cons (Rd.int .i64) .nil), rb := .nil }
inductive uV4 where
 | start (s0_0 : (List ua2)) (s0_1 : (List ByteArray)) (t1_0 : Int) (t1_1 : Int) (t1_2 : ByteArray) (t1_3 : (List ua1))
 | p15 (count5 : Int) (C0 : (List ua2)) (C1 : (List ByteArray)) (D0 : Int) (D1 : Int) (D2 : ByteArray) (D3 : (List ua1))
 | p63 (C0 : (List ua2)) (C1 : (List ByteArray)) (D0 : Int) (D1 : Int) (D2 : ByteArray) (D3 : (List ua1))
def ut6 : uV4 → List Bool
 | .start .. => []
 | .p15 .. => [true, true, true]
 | .p63 .. => [true, true, true, true, true]
def vi0 : uV4 → St E.S
 | .start s0_0 s0_1 t1_0 t1_1 t1_2 t1_3 => st0 66 [.agg [.sl 103 s0_0 false, .sl 9 s0_1 false], .agg [.v (.int .i64 t1_0), .v (.int .i64 t1_1), .v (.string t1_2), .sl 25 t1_3 false]] []
 | .p15 count5 C0 C1 D0 D1 D2 D3 => mkSt 66 [2, 3, 5] [.bp 0 0, .bp 1 0, .v (.int .i64 count5)] [.var 107 [.sl 103 C0 false, .sl 9 C1 false], .var 25 [.v (.int .i64 D0), .v (.int .i64 D1), .v (.string D2), .sl 25 D3 false]]
 | .p63 C0 C1 D0 D1 D2 D3 => mkSt 66 [2, 3] [.bp 0 0, .bp 1 0] [.var 107 [.sl 103 C0 false, .sl 9 C1 false], .var 25 [.v (.int .i64 D0), .v (.int .i64 D1), .v (.string D2), .sl 25 D3 false]]
abbrev vk5 : Type := ((Int × Unit) × Unit)
def ui4 : Res E (Int × Unit) Unit := { rows := [], flat := [], keep := 0, done := [0], rl := (.cons (Rd.int .i64) .nil), rb := .nil }
inductive uV5 where
 | start (l0 : (List ua1)) (C0 : (List ua2)) (C1 : (List ByteArray))
 | p52 (s9 : (List ua1)) (s10 : Int) (s11 : Int) (C0 : (List ua2)) (C1 : (List ByteArray))
def ut7 : uV5 → List Bool
 | .start .. => []
 | .p52 .. => [false, false, true, false, true]
def vi1 : uV5 → St E.S
 | .start l0 C0 C1 => st0 25 [.sl 25 l0 false, .fn 161 [.bp 0 0]] [.var 107 [.sl 103 C0 false, .sl 9 C1 false]]
 | .p52 s9 s10 s11 C0 C1 => mkSt 25 [1, 9, 10, 11] [.fn 161 [.bp 0 0], .sl 25 s9 false, .v (.int .i64 s10), .v (.int .i64 s11)] [.var 107 [.sl 103 C0 false, .sl 9 C1 false]]
abbrev vk6 : Type := ((Int × (Int × Unit)) × (((List ua2) × ((List ByteArray) × Unit)) × Unit))
def ui5 : Res E (Int × (Int × Unit)) (((List ua2) × ((List ByteArray) × Unit)) × Unit) := { rows := [], flat := [], keep := 1, done := [0, 1], rl := (.cons (Rd.int .i64) (.cons (Rd.int .i64) .nil)), rb := (.cons (.var 107 (.cons (Rd.sl 103 false) (.cons (Rd.sl 9 false) .nil))) .nil) }
mutual
def uC7 : u45 → Option vB7
 | .start s0 x1_0 x1_1 x1_2 x1_3 s2 =>
  (run_z21 (.start s2.list s2.params x1_0 x1_1 x1_2 x1_3)) >>= fun t1 =>
  some ((t1.1.1, ()), ())
 partial_fixpoint
def run_z21 : uV4 → Option vk5
 | .start s0_0 s0_1 t1_0 t1_1 t1_2 t1_3 =>
  if (t1_0 == (0 : Int)) = true then
   (u17 (.start s0_1 t1_2)) >>= fun t1 =>
   if (!t1.1.1) = true then
    some (((6 : Int), ()), ())
   else
    run_z21 (.p15 (0 : Int) s0_0 s0_1 t1_0 t1_1 t1_2 t1_3)
  else
   if (t1_0 == (1 : Int)) = true then
    (uH0 (.start s0_0 s0_1 t1_2)) >>= fun t2 =>
    if t2.1.2.1 = true then
     run_z21 (.p15 (List.length t2.1.1.2.1 : Int) s0_0 s0_1 t1_0 t1_1 t1_2 t1_3)
    else
     if (seq t1_2 (⟨#[66, 105, 116]⟩ : ByteArray)) = true then
      run_z21 (.p15 (1 : Int) s0_0 s0_1 t1_0 t1_1 t1_2 t1_3)
     else
      if (!(seq t1_2 (⟨#[66, 111, 111, 108]⟩ : ByteArray))) = true then
       some (((6 : Int), ()), ())
      else
       run_z21 (.p15 (0 : Int) s0_0 s0_1 t1_0 t1_1 t1_2 t1_3)
   else
    if (t1_0 == (2 : Int)) = true then
     run_z21 (.p15 (0 : Int) s0_0 s0_1 t1_0 t1_1 t1_2 t1_3)
    else
     some (((15 : Int), ()), ())
 | .p15 count5 C0 C1 D0 D1 D2 D3 =>
  if ((List.length D3 : Int) != count5) = true then
   some (((10 : Int), ()), ())
  else
   if (D0 == (2 : Int)) = true then
    (uk1 (.start D1 (0 : Int) (1000000000 : Int))) >>= fun t1 =>
    if (!t1.1.1) = true then
     some (((2 : Int), ()), ())
    else
     run_z21 (.p63 C0 C1 D0 D1 D2 D3)
   else
    run_z21 (.p63 C0 C1 D0 D1 D2 D3)
 | .p63 C0 C1 D0 D1 D2 D3 =>
  (run_z22 (.start D3 C0 C1)) >>= fun t1 =>
  some ((t1.1.2.1, ()), ())
 partial_fixpoint
def run_z22 : uV5 → Option vk6
 | .start l0 C0 C1 =>
  run_z22 (.p52 l0 (List.length l0 : Int) (0 : Int) C0 C1)
 | .p52 s9 s10 s11 C0 C1 =>
  if (decide (s11 < s10)) = true then
   (idx s9 s11) >>= fun t1 =>
   (uC7 (.start s11 t1.Kind t1.Value t1.Name t1.Parts (⟨C0, C1⟩ : un5))) >>= fun t2 =>
   if (t2.1.1 != (0 : Int)) = true then
    some ((s11, (t2.1.1, ())), ((C0, (C1, ())), ()))
   else
    run_z22 (.p52 s9 s10 (IntKind.wrap .i64 (s11 + (1 : Int))) C0 C1)
  else
   some (((0 : Int), ((0 : Int), ())), ((C0, (C1, ())), ()))
 partial_fixpoint
end
def xf8 : List (Plc E u45) := []
theorem wM2 : All (ub7 9 0 uy7 vr4) xf8 := trivial
def uz9 : Code := Tryz.f161.body.getD .skip
def w73 (run' : u45 → Option vB7) : Con E := ⟨161, (Int × ((Int × (Int × (ByteArray × ((List ua1) × Unit)))) × (un5 × Unit))), Unit, (RwL.cons (Rd.int .i64).w (RwL.cons (Rw.agg (RwL.cons (Rd.int .i64).w (RwL.cons (Rd.int .i64).w (RwL.cons Rd.str.w (RwL.cons (Rw.sl 25) RwL.nil))))) (RwL.cons (Rd.el 107 0).w RwL.nil))), RdBL.nil, 0, vB7, fun a b => run' (.start a.1 a.2.1.1 a.2.1.2.1 a.2.1.2.2.1 a.2.1.2.2.2.1 a.2.2.1), uk9.av, uk9.bx⟩
theorem wH2 {run' : u45 → Option vB7} (ih : ∀ pt r, run' pt = some r → Good E Tryz.f161 uz9 0 (uk9.av r) (uk9.bx r) (uy7 pt) (vr4 pt)) : (w73 run').Ok := fun a b r h => ub2 (fn := Tryz.f161) (code := uz9) E_ok (by kernel_rfl) (by kernel_rfl) (by kernel_rfl) (Nat.le_of_ble_eq_true rfl) (ih (.start a.1 a.2.1.1 a.2.1.2.1 a.2.1.2.2.1 a.2.1.2.2.2.1 a.2.2.1) r h)
def xf9 : List (Plc E uV4) := [⟨15, [true, true, true], { slots := [2, 3, 5], rows := [], flat := [], keep := 0 }, _, _, (.cons (Rd.bp 0 0) (.cons (Rd.bp 1 0) (.cons (Rd.int .i64) .nil))), (.cons (.var 107 (.cons (Rd.sl 103 false) (.cons (Rd.sl 9 false) .nil))) (.cons (.var 25 (.cons (Rd.int .i64) (.cons (Rd.int .i64) (.cons Rd.str (.cons (Rd.sl 25 false) .nil))))) .nil)), fun a b => .p15 a.2.2.1 b.1.1 b.1.2.1 b.2.1.1 b.2.1.2.1 b.2.1.2.2.1 b.2.1.2.2.2.1⟩,
 ⟨63, [true, true, true, true, true], { slots := [2, 3], rows := [], flat := [], keep := 0 }, _, _, (.cons (Rd.bp 0 0) (.cons (Rd.bp 1 0) .nil)), (.cons (.var 107 (.cons (Rd.sl 103 false) (.cons (Rd.sl 9 false) .nil))) (.cons (.var 25 (.cons (Rd.int .i64) (.cons (Rd.int .i64) (.cons Rd.str (.cons (Rd.sl 25 false) .nil))))) .nil)), fun a b => .p63 b.1.1 b.1.2.1 b.2.1.1 b.2.1.2.1 b.2.1.2.2.1 b.2.1.2.2.2.1⟩]
theorem wM3 : All (ub7 66 0 ut6 vi0) xf9 := ⟨⟨rfl, rfl, fun _ _ => rfl, fun _ _ => rfl⟩, ⟨⟨rfl, rfl, fun _ _ => rfl, fun _ _ => rfl⟩, trivial⟩⟩
def uv7 : Code := Tryz.f141.body.getD .skip
def vV2 (run' : uV4 → Option vk5) : Con E := ⟨141, (((List ua2) × ((List ByteArray) × Unit)) × ((Int × (Int × (ByteArray × ((List ua1) × Unit)))) × Unit)), Unit, (RwL.cons (Rw.agg (RwL.cons (Rw.sl 103) (RwL.cons (Rw.sl 9) RwL.nil))) (RwL.cons (Rw.agg (RwL.cons (Rd.int .i64).w (RwL.cons (Rd.int .i64).w (RwL.cons Rd.str.w (RwL.cons (Rw.sl 25) RwL.nil))))) RwL.nil)), RdBL.nil, 0, vk5, fun a b => run' (.start a.1.1 a.1.2.1 a.2.1.1 a.2.1.2.1 a.2.1.2.2.1 a.2.1.2.2.2.1), ui4.av, ui4.bx⟩
theorem vp5 {run' : uV4 → Option vk5} (ih : ∀ pt r, run' pt = some r → Good E Tryz.f141 uv7 0 (ui4.av r) (ui4.bx r) (ut6 pt) (vi0 pt)) : (vV2 run').Ok := fun a b r h => ub2 (fn := Tryz.f141) (code := uv7) E_ok (by kernel_rfl) (by kernel_rfl) (by kernel_rfl) (Nat.le_of_ble_eq_true rfl) (ih (.start a.1.1 a.1.2.1 a.2.1.1 a.2.1.2.1 a.2.1.2.2.1 a.2.1.2.2.2.1) r h)
def xg0 : List (Plc E uV5) := [⟨52, [false, false, true, false, true], { slots := [1, 9, 10, 11], rows := [], flat := [], keep := 1 }, _, _, (.cons (Rd.fn 161 (.cons (Rd.bp 0 0) .nil)) (.cons (Rd.sl 25 false) (.cons (Rd.int .i64) (.cons (Rd.int .i64) .nil)))), (.cons (.var 107 (.cons (Rd.sl 103 false) (.cons (Rd.sl 9 false) .nil))) .nil), fun a b => .p52 a.2.1 a.2.2.1 a.2.2.2.1 b.1.1 b.1.2.1⟩]
theorem wM4 : All (ub7 25 1 ut7 vi1) xg0 := ⟨⟨rfl, rfl, fun _ _ => rfl, fun _ _ => rfl⟩, trivial⟩
def uv8 : Code := Tryz.f160.body.getD .skip
def vV3 (run' : uV5 → Option vk6) : Con E := ⟨160, ((List ua1) × ((Unit × Unit) × Unit)), (((List ua2) × ((List ByteArray) × Unit)) × Unit), (RwL.cons (Rw.sl 25) (RwL.cons (Rd.fn 161 (RdL.cons (Rd.bp 0 0) RdL.nil)).w RwL.nil)), (RdBL.cons (RdB.var 107 (RdL.cons (Rd.sl 103 false) (RdL.cons (Rd.sl 9 false) RdL.nil))) RdBL.nil), 1, vk6, fun a b => run' (.start a.1 b.1.1 b.1.2.1), ui5.av, ui5.bx⟩
theorem vp6 {run' : uV5 → Option vk6} (ih : ∀ pt r, run' pt = some r → Good E Tryz.f160 uv8 1 (ui5.av r) (ui5.bx r) (ut7 pt) (vi1 pt)) : (vV3 run').Ok := fun a b r h => ub2 (fn := Tryz.f160) (code := uv8) E_ok (by kernel_rfl) (by kernel_rfl) (by kernel_rfl) (Nat.le_of_ble_eq_true rfl) (ih (.start a.1 b.1.1 b.1.2.1) r h)
def wl7 (r_z21 : uV4 → Option vk5) : Spec E.S := (Con.add (vV2 r_z21) ub0)
theorem v25 {r_z21 : uV4 → Option vk5} (h_z21 : ∀ pt r, r_z21 pt = some r → Good E Tryz.f141 uv7 0 (ui4.av r) (ui4.bx r) (ut6 pt) (vi0 pt)) : ua9 E (wl7 r_z21) := (Con.add_ok (vp5 h_z21) ua7)
def wl8 (r_z21 : uV4 → Option vk5) (r_z22 : uV5 → Option vk6) : Spec E.S := (Con.add (vV3 r_z22) (Con.add (vV2 r_z21) (Con.add uR8 (Con.add vS0 (Con.add w28 ub0)))))
theorem v26 {r_z21 : uV4 → Option vk5} (h_z21 : ∀ pt r, r_z21 pt = some r → Good E Tryz.f141 uv7 0 (ui4.av r) (ui4.bx r) (ut6 pt) (vi0 pt)) {r_z22 : uV5 → Option vk6} (h_z22 : ∀ pt r, r_z22 pt = some r → Good E Tryz.f160 uv8 1 (ui5.av r) (ui5.bx r) (ut7 pt) (vi1 pt)) : ua9 E (wl8 r_z21 r_z22) := (Con.add_ok (vp6 h_z22) (Con.add_ok (vp5 h_z21) (Con.add_ok uq3 (Con.add_ok vm8 (Con.add_ok vF0 ua7)))))
def wl9 (r_z20 : u45 → Option vB7) (r_z22 : uV5 → Option vk6) : Spec E.S := (Con.add (vV3 r_z22) (Con.add (w73 r_z20) ub0))
theorem v27 {r_z20 : u45 → Option vB7} (h_z20 : ∀ pt r, r_z20 pt = some r → Good E Tryz.f161 uz9 0 (uk9.av r) (uk9.bx r) (uy7 pt) (vr4 pt)) {r_z22 : uV5 → Option vk6} (h_z22 : ∀ pt r, r_z22 pt = some r → Good E Tryz.f160 uv8 1 (ui5.av r) (ui5.bx r) (ut7 pt) (vi1 pt)) : ua9 E (wl9 r_z20 r_z22) := (Con.add_ok (vp6 h_z22) (Con.add_ok (wH2 h_z20) ua7))
theorem u72 : (∀ pt r, uC7 pt = some r → Good E Tryz.f161 uz9 0 (uk9.av r) (uk9.bx r) (uy7 pt) (vr4 pt)) ∧ (∀ pt r, run_z21 pt = some r → Good E Tryz.f141 uv7 0 (ui4.av r) (ui4.bx r) (ut6 pt) (vi0 pt)) ∧ (∀ pt r, run_z22 pt = some r → Good E Tryz.f160 uv8 1 (ui5.av r) (ui5.bx r) (ut7 pt) (vi1 pt)) := by
  refine uC7.mutual_partial_correctness (fun pt r => Good E Tryz.f161 uz9 0 (uk9.av r) (uk9.bx r) (uy7 pt) (vr4 pt)) (fun pt r => Good E Tryz.f141 uv7 0 (ui4.av r) (ui4.bx r) (ut6 pt) (vi0 pt)) (fun pt r => Good E Tryz.f160 uv8 1 (ui5.av r) (ui5.bx r) (ut7 pt) (vi1 pt)) ?_ ?_ ?_
  · intro r_z21 h_z21 pt r hr
    cases pt <;> exact ua8 (spec := (wl7 r_z21)) (wr := (mkWr [] [])) (l := xf8) (z := 9) (p := uk9) (run' := fun _ => none) E_ok wM2.mem rfl (v25 h_z21) (fun _ _ h => by cases h) (Eq.trans (by kernel_rfl) hr)
  · intro r_z21 r_z22 h_z21 h_z22 pt r hr
    cases pt <;> exact ua8 (spec := (wl8 r_z21 r_z22)) (wr := (mkWr [] [])) (l := xf9) (z := 66) (p := ui4) E_ok wM3.mem rfl (v26 h_z21 h_z22) h_z21 (Eq.trans (by kernel_rfl) hr)
  · intro r_z20 r_z22 h_z20 h_z22 pt r hr
    cases pt <;> exact ua8 (spec := (wl9 r_z20 r_z22)) (wr := (mkWr [] [])) (l := xg0) (z := 25) (p := ui5) E_ok wM4.mem rfl (v27 h_z20 h_z22) h_z22 (Eq.trans (by kernel_rfl) hr)
theorem xu5 : ∀ pt r, uC7 pt = some r → Good E Tryz.f161 uz9 0 (uk9.av r) (uk9.bx r) (uy7 pt) (vr4 pt) := u72.1
theorem xu6 : ∀ pt r, run_z21 pt = some r → Good E Tryz.f141 uv7 0 (ui4.av r) (ui4.bx r) (ut6 pt) (vi0 pt) := u72.2.1
theorem xu7 : ∀ pt r, run_z22 pt = some r → Good E Tryz.f160 uv8 1 (ui5.av r) (ui5.bx r) (ut7 pt) (vi1 pt) := u72.2.2
def xR6 : Con E := ⟨161, _, _, (.cons (Rd.int .i64).w (.cons (Rw.agg (.cons (Rd.int .i64).w (.cons (Rd.int .i64).w (.cons Rd.str.w (.cons (Rw.sl 25) .nil))))) (.cons (Rd.el 107 0).w .nil))), .nil, 0, vB7, fun a b => uC7 (.start a.1 a.2.1.1 a.2.1.2.1 a.2.1.2.2.1 a.2.1.2.2.2.1 a.2.2.1), uk9.av, uk9.bx⟩
theorem xY6 : xR6.Ok := fun a b r h => ub2 (fn := Tryz.f161) (code := uz9) E_ok (by kernel_rfl) (by kernel_rfl) (by kernel_rfl) (Nat.le_of_ble_eq_true rfl) (xu5 (.start a.1 a.2.1.1 a.2.1.2.1 a.2.1.2.2.1 a.2.1.2.2.2.1 a.2.2.1) r h)
def wX8 : Con E := ⟨141, _, _, (.cons (Rw.agg (.cons (Rw.sl 103) (.cons (Rw.sl 9) .nil))) (.cons (Rw.agg (.cons (Rd.int .i64).w (.cons (Rd.int .i64).w (.cons Rd.str.w (.cons (Rw.sl 25) .nil))))) .nil)), .nil, 0, vk5, fun a b => run_z21 (.start a.1.1 a.1.2.1 a.2.1.1 a.2.1.2.1 a.2.1.2.2.1 a.2.1.2.2.2.1), ui4.av, ui4.bx⟩
theorem wA3 : wX8.Ok := fun a b r h => ub2 (fn := Tryz.f141) (code := uv7) E_ok (by kernel_rfl) (by kernel_rfl) (by kernel_rfl) (Nat.le_of_ble_eq_true rfl) (xu6 (.start a.1.1 a.1.2.1 a.2.1.1 a.2.1.2.1 a.2.1.2.2.1 a.2.1.2.2.2.1) r h)
def xR7 : Con E := ⟨160, _, _, (.cons (Rw.sl 25) (.cons (Rd.fn 161 (.cons (Rd.bp 0 0) .nil)).w .nil)), (.cons (.var 107 (.cons (Rd.sl 103 false) (.cons (Rd.sl 9 false) .nil))) .nil), 1, vk6, fun a b => run_z22 (.start a.1 b.1.1 b.1.2.1), ui5.av, ui5.bx⟩
theorem xY7 : xR7.Ok := fun a b r h => ub2 (fn := Tryz.f160) (code := uv8) E_ok (by kernel_rfl) (by kernel_rfl) (by kernel_rfl) (Nat.le_of_ble_eq_true rfl) (xu7 (.start a.1 b.1.1 b.1.2.1) r h)
inductive wv9 where
 | start (s0_0 : (List ua2)) (s0_1 : (List ByteArray)) (t1_0 : Int) (t1_1 : Int) (t1_2 : ByteArray) (t1_3 : (List ua1))
def vH9 : wv9 → List Bool
 | .start .. => []
def xJ0 : wv9 → St E.S
 | .start s0_0 s0_1 t1_0 t1_1 t1_2 t1_3 => st0 14 [.agg [.sl 103 s0_0 false, .sl 9 s0_1 false], .agg [.v (.int .i64 t1_0), .v (.int .i64 t1_1), .v (.string t1_2), .sl 25 t1_3 false]] []
abbrev xO2 : Type := ((Int × Unit) × Unit)
def vc2 : Res E (Int × Unit) Unit := { rows := [], flat := [], keep := 0, done := [0], rl := (.cons (Rd.int .i64) .nil), rb := .nil }
def uH1 : wv9 → Option xO2
 | .start s0_0 s0_1 t1_0 t1_1 t1_2 t1_3 =>
  (uG9 (.start t1_0 t1_1 t1_2 t1_3)) >>= fun t1 =>
  if (t1.1.1 != (0 : Int)) = true then
   some ((t1.1.1, ()), ())
  else
   (run_z21 (.start s0_0 s0_1 t1_0 t1_1 t1_2 t1_3)) >>= fun t2 =>
   some ((t2.1.1, ()), ())
def xg1 : List (Plc E wv9) := []
theorem wM5 : All (ub7 14 0 vH9 xJ0) xg1 := trivial
def we7 : Code := Tryz.f105.body.getD .skip
def wm0 : Spec E.S := (Con.add wX8 (Con.add vR9 ub0))
theorem v28 : ua9 E wm0 := (Con.add_ok wA3 (Con.add_ok vm7 ua7))
theorem xu8 : ∀ pt r, uH1 pt = some r → Good E Tryz.f105 we7 0 (vc2.av r) (vc2.bx r) (vH9 pt) (xJ0 pt) := by
 intro pt r hr
 cases pt <;> exact ua8 (spec := wm0) (wr := (mkWr [] [])) (l := xg1) (z := 14) (p := vc2) (run' := fun _ => none) E_ok wM5.mem rfl v28 (fun _ _ h => by cases h) (Eq.trans (by kernel_rfl) hr)
def vS1 : Con E := ⟨105, _, _, (.cons (Rw.agg (.cons (Rw.sl 103) (.cons (Rw.sl 9) .nil))) (.cons (Rw.agg (.cons (Rd.int .i64).w (.cons (Rd.int .i64).w (.cons Rd.str.w (.cons (Rw.sl 25) .nil))))) .nil)), .nil, 0, xO2, fun a b => uH1 (.start a.1.1 a.1.2.1 a.2.1.1 a.2.1.2.1 a.2.1.2.2.1 a.2.1.2.2.2.1), vc2.av, vc2.bx⟩
theorem vm9 : vS1.Ok := fun a b r h => ub2 (fn := Tryz.f105) (code := we7) E_ok (by kernel_rfl) (by kernel_rfl) (by kernel_rfl) (Nat.le_of_ble_eq_true rfl) (xu8 (.start a.1.1 a.1.2.1 a.2.1.1 a.2.1.2.1 a.2.1.2.2.1 a.2.1.2.2.2.1) r h)
inductive ww0 where
 | start (s0 : Int) (f1_0 : ByteArray) (f1_1 : Int) (f1_2 : Int) (f1_3 : ByteArray) (f1_4 : (List ua1)) (D0 : (List ua2)) (D1 : (List ByteArray)) (B2 : (List ByteArray))
def vI0 : ww0 → List Bool
 | .start .. => []
def xJ1 : ww0 → St E.S
 | .start s0 f1_0 f1_1 f1_2 f1_3 f1_4 D0 D1 B2 => st0 24 [.v (.int .i64 s0), .agg [.v (.string f1_0), .v (.int .i64 f1_1), .v (.int .i64 f1_2), .v (.string f1_3), .sl 25 f1_4 false], .bp 0 0, .bp 1 0] [.var 101 [.rw 2], .var 107 [.sl 103 D0 false, .sl 9 D1 false], .row 9 B2 false]
abbrev xO3 : Type := ((Int × Unit) × ((Unit × Unit) × (((List ua2) × ((List ByteArray) × Unit)) × ((List ByteArray) × Unit))))
def vc3 : Res E (Int × Unit) ((Unit × Unit) × (((List ua2) × ((List ByteArray) × Unit)) × ((List ByteArray) × Unit))) := { rows := [], flat := [], keep := 2, done := [0], rl := (.cons (Rd.int .i64) .nil), rb := (.cons (.var 101 (.cons (Rd.rw 2) .nil)) (.cons (.var 107 (.cons (Rd.sl 103 false) (.cons (Rd.sl 9 false) .nil))) (.cons (.row 9 false) .nil))) }
def uZ7 : ww0 → Option xO3
 | .start s0 f1_0 f1_1 f1_2 f1_3 f1_4 D0 D1 B2 =>
  (ux6 (.start f1_0 B2)) >>= fun t1 =>
  if (t1.1.1 != (0 : Int)) = true then
   some ((t1.1.1, ()), (((), ()), ((D0, (D1, ())), (B2, ()))))
  else
   if (fits (List.length B2) (List.length ([f1_0] : List ByteArray)) 16) = true then
    (uH1 (.start D0 D1 f1_1 f1_2 f1_3 f1_4)) >>= fun t2 =>
    some ((t2.1.1, ()), (((), ()), ((D0, (D1, ())), (B2 ++ ([f1_0] : List ByteArray), ()))))
   else none
def xg2 : List (Plc E ww0) := []
theorem wM6 : All (ub7 24 2 vI0 xJ1) xg2 := trivial
def we8 : Code := Tryz.f117.body.getD .skip
def wm1 : Spec E.S := (Con.add vS1 (Con.add u61 ub0))
theorem v29 : ua9 E wm1 := (Con.add_ok vm9 (Con.add_ok uJ2 ua7))
theorem xu9 : ∀ pt r, uZ7 pt = some r → Good E Tryz.f117 we8 2 (vc3.av r) (vc3.bx r) (vI0 pt) (xJ1 pt) := by
 intro pt r hr
 cases pt <;> exact ua8 (spec := wm1) (wr := (mkWr [] [])) (l := xg2) (z := 24) (p := vc3) (run' := fun _ => none) E_ok wM6.mem rfl v29 (fun _ _ h => by cases h) (Eq.trans (by kernel_rfl) hr)
def wX9 : Con E := ⟨117, _, _, (.cons (Rd.int .i64).w (.cons (Rw.agg (.cons Rd.str.w (.cons (Rd.int .i64).w (.cons (Rd.int .i64).w (.cons Rd.str.w (.cons (Rw.sl 25) .nil)))))) (.cons (Rd.bp 0 0).w (.cons (Rd.bp 1 0).w .nil)))), (.cons (.var 101 (.cons (Rd.rw 2) .nil)) (.cons (.var 107 (.cons (Rd.sl 103 false) (.cons (Rd.sl 9 false) .nil))) (.cons (.row 9 false) .nil))), 2, xO3, fun a b => uZ7 (.start a.1 a.2.1.1 a.2.1.2.1 a.2.1.2.2.1 a.2.1.2.2.2.1 a.2.1.2.2.2.2.1 b.2.1.1 b.2.1.2.1 b.2.2.1), vc3.av, vc3.bx⟩
theorem wA4 : wX9.Ok := fun a b r h => ub2 (fn := Tryz.f117) (code := we8) E_ok (by kernel_rfl) (by kernel_rfl) (by kernel_rfl) (Nat.le_of_ble_eq_true rfl) (xu9 (.start a.1 a.2.1.1 a.2.1.2.1 a.2.1.2.2.1 a.2.1.2.2.2.1 a.2.1.2.2.2.2.1 b.2.1.1 b.2.1.2.1 b.2.2.1) r h)
inductive ww1 where
 | start (l0 : (List ua6)) (D0 : (List ua2)) (D1 : (List ByteArray))
 | p52 (s9 : (List ua6)) (s10 : Int) (s11 : Int) (D0 : (List ua2)) (D1 : (List ByteArray)) (B2 : (List ByteArray))
def u91 : ww1 → List Bool
 | .start .. => []
 | .p52 .. => [false, false, true, false, true]
def xc2 : ww1 → St E.S
 | .start l0 D0 D1 => st0 25 [.sl 58 l0 false, .fn 117 [.bp 0 0, .bp 1 0]] [.var 101 [.nl], .var 107 [.sl 103 D0 false, .sl 9 D1 false]]
 | .p52 s9 s10 s11 D0 D1 B2 => mkSt 25 [1, 9, 10, 11] [.fn 117 [.bp 0 0, .bp 1 0], .sl 58 s9 false, .v (.int .i64 s10), .v (.int .i64 s11)] [.var 101 [.rw 2], .var 107 [.sl 103 D0 false, .sl 9 D1 false], .row 9 B2 false]
abbrev xO4 : Type := ((Int × (Int × Unit)) × ((Unit × Unit) × (((List ua2) × ((List ByteArray) × Unit)) × ((List ByteArray) × Unit))))
def uN9 : Res E (Int × (Int × Unit)) ((Unit × Unit) × (((List ua2) × ((List ByteArray) × Unit)) × ((List ByteArray) × Unit))) := { rows := [], flat := [], keep := 2, done := [0, 1, 100000], rl := (.cons (Rd.int .i64) (.cons (Rd.int .i64) .nil)), rb := (.cons (.var 101 (.cons (Rd.rw 2) .nil)) (.cons (.var 107 (.cons (Rd.sl 103 false) (.cons (Rd.sl 9 false) .nil))) (.cons (.row 9 true) .nil))) }
def um6 : ww1 → Option xO4
 | .start l0 D0 D1 =>
  um6 (.p52 l0 (List.length l0 : Int) (0 : Int) D0 D1 ([] : List ByteArray))
 | .p52 s9 s10 s11 D0 D1 B2 =>
  if (decide (s11 < s10)) = true then
   (idx s9 s11) >>= fun t1 =>
   (uZ7 (.start s11 t1.Name t1.Type_.Kind t1.Type_.Value t1.Type_.Name t1.Type_.Parts D0 D1 B2)) >>= fun t2 =>
   if (t2.1.1 != (0 : Int)) = true then
    some ((s11, (t2.1.1, ())), (((), ()), ((t2.2.2.1.1, (t2.2.2.1.2.1, ())), (t2.2.2.2.1, ()))))
   else
    um6 (.p52 s9 s10 (IntKind.wrap .i64 (s11 + (1 : Int))) t2.2.2.1.1 t2.2.2.1.2.1 t2.2.2.2.1)
  else
   some (((0 : Int), ((0 : Int), ())), (((), ()), ((D0, (D1, ())), (B2, ()))))
 partial_fixpoint
def xg3 : List (Plc E ww1) := [⟨52, [false, false, true, false, true], { slots := [1, 9, 10, 11], rows := [], flat := [], keep := 2, up := [(true, 100000, 0, 9)] }, _, _, (.cons (Rd.fn 117 (.cons (Rd.bp 0 0) (.cons (Rd.bp 1 0) .nil))) (.cons (Rd.sl 58 false) (.cons (Rd.int .i64) (.cons (Rd.int .i64) .nil)))), (.cons (.var 101 (.cons (Rd.rw 2) .nil)) (.cons (.var 107 (.cons (Rd.sl 103 false) (.cons (Rd.sl 9 false) .nil))) (.cons (.row 9 false) .nil))), fun a b => .p52 a.2.1 a.2.2.1 a.2.2.2.1 b.2.1.1 b.2.1.2.1 b.2.2.1⟩]
theorem wM7 : All (ub7 25 2 u91 xc2) xg3 := ⟨⟨rfl, rfl, fun _ _ => rfl, fun _ _ => rfl⟩, trivial⟩
def vt4 : Code := Tryz.f116.body.getD .skip
def wm2 : Spec E.S := (Con.add wX9 ub0)
theorem v30 : ua9 E wm2 := (Con.add_ok wA4 ua7)
theorem xv0 : ∀ pt r, um6 pt = some r → Good E Tryz.f116 vt4 2 (uN9.av r) (uN9.bx r) (u91 pt) (xc2 pt) := by
 refine um6.partial_correctness (fun pt r => Good E Tryz.f116 vt4 2 (uN9.av r) (uN9.bx r) (u91 pt) (xc2 pt)) ?_
 intro run' ih pt r hr
 cases pt <;> exact ua8 (spec := wm2) (wr := (mkWr [] [])) (l := xg3) (z := 25) (p := uN9) E_ok wM7.mem rfl v30 ih (Eq.trans (by kernel_rfl) hr)
def wY0 : Con E := ⟨116, _, _, (.cons (Rw.sl 58) (.cons (Rd.fn 117 (.cons (Rd.bp 0 0) (.cons (Rd.bp 1 0) .nil))).w .nil)), (.cons (.var 101 (.cons Rd.nl .nil)) (.cons (.var 107 (.cons (Rd.sl 103 false) (.cons (Rd.sl 9 false) .nil))) .nil)), 2, xO4, fun a b => um6 (.start a.1 b.2.1.1 b.2.1.2.1), uN9.av, uN9.bx⟩
theorem wA5 : wY0.Ok := fun a b r h => ub2 (fn := Tryz.f116) (code := vt4) E_ok (by kernel_rfl) (by kernel_rfl) (by kernel_rfl) (Nat.le_of_ble_eq_true rfl) (xv0 (.start a.1 b.2.1.1 b.2.1.2.1) r h)
inductive ww2 where
 | start (s0 : Int) (c1_0 : ByteArray) (c1_1 : (List ua6)) (D0 : (List ua2)) (D1 : (List ByteArray)) (B2 : (List ByteArray))
def vI1 : ww2 → List Bool
 | .start .. => []
def xJ2 : ww2 → St E.S
 | .start s0 c1_0 c1_1 D0 D1 B2 => st0 38 [.v (.int .i64 s0), .agg [.v (.string c1_0), .sl 58 c1_1 false], .bp 0 0, .bp 1 0] [.var 101 [.rw 2], .var 107 [.sl 103 D0 false, .sl 9 D1 false], .row 9 B2 true]
abbrev xO5 : Type := ((Int × Unit) × ((Unit × Unit) × (((List ua2) × ((List ByteArray) × Unit)) × ((List ByteArray) × Unit))))
def vc4 : Res E (Int × Unit) ((Unit × Unit) × (((List ua2) × ((List ByteArray) × Unit)) × ((List ByteArray) × Unit))) := { rows := [], flat := [], keep := 2, done := [0], rl := (.cons (Rd.int .i64) .nil), rb := (.cons (.var 101 (.cons (Rd.rw 2) .nil)) (.cons (.var 107 (.cons (Rd.sl 103 false) (.cons (Rd.sl 9 false) .nil))) (.cons (.row 9 true) .nil))) }
def uZ8 : ww2 → Option xO5
 | .start s0 c1_0 c1_1 D0 D1 B2 =>
  (ux6 (.start c1_0 B2)) >>= fun t1 =>
  (uc4 (.start (decide ((List.length c1_1 : Int) ≤ (8 : Int))) (8 : Int))) >>= fun t2 =>
  (uc8 (.start ([t1.1.1, t2.1.1] : List Int))) >>= fun t3 =>
  if (t3.1.1 != (0 : Int)) = true then
   some ((t3.1.1, ()), (((), ()), ((D0, (D1, ())), (B2, ()))))
  else
   if (fits (List.length B2) (List.length ([c1_0] : List ByteArray)) 16) = true then
    (um6 (.start c1_1 D0 D1)) >>= fun t4 =>
    some ((t4.1.2.1, ()), (((), ()), ((t4.2.2.1.1, (t4.2.2.1.2.1, ())), (B2 ++ ([c1_0] : List ByteArray), ()))))
   else none
def xg4 : List (Plc E ww2) := []
theorem wM8 : All (ub7 38 2 vI1 xJ2) xg4 := trivial
def we9 : Code := Tryz.f115.body.getD .skip
def wm3 : Spec E.S := (Con.add wY0 (Con.add uE3 (Con.add uR9 (Con.add u61 ub0))))
theorem v32 : ua9 E wm3 := (Con.add_ok wA5 (Con.add_ok un4 (Con.add_ok uq4 (Con.add_ok uJ2 ua7))))
theorem xv1 : ∀ pt r, uZ8 pt = some r → Good E Tryz.f115 we9 2 (vc4.av r) (vc4.bx r) (vI1 pt) (xJ2 pt) := by
 intro pt r hr
 cases pt <;> exact ua8 (spec := wm3) (wr := (mkWr [] [])) (l := xg4) (z := 38) (p := vc4) (run' := fun _ => none) E_ok wM8.mem rfl v32 (fun _ _ h => by cases h) (Eq.trans (by kernel_rfl) hr)
def wY1 : Con E := ⟨115, _, _, (.cons (Rd.int .i64).w (.cons (Rw.agg (.cons Rd.str.w (.cons (Rw.sl 58) .nil))) (.cons (Rd.bp 0 0).w (.cons (Rd.bp 1 0).w .nil)))), (.cons (.var 101 (.cons (Rd.rw 2) .nil)) (.cons (.var 107 (.cons (Rd.sl 103 false) (.cons (Rd.sl 9 false) .nil))) (.cons (.row 9 true) .nil))), 2, xO5, fun a b => uZ8 (.start a.1 a.2.1.1 a.2.1.2.1 b.2.1.1 b.2.1.2.1 b.2.2.1), vc4.av, vc4.bx⟩
theorem wA6 : wY1.Ok := fun a b r h => ub2 (fn := Tryz.f115) (code := we9) E_ok (by kernel_rfl) (by kernel_rfl) (by kernel_rfl) (Nat.le_of_ble_eq_true rfl) (xv1 (.start a.1 a.2.1.1 a.2.1.2.1 b.2.1.1 b.2.1.2.1 b.2.2.1) r h)
inductive ww3 where
 | start (l0 : (List ua0)) (D0 : (List ua2)) (D1 : (List ByteArray)) (B2 : (List ByteArray))
 | p52 (s9 : (List ua0)) (s10 : Int) (s11 : Int) (D0 : (List ua2)) (D1 : (List ByteArray)) (B2 : (List ByteArray))
def u92 : ww3 → List Bool
 | .start .. => []
 | .p52 .. => [false, false, true, false, true]
def xc3 : ww3 → St E.S
 | .start l0 D0 D1 B2 => st0 25 [.sl 56 l0 false, .fn 115 [.bp 0 0, .bp 1 0]] [.var 101 [.rw 2], .var 107 [.sl 103 D0 false, .sl 9 D1 false], .row 9 B2 true]
 | .p52 s9 s10 s11 D0 D1 B2 => mkSt 25 [1, 9, 10, 11] [.fn 115 [.bp 0 0, .bp 1 0], .sl 56 s9 false, .v (.int .i64 s10), .v (.int .i64 s11)] [.var 101 [.rw 2], .var 107 [.sl 103 D0 false, .sl 9 D1 false], .row 9 B2 true]
abbrev xO6 : Type := ((Int × (Int × Unit)) × ((Unit × Unit) × (((List ua2) × ((List ByteArray) × Unit)) × ((List ByteArray) × Unit))))
def uO0 : Res E (Int × (Int × Unit)) ((Unit × Unit) × (((List ua2) × ((List ByteArray) × Unit)) × ((List ByteArray) × Unit))) := { rows := [], flat := [], keep := 2, done := [0, 1], rl := (.cons (Rd.int .i64) (.cons (Rd.int .i64) .nil)), rb := (.cons (.var 101 (.cons (Rd.rw 2) .nil)) (.cons (.var 107 (.cons (Rd.sl 103 false) (.cons (Rd.sl 9 false) .nil))) (.cons (.row 9 true) .nil))) }
def um7 : ww3 → Option xO6
 | .start l0 D0 D1 B2 =>
  um7 (.p52 l0 (List.length l0 : Int) (0 : Int) D0 D1 B2)
 | .p52 s9 s10 s11 D0 D1 B2 =>
  if (decide (s11 < s10)) = true then
   (idx s9 s11) >>= fun t1 =>
   (uZ8 (.start s11 t1.Name t1.Fields D0 D1 B2)) >>= fun t2 =>
   if (t2.1.1 != (0 : Int)) = true then
    some ((s11, (t2.1.1, ())), (((), ()), ((t2.2.2.1.1, (t2.2.2.1.2.1, ())), (t2.2.2.2.1, ()))))
   else
    um7 (.p52 s9 s10 (IntKind.wrap .i64 (s11 + (1 : Int))) t2.2.2.1.1 t2.2.2.1.2.1 t2.2.2.2.1)
  else
   some (((0 : Int), ((0 : Int), ())), (((), ()), ((D0, (D1, ())), (B2, ()))))
 partial_fixpoint
def xg5 : List (Plc E ww3) := [⟨52, [false, false, true, false, true], { slots := [1, 9, 10, 11], rows := [], flat := [], keep := 2 }, _, _, (.cons (Rd.fn 115 (.cons (Rd.bp 0 0) (.cons (Rd.bp 1 0) .nil))) (.cons (Rd.sl 56 false) (.cons (Rd.int .i64) (.cons (Rd.int .i64) .nil)))), (.cons (.var 101 (.cons (Rd.rw 2) .nil)) (.cons (.var 107 (.cons (Rd.sl 103 false) (.cons (Rd.sl 9 false) .nil))) (.cons (.row 9 true) .nil))), fun a b => .p52 a.2.1 a.2.2.1 a.2.2.2.1 b.2.1.1 b.2.1.2.1 b.2.2.1⟩]
theorem wM9 : All (ub7 25 2 u92 xc3) xg5 := ⟨⟨rfl, rfl, fun _ _ => rfl, fun _ _ => rfl⟩, trivial⟩
def vt5 : Code := Tryz.f114.body.getD .skip
def wm4 : Spec E.S := (Con.add wY1 ub0)
theorem v33 : ua9 E wm4 := (Con.add_ok wA6 ua7)
theorem xv2 : ∀ pt r, um7 pt = some r → Good E Tryz.f114 vt5 2 (uO0.av r) (uO0.bx r) (u92 pt) (xc3 pt) := by
 refine um7.partial_correctness (fun pt r => Good E Tryz.f114 vt5 2 (uO0.av r) (uO0.bx r) (u92 pt) (xc3 pt)) ?_
 intro run' ih pt r hr
 cases pt <;> exact ua8 (spec := wm4) (wr := (mkWr [] [])) (l := xg5) (z := 25) (p := uO0) E_ok wM9.mem rfl v33 ih (Eq.trans (by kernel_rfl) hr)
def wY2 : Con E := ⟨114, _, _, (.cons (Rw.sl 56) (.cons (Rd.fn 115 (.cons (Rd.bp 0 0) (.cons (Rd.bp 1 0) .nil))).w .nil)), (.cons (.var 101 (.cons (Rd.rw 2) .nil)) (.cons (.var 107 (.cons (Rd.sl 103 false) (.cons (Rd.sl 9 false) .nil))) (.cons (.row 9 true) .nil))), 2, xO6, fun a b => um7 (.start a.1 b.2.1.1 b.2.1.2.1 b.2.2.1), uO0.av, uO0.bx⟩
theorem wA7 : wY2.Ok := fun a b r h => ub2 (fn := Tryz.f114) (code := vt5) E_ok (by kernel_rfl) (by kernel_rfl) (by kernel_rfl) (Nat.le_of_ble_eq_true rfl) (xv2 (.start a.1 b.2.1.1 b.2.1.2.1 b.2.2.1) r h)
inductive ww4 where
 | start (s0_0 : (List ua2)) (s0_1 : (List ByteArray)) (d1_0 : ByteArray) (d1_1 : (List ByteArray)) (d1_2 : (List ua0)) (names2 : (List ByteArray)) (constructors3 : (List ByteArray))
 | p7 (constructors3 : (List ByteArray)) (e9 : Int) (C0 : (List ua2)) (C1 : (List ByteArray)) (D0 : ByteArray) (D1 : (List ByteArray)) (D2 : (List ua0))
def u93 : ww4 → List Bool
 | .start .. => []
 | .p7 .. => [true, true]
def xc4 : ww4 → St E.S
 | .start s0_0 s0_1 d1_0 d1_1 d1_2 names2 constructors3 => st0 64 [.agg [.sl 103 s0_0 false, .sl 9 s0_1 false], .agg [.v (.string d1_0), .sl 9 d1_1 false, .sl 56 d1_2 false], .sl 9 names2 true, .sl 9 constructors3 true] []
 | .p7 constructors3 e9 C0 C1 D0 D1 D2 => mkSt 64 [3, 4, 5, 9] [.sl 9 constructors3 true, .bp 0 0, .bp 1 0, .v (.int .i64 e9)] [.var 107 [.sl 103 C0 false, .sl 9 C1 false], .var 103 [.v (.string D0), .sl 9 D1 false, .sl 56 D2 false]]
abbrev xO7 : Type := ((Int × Unit) × Unit)
def uO1 : Res E (Int × Unit) Unit := { rows := [], flat := [], keep := 0, done := [0], rl := (.cons (Rd.int .i64) .nil), rb := .nil }
def up4 : ww4 → Option xO7
 | .start s0_0 s0_1 d1_0 d1_1 d1_2 names2 constructors3 =>
  if (fits (List.length names2) (List.length ([(⟨#[66, 105, 116]⟩ : ByteArray), (⟨#[66, 111, 111, 108]⟩ : ByteArray), (⟨#[73, 110, 116, 101, 103, 101, 114]⟩ : ByteArray)] : List ByteArray)) 16) = true then
   (ux6 (.start d1_0 (names2 ++ ([(⟨#[66, 105, 116]⟩ : ByteArray), (⟨#[66, 111, 111, 108]⟩ : ByteArray), (⟨#[73, 110, 116, 101, 103, 101, 114]⟩ : ByteArray)] : List ByteArray)))) >>= fun t1 =>
   if (decide ((List.length d1_1 : Int) ≤ (4 : Int))) = true then
    (uc4 (.start (decide ((List.length d1_2 : Int) ≤ (16 : Int))) (8 : Int))) >>= fun t2 =>
    (uc4 (.start (decide ((List.length d1_2 : Int) > (0 : Int))) (10 : Int))) >>= fun t3 =>
    (uc8 (.start ([t1.1.1, t2.1.1, t3.1.1] : List Int))) >>= fun t4 =>
    up4 (.p7 constructors3 t4.1.1 s0_0 s0_1 d1_0 d1_1 d1_2)
   else
    (uc4 (.start false (8 : Int))) >>= fun t5 =>
    (uc4 (.start (decide ((List.length d1_2 : Int) > (0 : Int))) (10 : Int))) >>= fun t6 =>
    (uc8 (.start ([t1.1.1, t5.1.1, t6.1.1] : List Int))) >>= fun t7 =>
    up4 (.p7 constructors3 t7.1.1 s0_0 s0_1 d1_0 d1_1 d1_2)
  else none
 | .p7 constructors3 e9 C0 C1 D0 D1 D2 =>
  if (e9 != (0 : Int)) = true then
   some ((e9, ()), ())
  else
   (um4 (.start D1 D0 D1 D2)) >>= fun t1 =>
   if (t1.1.2.1 != (0 : Int)) = true then
    some ((t1.1.2.1, ()), ())
   else
    if (fits (List.length constructors3) (List.length ([(⟨#[70, 97, 108, 115, 101]⟩ : ByteArray), (⟨#[84, 114, 117, 101]⟩ : ByteArray)] : List ByteArray)) 16) = true then
     (um7 (.start t1.2.1.2.2.1 C0 t1.2.1.2.1 (constructors3 ++ ([(⟨#[70, 97, 108, 115, 101]⟩ : ByteArray), (⟨#[84, 114, 117, 101]⟩ : ByteArray)] : List ByteArray)))) >>= fun t2 =>
     some ((t2.1.2.1, ()), ())
    else none
 partial_fixpoint
def xg6 : List (Plc E ww4) := [⟨7, [true, true], { slots := [3, 4, 5, 9], rows := [], flat := [], keep := 0 }, _, _, (.cons (Rd.sl 9 true) (.cons (Rd.bp 0 0) (.cons (Rd.bp 1 0) (.cons (Rd.int .i64) .nil)))), (.cons (.var 107 (.cons (Rd.sl 103 false) (.cons (Rd.sl 9 false) .nil))) (.cons (.var 103 (.cons Rd.str (.cons (Rd.sl 9 false) (.cons (Rd.sl 56 false) .nil)))) .nil)), fun a b => .p7 a.1 a.2.2.2.1 b.1.1 b.1.2.1 b.2.1.1 b.2.1.2.1 b.2.1.2.2.1⟩]
theorem wN0 : All (ub7 64 0 u93 xc4) xg6 := ⟨⟨rfl, rfl, fun _ _ => rfl, fun _ _ => rfl⟩, trivial⟩
def vt6 : Code := Tryz.f77.body.getD .skip
def wm5 : Spec E.S := (Con.add wY2 (Con.add wX1 (Con.add uE3 (Con.add uR9 (Con.add u61 ub0)))))
theorem v34 : ua9 E wm5 := (Con.add_ok wA7 (Con.add_ok wz8 (Con.add_ok un4 (Con.add_ok uq4 (Con.add_ok uJ2 ua7)))))
theorem xv3 : ∀ pt r, up4 pt = some r → Good E Tryz.f77 vt6 0 (uO1.av r) (uO1.bx r) (u93 pt) (xc4 pt) := by
 refine up4.partial_correctness (fun pt r => Good E Tryz.f77 vt6 0 (uO1.av r) (uO1.bx r) (u93 pt) (xc4 pt)) ?_
 intro run' ih pt r hr
 cases pt <;> exact ua8 (spec := wm5) (wr := (mkWr [] [])) (l := xg6) (z := 64) (p := uO1) E_ok wN0.mem rfl v34 ih (Eq.trans (by kernel_rfl) hr)
def vS2 : Con E := ⟨77, _, _, (.cons (Rw.agg (.cons (Rw.sl 103) (.cons (Rw.sl 9) .nil))) (.cons (Rw.agg (.cons Rd.str.w (.cons (Rw.sl 9) (.cons (Rw.sl 56) .nil)))) (.cons (Rd.sl 9 true).w (.cons (Rd.sl 9 true).w .nil)))), .nil, 0, xO7, fun a b => up4 (.start a.1.1 a.1.2.1 a.2.1.1 a.2.1.2.1 a.2.1.2.2.1 a.2.2.1 a.2.2.2.1), uO1.av, uO1.bx⟩
theorem vn0 : vS2.Ok := fun a b r h => ub2 (fn := Tryz.f77) (code := vt6) E_ok (by kernel_rfl) (by kernel_rfl) (by kernel_rfl) (Nat.le_of_ble_eq_true rfl) (xv3 (.start a.1.1 a.1.2.1 a.2.1.1 a.2.1.2.1 a.2.1.2.2.1 a.2.2.1 a.2.2.2.1) r h)
inductive xp2 where
 | start (i0 : Int) (d1_0 : ByteArray) (d1_1 : (List ByteArray)) (d1_2 : (List ua0)) (B0 : (List ua2)) (B3 : (List ByteArray)) (B4 : (List ByteArray))
 | p244 (e8 : Int) (s27 : (List ua0)) (s28 : Int) (s29 : Int) (B0 : (List ua2)) (B3 : (List ByteArray)) (B4 : (List ByteArray))
def u94 : xp2 → List Bool
 | .start .. => []
 | .p244 .. => [false, false, true, false, true, true, true]
def xc5 : xp2 → St E.S
 | .start i0 d1_0 d1_1 d1_2 B0 B3 B4 => st0 40 [.v (.int .i64 i0), .agg [.v (.string d1_0), .sl 9 d1_1 false, .sl 56 d1_2 false], .bp 0 0, .bp 1 0, .bp 2 0] [.var 22 [.sl 103 B0 false], .var 101 [.rw 3], .var 101 [.rw 4], .row 9 B3 false, .row 9 B4 false]
 | .p244 e8 s27 s28 s29 B0 B3 B4 => mkSt 40 [4, 8, 27, 28, 29] [.bp 2 0, .v (.int .i64 e8), .sl 56 s27 false, .v (.int .i64 s28), .v (.int .i64 s29)] [.var 22 [.sl 103 B0 false], .var 101 [.rw 3], .var 101 [.rw 4], .row 9 B3 true, .row 9 B4 true]
abbrev xZ8 : Type := ((Int × Unit) × (((List ua2) × Unit) × ((Unit × Unit) × ((Unit × Unit) × ((List ByteArray) × ((List ByteArray) × Unit))))))
def uO2 : Res E (Int × Unit) (((List ua2) × Unit) × ((Unit × Unit) × ((Unit × Unit) × ((List ByteArray) × ((List ByteArray) × Unit))))) := { rows := [], flat := [], keep := 3, done := [0], rl := (.cons (Rd.int .i64) .nil), rb := (.cons (.var 22 (.cons (Rd.sl 103 false) .nil)) (.cons (.var 101 (.cons (Rd.rw 3) .nil)) (.cons (.var 101 (.cons (Rd.rw 4) .nil)) (.cons (.row 9 true) (.cons (.row 9 true) .nil))))) }
def vg3 : xp2 → Option xZ8
 | .start i0 d1_0 d1_1 d1_2 B0 B3 B4 =>
  (span (List.length B0) (0 : Int) i0) >>= fun t1 =>
  (uM0 (.start B3)) >>= fun t2 =>
  (uM0 (.start B4)) >>= fun t3 =>
  (up4 (.start (cut B0 t1) ([]) d1_0 d1_1 d1_2 t2.1.1 t3.1.1)) >>= fun t4 =>
  if (fits (List.length B3) (List.length ([d1_0] : List ByteArray)) 16) = true then
   vg3 (.p244 t4.1.1 d1_2 (List.length d1_2 : Int) (0 : Int) B0 (B3 ++ ([d1_0] : List ByteArray)) B4)
  else none
 | .p244 e8 s27 s28 s29 B0 B3 B4 =>
  if (decide (s29 < s28)) = true then
   (idx s27 s29) >>= fun t1 =>
   if (fits (List.length B4) (List.length ([t1.Name] : List ByteArray)) 16) = true then
    vg3 (.p244 e8 s27 s28 (IntKind.wrap .i64 (s29 + (1 : Int))) B0 B3 (B4 ++ ([t1.Name] : List ByteArray)))
   else none
  else
   some ((e8, ()), ((B0, ()), (((), ()), (((), ()), (B3, (B4, ()))))))
 partial_fixpoint
def xg7 : List (Plc E xp2) := [⟨244, [false, false, true, false, true, true, true], { slots := [4, 8, 27, 28, 29], rows := [], flat := [], keep := 3 }, _, _, (.cons (Rd.bp 2 0) (.cons (Rd.int .i64) (.cons (Rd.sl 56 false) (.cons (Rd.int .i64) (.cons (Rd.int .i64) .nil))))), (.cons (.var 22 (.cons (Rd.sl 103 false) .nil)) (.cons (.var 101 (.cons (Rd.rw 3) .nil)) (.cons (.var 101 (.cons (Rd.rw 4) .nil)) (.cons (.row 9 true) (.cons (.row 9 true) .nil))))), fun a b => .p244 a.2.1 a.2.2.1 a.2.2.2.1 a.2.2.2.2.1 b.1.1 b.2.2.2.1 b.2.2.2.2.1⟩]
theorem wN1 : All (ub7 40 3 u94 xc5) xg7 := ⟨⟨rfl, rfl, fun _ _ => rfl, fun _ _ => rfl⟩, trivial⟩
def vt7 : Code := Tryz.f76.body.getD .skip
def wm6 : Spec E.S := (Con.add vS2 (Con.add wZ2 ub0))
theorem v35 : ua9 E wm6 := (Con.add_ok vn0 (Con.add_ok vE7 ua7))
theorem xv4 : ∀ pt r, vg3 pt = some r → Good E Tryz.f76 vt7 3 (uO2.av r) (uO2.bx r) (u94 pt) (xc5 pt) := by
 refine vg3.partial_correctness (fun pt r => Good E Tryz.f76 vt7 3 (uO2.av r) (uO2.bx r) (u94 pt) (xc5 pt)) ?_
 intro run' ih pt r hr
 cases pt <;> exact ua8 (spec := wm6) (wr := (mkWr [] [(6, [3, 4])])) (l := xg7) (z := 40) (p := uO2) E_ok wN1.mem rfl v35 ih (Eq.trans (by kernel_rfl) hr)
def xR8 : Con E := ⟨76, _, _, (.cons (Rd.int .i64).w (.cons (Rw.agg (.cons Rd.str.w (.cons (Rw.sl 9) (.cons (Rw.sl 56) .nil)))) (.cons (Rd.bp 0 0).w (.cons (Rd.bp 1 0).w (.cons (Rd.bp 2 0).w .nil))))), (.cons (.var 22 (.cons (Rd.sl 103 false) .nil)) (.cons (.var 101 (.cons (Rd.rw 3) .nil)) (.cons (.var 101 (.cons (Rd.rw 4) .nil)) (.cons (.row 9 false) (.cons (.row 9 false) .nil))))), 3, xZ8, fun a b => vg3 (.start a.1 a.2.1.1 a.2.1.2.1 a.2.1.2.2.1 b.1.1 b.2.2.2.1 b.2.2.2.2.1), uO2.av, uO2.bx⟩
theorem xY8 : xR8.Ok := fun a b r h => ub2 (fn := Tryz.f76) (code := vt7) E_ok (by kernel_rfl) (by kernel_rfl) (by kernel_rfl) (Nat.le_of_ble_eq_true rfl) (xv4 (.start a.1 a.2.1.1 a.2.1.2.1 a.2.1.2.2.1 b.1.1 b.2.2.2.1 b.2.2.2.2.1) r h)
inductive ww5 where
 | start (i0 : Int) (d1_0 : ByteArray) (d1_1 : (List ByteArray)) (d1_2 : (List ua0)) (B0 : (List ua2)) (B3 : (List ByteArray)) (B4 : (List ByteArray))
 | p244 (e8 : Int) (s27 : (List ua0)) (s28 : Int) (s29 : Int) (B0 : (List ua2)) (B3 : (List ByteArray)) (B4 : (List ByteArray))
def u95 : ww5 → List Bool
 | .start .. => []
 | .p244 .. => [false, false, true, false, true, true, true]
def xc6 : ww5 → St E.S
 | .start i0 d1_0 d1_1 d1_2 B0 B3 B4 => st0 40 [.v (.int .i64 i0), .agg [.v (.string d1_0), .sl 9 d1_1 false, .sl 56 d1_2 false], .bp 0 0, .bp 1 0, .bp 2 0] [.var 22 [.sl 103 B0 false], .var 101 [.rw 3], .var 101 [.rw 4], .row 9 B3 true, .row 9 B4 true]
 | .p244 e8 s27 s28 s29 B0 B3 B4 => mkSt 40 [4, 8, 27, 28, 29] [.bp 2 0, .v (.int .i64 e8), .sl 56 s27 false, .v (.int .i64 s28), .v (.int .i64 s29)] [.var 22 [.sl 103 B0 false], .var 101 [.rw 3], .var 101 [.rw 4], .row 9 B3 true, .row 9 B4 true]
abbrev xO8 : Type := ((Int × Unit) × (((List ua2) × Unit) × ((Unit × Unit) × ((Unit × Unit) × ((List ByteArray) × ((List ByteArray) × Unit))))))
def uO3 : Res E (Int × Unit) (((List ua2) × Unit) × ((Unit × Unit) × ((Unit × Unit) × ((List ByteArray) × ((List ByteArray) × Unit))))) := { rows := [], flat := [], keep := 3, done := [0], rl := (.cons (Rd.int .i64) .nil), rb := (.cons (.var 22 (.cons (Rd.sl 103 false) .nil)) (.cons (.var 101 (.cons (Rd.rw 3) .nil)) (.cons (.var 101 (.cons (Rd.rw 4) .nil)) (.cons (.row 9 true) (.cons (.row 9 true) .nil))))) }
def um8 : ww5 → Option xO8
 | .start i0 d1_0 d1_1 d1_2 B0 B3 B4 =>
  (span (List.length B0) (0 : Int) i0) >>= fun t1 =>
  (uM0 (.start B3)) >>= fun t2 =>
  (uM0 (.start B4)) >>= fun t3 =>
  (up4 (.start (cut B0 t1) ([]) d1_0 d1_1 d1_2 t2.1.1 t3.1.1)) >>= fun t4 =>
  if (fits (List.length B3) (List.length ([d1_0] : List ByteArray)) 16) = true then
   um8 (.p244 t4.1.1 d1_2 (List.length d1_2 : Int) (0 : Int) B0 (B3 ++ ([d1_0] : List ByteArray)) B4)
  else none
 | .p244 e8 s27 s28 s29 B0 B3 B4 =>
  if (decide (s29 < s28)) = true then
   (idx s27 s29) >>= fun t1 =>
   if (fits (List.length B4) (List.length ([t1.Name] : List ByteArray)) 16) = true then
    um8 (.p244 e8 s27 s28 (IntKind.wrap .i64 (s29 + (1 : Int))) B0 B3 (B4 ++ ([t1.Name] : List ByteArray)))
   else none
  else
   some ((e8, ()), ((B0, ()), (((), ()), (((), ()), (B3, (B4, ()))))))
 partial_fixpoint
def xg9 : List (Plc E ww5) := [⟨244, [false, false, true, false, true, true, true], { slots := [4, 8, 27, 28, 29], rows := [], flat := [], keep := 3 }, _, _, (.cons (Rd.bp 2 0) (.cons (Rd.int .i64) (.cons (Rd.sl 56 false) (.cons (Rd.int .i64) (.cons (Rd.int .i64) .nil))))), (.cons (.var 22 (.cons (Rd.sl 103 false) .nil)) (.cons (.var 101 (.cons (Rd.rw 3) .nil)) (.cons (.var 101 (.cons (Rd.rw 4) .nil)) (.cons (.row 9 true) (.cons (.row 9 true) .nil))))), fun a b => .p244 a.2.1 a.2.2.1 a.2.2.2.1 a.2.2.2.2.1 b.1.1 b.2.2.2.1 b.2.2.2.2.1⟩]
theorem wN2 : All (ub7 40 3 u95 xc6) xg9 := ⟨⟨rfl, rfl, fun _ _ => rfl, fun _ _ => rfl⟩, trivial⟩
def vt8 : Code := Tryz.f76.body.getD .skip
def wm7 : Spec E.S := (Con.add vS2 (Con.add wZ2 ub0))
theorem v36 : ua9 E wm7 := (Con.add_ok vn0 (Con.add_ok vE7 ua7))
theorem xv5 : ∀ pt r, um8 pt = some r → Good E Tryz.f76 vt8 3 (uO3.av r) (uO3.bx r) (u95 pt) (xc6 pt) := by
 refine um8.partial_correctness (fun pt r => Good E Tryz.f76 vt8 3 (uO3.av r) (uO3.bx r) (u95 pt) (xc6 pt)) ?_
 intro run' ih pt r hr
 cases pt <;> exact ua8 (spec := wm7) (wr := (mkWr [] [])) (l := xg9) (z := 40) (p := uO3) E_ok wN2.mem rfl v36 ih (Eq.trans (by kernel_rfl) hr)
def wY3 : Con E := ⟨76, _, _, (.cons (Rd.int .i64).w (.cons (Rw.agg (.cons Rd.str.w (.cons (Rw.sl 9) (.cons (Rw.sl 56) .nil)))) (.cons (Rd.bp 0 0).w (.cons (Rd.bp 1 0).w (.cons (Rd.bp 2 0).w .nil))))), (.cons (.var 22 (.cons (Rd.sl 103 false) .nil)) (.cons (.var 101 (.cons (Rd.rw 3) .nil)) (.cons (.var 101 (.cons (Rd.rw 4) .nil)) (.cons (.row 9 true) (.cons (.row 9 true) .nil))))), 3, xO8, fun a b => um8 (.start a.1 a.2.1.1 a.2.1.2.1 a.2.1.2.2.1 b.1.1 b.2.2.2.1 b.2.2.2.2.1), uO3.av, uO3.bx⟩
theorem wA8 : wY3.Ok := fun a b r h => ub2 (fn := Tryz.f76) (code := vt8) E_ok (by kernel_rfl) (by kernel_rfl) (by kernel_rfl) (Nat.le_of_ble_eq_true rfl) (xv5 (.start a.1 a.2.1.1 a.2.1.2.1 a.2.1.2.2.1 b.1.1 b.2.2.2.1 b.2.2.2.2.1) r h)
inductive ww6 where
 | start (l0 : (List ua2)) (B0 : (List ua2))
 | p52 (s9 : (List ua2)) (s10 : Int) (s11 : Int) (B0 : (List ua2)) (B3 : (List ByteArray)) (B4 : (List ByteArray))
def u96 : ww6 → List Bool
 | .start .. => []
 | .p52 .. => [false, false, true, false, true]
def xc7 : ww6 → St E.S
 | .start l0 B0 => st0 25 [.sl 103 l0 false, .fn 76 [.bp 0 0, .bp 1 0, .bp 2 0]] [.var 22 [.sl 103 B0 false], .var 101 [.nl], .var 101 [.nl]]
 | .p52 s9 s10 s11 B0 B3 B4 => mkSt 25 [1, 9, 10, 11] [.fn 76 [.bp 0 0, .bp 1 0, .bp 2 0], .sl 103 s9 false, .v (.int .i64 s10), .v (.int .i64 s11)] [.var 22 [.sl 103 B0 false], .var 101 [.rw 3], .var 101 [.rw 4], .row 9 B3 true, .row 9 B4 true]
abbrev xO9 : Type := ((Int × (Int × Unit)) × (((List ua2) × Unit) × ((Unit × Unit) × ((Unit × Unit) × ((List ByteArray) × ((List ByteArray) × Unit))))))
def uO4 : Res E (Int × (Int × Unit)) (((List ua2) × Unit) × ((Unit × Unit) × ((Unit × Unit) × ((List ByteArray) × ((List ByteArray) × Unit))))) := { rows := [], flat := [], keep := 3, done := [0, 1, 100002], rl := (.cons (Rd.int .i64) (.cons (Rd.int .i64) .nil)), rb := (.cons (.var 22 (.cons (Rd.sl 103 false) .nil)) (.cons (.var 101 (.cons (Rd.rw 3) .nil)) (.cons (.var 101 (.cons (Rd.rw 4) .nil)) (.cons (.row 9 true) (.cons (.row 9 true) .nil))))) }
def up5 : ww6 → Option xO9
 | .start l0 B0 =>
  up5 (.p52 l0 (List.length l0 : Int) (0 : Int) B0 ([] : List ByteArray) ([] : List ByteArray))
 | .p52 s9 s10 s11 B0 B3 B4 =>
  if (decide (s11 < s10)) = true then
   (idx s9 s11) >>= fun t1 =>
   (um8 (.start s11 t1.Name t1.Params t1.Constructors B0 B3 B4)) >>= fun t2 =>
   if (t2.1.1 != (0 : Int)) = true then
    some ((s11, (t2.1.1, ())), ((t2.2.1.1, ()), (((), ()), (((), ()), (t2.2.2.2.2.1, (t2.2.2.2.2.2.1, ()))))))
   else
    up5 (.p52 s9 s10 (IntKind.wrap .i64 (s11 + (1 : Int))) t2.2.1.1 t2.2.2.2.2.1 t2.2.2.2.2.2.1)
  else
   some (((0 : Int), ((0 : Int), ())), ((B0, ()), (((), ()), (((), ()), (B3, (B4, ()))))))
 partial_fixpoint
def xh0 : List (Plc E ww6) := [⟨52, [false, false, true, false, true], { slots := [1, 9, 10, 11], rows := [], flat := [], keep := 3, up := [(true, 100001, 0, 9), (true, 100002, 0, 9)], done := [1] }, _, _, (.cons (Rd.fn 76 (.cons (Rd.bp 0 0) (.cons (Rd.bp 1 0) (.cons (Rd.bp 2 0) .nil)))) (.cons (Rd.sl 103 false) (.cons (Rd.int .i64) (.cons (Rd.int .i64) .nil)))), (.cons (.var 22 (.cons (Rd.sl 103 false) .nil)) (.cons (.var 101 (.cons (Rd.rw 3) .nil)) (.cons (.var 101 (.cons (Rd.rw 4) .nil)) (.cons (.row 9 true) (.cons (.row 9 true) .nil))))), fun a b => .p52 a.2.1 a.2.2.1 a.2.2.2.1 b.1.1 b.2.2.2.1 b.2.2.2.2.1⟩]
theorem wN3 : All (ub7 25 3 u96 xc7) xh0 := ⟨⟨rfl, rfl, fun _ _ => rfl, fun _ _ => rfl⟩, trivial⟩
def vt9 : Code := Tryz.f75.body.getD .skip
def wm8 : Spec E.S := (Con.add wY3 ub0)
theorem v38 : ua9 E wm8 := (Con.add_ok wA8 ua7)
theorem xv6 : ∀ pt r, up5 pt = some r → Good E Tryz.f75 vt9 3 (uO4.av r) (uO4.bx r) (u96 pt) (xc7 pt) := by
 refine up5.partial_correctness (fun pt r => Good E Tryz.f75 vt9 3 (uO4.av r) (uO4.bx r) (u96 pt) (xc7 pt)) ?_
 intro run' ih pt r hr
 cases pt <;> exact ua8 (spec := wm8) (wr := (mkWr [] [])) (l := xh0) (z := 25) (p := uO4) E_ok wN3.mem rfl v38 ih (Eq.trans (by kernel_rfl) hr)
def wY4 : Con E := ⟨75, _, _, (.cons (Rw.sl 103) (.cons (Rd.fn 76 (.cons (Rd.bp 0 0) (.cons (Rd.bp 1 0) (.cons (Rd.bp 2 0) .nil)))).w .nil)), (.cons (.var 22 (.cons (Rd.sl 103 false) .nil)) (.cons (.var 101 (.cons Rd.nl .nil)) (.cons (.var 101 (.cons Rd.nl .nil)) .nil))), 3, xO9, fun a b => up5 (.start a.1 b.1.1), uO4.av, uO4.bx⟩
theorem wA9 : wY4.Ok := fun a b r h => ub2 (fn := Tryz.f75) (code := vt9) E_ok (by kernel_rfl) (by kernel_rfl) (by kernel_rfl) (Nat.le_of_ble_eq_true rfl) (xv6 (.start a.1 b.1.1) r h)
inductive ww7 where
 | start (l0 : (List ua2))
def vI2 : ww7 → List Bool
 | .start .. => []
def xJ3 : ww7 → St E.S
 | .start l0 => st0 14 [.sl 103 l0 false] []
abbrev xP0 : Type := ((Int × (Int × Unit)) × Unit)
def vc5 : Res E (Int × (Int × Unit)) Unit := { rows := [], flat := [], keep := 0, done := [0, 1], rl := (.cons (Rd.int .i64) (.cons (Rd.int .i64) .nil)), rb := .nil }
def uH2 : ww7 → Option xP0
 | .start l0 =>
  if (decide ((List.length l0 : Int) > (20 : Int))) = true then
   some (((0 : Int), ((8 : Int), ())), ())
  else
   (up5 (.start l0 l0)) >>= fun t1 =>
   some ((t1.1.1, (t1.1.2.1, ())), ())
def xh1 : List (Plc E ww7) := []
theorem wN4 : All (ub7 14 0 vI2 xJ3) xh1 := trivial
def wf0 : Code := Tryz.f23.body.getD .skip
def wm9 : Spec E.S := (Con.add wY4 ub0)
theorem v39 : ua9 E wm9 := (Con.add_ok wA9 ua7)
theorem xv7 : ∀ pt r, uH2 pt = some r → Good E Tryz.f23 wf0 0 (vc5.av r) (vc5.bx r) (vI2 pt) (xJ3 pt) := by
 intro pt r hr
 cases pt <;> exact ua8 (spec := wm9) (wr := (mkWr [] [])) (l := xh1) (z := 14) (p := vc5) (run' := fun _ => none) E_ok wN4.mem rfl v39 (fun _ _ h => by cases h) (Eq.trans (by kernel_rfl) hr)
def vS3 : Con E := ⟨23, _, _, (.cons (Rw.sl 103) .nil), .nil, 0, xP0, fun a b => uH2 (.start a.1), vc5.av, vc5.bx⟩
theorem vn1 : vS3.Ok := fun a b r h => ub2 (fn := Tryz.f23) (code := wf0) E_ok (by kernel_rfl) (by kernel_rfl) (by kernel_rfl) (Nat.le_of_ble_eq_true rfl) (xv7 (.start a.1) r h)
inductive vj6 where
 | start (t0_0 : Int) (t0_1 : Int) (t0_2 : ByteArray) (t0_3 : (List ua1)) (params1 : (List ByteArray)) (args2 : (List ua1))
 | p27 (params1 : (List ByteArray)) (args2 : (List ua1)) (i7 : Int) (s21 : Bool) (C0 : Int) (C1 : Int) (C2 : ByteArray) (C3 : (List ua1)) (D0 : Int) (D1 : Int) (D2 : ByteArray)
 | p500 (params1 : (List ByteArray)) (args2 : (List ua1)) (s30 : (List ua1)) (s31 : Int) (s32 : Int) (C0 : Int) (C1 : Int) (C2 : ByteArray) (D0 : Int) (D1 : Int) (D2 : ByteArray) (B2 : (List ua1))
def uF2 : vj6 → List Bool
 | .start .. => []
 | .p27 .. => [true, true, false, true]
 | .p500 .. => [false, false, true, false, true, true, true, true]
def vO2 : vj6 → St E.S
 | .start t0_0 t0_1 t0_2 t0_3 params1 args2 => st0 47 [.agg [.v (.int .i64 t0_0), .v (.int .i64 t0_1), .v (.string t0_2), .sl 25 t0_3 false], .sl 9 params1 false, .sl 25 args2 false] []
 | .p27 params1 args2 i7 s21 C0 C1 C2 C3 D0 D1 D2 => mkSt 47 [1, 2, 3, 6, 7, 21] [.sl 9 params1 false, .sl 25 args2 false, .bp 0 0, .bp 1 0, .v (.int .i64 i7), .v (.bool s21)] [.var 25 [.v (.int .i64 C0), .v (.int .i64 C1), .v (.string C2), .sl 25 C3 false], .var 25 [.v (.int .i64 D0), .v (.int .i64 D1), .v (.string D2), .nl]]
 | .p500 params1 args2 s30 s31 s32 C0 C1 C2 D0 D1 D2 B2 => mkSt 47 [1, 2, 6, 8, 30, 31, 32] [.sl 9 params1 false, .sl 25 args2 false, .bp 0 0, .bp 1 0, .sl 25 s30 false, .v (.int .i64 s31), .v (.int .i64 s32)] [.var 25 [.v (.int .i64 C0), .v (.int .i64 C1), .v (.string C2), .nl], .var 25 [.v (.int .i64 D0), .v (.int .i64 D1), .v (.string D2), .rw 2], .row 25 B2 false]
abbrev vB8 : Type := (((Int × (Int × (ByteArray × ((List ua1) × Unit)))) × Unit) × Unit)
def un9 : Res E ((Int × (Int × (ByteArray × ((List ua1) × Unit)))) × Unit) Unit := { rows := [], flat := [], keep := 0, deep := [(false, 0, 3, 25)], done := [0], rl := (.cons (Rd.agg (.cons (Rd.int .i64) (.cons (Rd.int .i64) (.cons Rd.str (.cons (Rd.sl 25 false) .nil))))) .nil), rb := .nil }
def ue9 : vj6 → Option vB8
 | .start t0_0 t0_1 t0_2 t0_3 params1 args2 =>
  (uv0 (.start params1 t0_2)) >>= fun t1 =>
  if (t0_0 == (0 : Int)) = true then
   ue9 (.p27 params1 args2 t1.1.1 (decide (t1.1.1 ≥ (0 : Int))) t0_0 t0_1 t0_2 t0_3 (0 : Int) (0 : Int) (⟨#[]⟩ : ByteArray))
  else
   ue9 (.p27 params1 args2 t1.1.1 false t0_0 t0_1 t0_2 t0_3 (0 : Int) (0 : Int) (⟨#[]⟩ : ByteArray))
 | .p27 params1 args2 i7 s21 C0 C1 C2 C3 D0 D1 D2 =>
  if s21 = true then
   (idx args2 i7) >>= fun t1 =>
   (ue9 (.start t1.Kind t1.Value t1.Name t1.Parts ([]) ([]))) >>= fun t2 =>
   some (((t2.1.1.1, (t2.1.1.2.1, (t2.1.1.2.2.1, (t2.1.1.2.2.2.1, ())))), ()), ())
  else
   ue9 (.p500 params1 args2 C3 (List.length C3 : Int) (0 : Int) D0 D1 D2 C0 C1 C2 ([] : List ua1))
 | .p500 params1 args2 s30 s31 s32 C0 C1 C2 D0 D1 D2 B2 =>
  if (decide (s32 < s31)) = true then
   (idx s30 s32) >>= fun t1 =>
   (ue9 (.start t1.Kind t1.Value t1.Name t1.Parts params1 args2)) >>= fun t2 =>
   if (fits (List.length B2) (List.length ([(⟨t2.1.1.1, t2.1.1.2.1, t2.1.1.2.2.1, t2.1.1.2.2.2.1⟩ : ua1)] : List ua1)) 56) = true then
    ue9 (.p500 params1 args2 s30 s31 (IntKind.wrap .i64 (s32 + (1 : Int))) C0 C1 C2 D0 D1 D2 (B2 ++ ([(⟨t2.1.1.1, t2.1.1.2.1, t2.1.1.2.2.1, t2.1.1.2.2.2.1⟩ : ua1)] : List ua1)))
   else none
  else
   some (((D0, (D1, (D2, (B2, ())))), ()), ())
 partial_fixpoint
def xh2 : List (Plc E vj6) := [⟨27, [true, true, false, true], { slots := [1, 2, 3, 6, 7, 21], rows := [], flat := [], keep := 0 }, _, _, (.cons (Rd.sl 9 false) (.cons (Rd.sl 25 false) (.cons (Rd.bp 0 0) (.cons (Rd.bp 1 0) (.cons (Rd.int .i64) (.cons Rd.bool .nil)))))), (.cons (.var 25 (.cons (Rd.int .i64) (.cons (Rd.int .i64) (.cons Rd.str (.cons (Rd.sl 25 false) .nil))))) (.cons (.var 25 (.cons (Rd.int .i64) (.cons (Rd.int .i64) (.cons Rd.str (.cons Rd.nl .nil))))) .nil)), fun a b => .p27 a.1 a.2.1 a.2.2.2.2.1 a.2.2.2.2.2.1 b.1.1 b.1.2.1 b.1.2.2.1 b.1.2.2.2.1 b.2.1.1 b.2.1.2.1 b.2.1.2.2.1⟩,
 ⟨500, [false, false, true, false, true, true, true, true], { slots := [1, 2, 6, 8, 30, 31, 32], rows := [], flat := [], keep := 0, up := [(true, 8, 3, 25)] }, _, _, (.cons (Rd.sl 9 false) (.cons (Rd.sl 25 false) (.cons (Rd.bp 0 0) (.cons (Rd.bp 1 0) (.cons (Rd.sl 25 false) (.cons (Rd.int .i64) (.cons (Rd.int .i64) .nil))))))), (.cons (.var 25 (.cons (Rd.int .i64) (.cons (Rd.int .i64) (.cons Rd.str (.cons Rd.nl .nil))))) (.cons (.var 25 (.cons (Rd.int .i64) (.cons (Rd.int .i64) (.cons Rd.str (.cons (Rd.rw 2) .nil))))) (.cons (.row 25 false) .nil))), fun a b => .p500 a.1 a.2.1 a.2.2.2.2.1 a.2.2.2.2.2.1 a.2.2.2.2.2.2.1 b.1.1 b.1.2.1 b.1.2.2.1 b.2.1.1 b.2.1.2.1 b.2.1.2.2.1 b.2.2.1⟩]
theorem wN5 : All (ub7 47 0 uF2 vO2) xh2 := ⟨⟨rfl, rfl, fun _ _ => rfl, fun _ _ => rfl⟩, ⟨⟨rfl, rfl, fun _ _ => rfl, fun _ _ => rfl⟩, trivial⟩⟩
def uH9 : Code := Tryz.f162.body.getD .skip
def w74 (run' : vj6 → Option vB8) : Con E := ⟨162, ((Int × (Int × (ByteArray × ((List ua1) × Unit)))) × ((List ByteArray) × ((List ua1) × Unit))), Unit, (RwL.cons (Rw.agg (RwL.cons (Rd.int .i64).w (RwL.cons (Rd.int .i64).w (RwL.cons Rd.str.w (RwL.cons (Rw.sl 25) RwL.nil))))) (RwL.cons (Rw.sl 9) (RwL.cons (Rw.sl 25) RwL.nil))), RdBL.nil, 0, vB8, fun a b => run' (.start a.1.1 a.1.2.1 a.1.2.2.1 a.1.2.2.2.1 a.2.1 a.2.2.1), un9.av, un9.bx⟩
theorem wH3 {run' : vj6 → Option vB8} (ih : ∀ pt r, run' pt = some r → Good E Tryz.f162 uH9 0 (un9.av r) (un9.bx r) (uF2 pt) (vO2 pt)) : (w74 run').Ok := fun a b r h => ub2 (fn := Tryz.f162) (code := uH9) E_ok (by kernel_rfl) (by kernel_rfl) (by kernel_rfl) (Nat.le_of_ble_eq_true rfl) (ih (.start a.1.1 a.1.2.1 a.1.2.2.1 a.1.2.2.2.1 a.2.1 a.2.2.1) r h)
def wn0 (run' : vj6 → Option vB8) : Spec E.S := (Con.add (w74 run') (Con.add w21 ub0))
theorem v40 {run' : vj6 → Option vB8} (ih : ∀ pt r, run' pt = some r → Good E Tryz.f162 uH9 0 (un9.av r) (un9.bx r) (uF2 pt) (vO2 pt)) : ua9 E (wn0 run') := (Con.add_ok (wH3 ih) (Con.add_ok vE9 ua7))
theorem xv8 : ∀ pt r, ue9 pt = some r → Good E Tryz.f162 uH9 0 (un9.av r) (un9.bx r) (uF2 pt) (vO2 pt) := by
 refine ue9.partial_correctness (fun pt r => Good E Tryz.f162 uH9 0 (un9.av r) (un9.bx r) (uF2 pt) (vO2 pt)) ?_
 intro run' ih pt r hr
 cases pt <;> exact ua8 (spec := (wn0 run')) (wr := (mkWr [] [])) (l := xh2) (z := 47) (p := un9) E_ok wN5.mem rfl (v40 ih) ih (Eq.trans (by kernel_rfl) hr)
def wY5 : Con E := ⟨162, _, _, (.cons (Rw.agg (.cons (Rd.int .i64).w (.cons (Rd.int .i64).w (.cons Rd.str.w (.cons (Rw.sl 25) .nil))))) (.cons (Rw.sl 9) (.cons (Rw.sl 25) .nil))), .nil, 0, vB8, fun a b => ue9 (.start a.1.1 a.1.2.1 a.1.2.2.1 a.1.2.2.2.1 a.2.1 a.2.2.1), un9.av, un9.bx⟩
theorem wB0 : wY5.Ok := fun a b r h => ub2 (fn := Tryz.f162) (code := uH9) E_ok (by kernel_rfl) (by kernel_rfl) (by kernel_rfl) (Nat.le_of_ble_eq_true rfl) (xv8 (.start a.1.1 a.1.2.1 a.1.2.2.1 a.1.2.2.2.1 a.2.1 a.2.2.1) r h)
inductive ww8 where
 | start (s0_0 : (List ua2)) (s0_1 : (List ByteArray)) (t1_0 : Int) (t1_1 : Int) (t1_2 : ByteArray) (t1_3 : (List ua1))
 | p500 (s26 : (List ua0)) (s27 : Int) (s28 : Int) (C0 : Int) (C1 : Int) (C2 : ByteArray) (C3 : (List ua1)) (D0 : ByteArray) (D1 : (List ByteArray)) (D2 : (List ua0)) (B2 : (List data_variant))
 | p512820 (s26 : (List ua0)) (s27 : Int) (s28 : Int) (s36 : (List ua6)) (s37 : Int) (s38 : Int) (C0 : Int) (C1 : Int) (C2 : ByteArray) (C3 : (List ua1)) (D0 : ByteArray) (D1 : (List ByteArray)) (D2 : (List ua0)) (B2 : (List data_variant)) (B3 : ByteArray) (B4 : (List ua6))
def u97 : ww8 → List Bool
 | .start .. => []
 | .p500 .. => [false, false, true, false, true, true, true, true]
 | .p512820 .. => [false, false, true, false, true, true, false, false, true, true, false, false, true, false, true, true, true, true]
def xc8 : ww8 → St E.S
 | .start s0_0 s0_1 t1_0 t1_1 t1_2 t1_3 => st0 64 [.agg [.sl 103 s0_0 false, .sl 9 s0_1 false], .agg [.v (.int .i64 t1_0), .v (.int .i64 t1_1), .v (.string t1_2), .sl 25 t1_3 false]] []
 | .p500 s26 s27 s28 C0 C1 C2 C3 D0 D1 D2 B2 => mkSt 64 [3, 5, 7, 26, 27, 28] [.bp 0 0, .bp 1 0, .rw 2, .sl 56 s26 false, .v (.int .i64 s27), .v (.int .i64 s28)] [.var 25 [.v (.int .i64 C0), .v (.int .i64 C1), .v (.string C2), .sl 25 C3 false], .var 103 [.v (.string D0), .sl 9 D1 false, .sl 56 D2 false], .row 125 B2 false]
 | .p512820 s26 s27 s28 s36 s37 s38 C0 C1 C2 C3 D0 D1 D2 B2 B3 B4 => mkSt 64 [3, 5, 7, 10, 26, 27, 28, 36, 37, 38] [.bp 0 0, .bp 1 0, .rw 2, .bp 3 0, .sl 56 s26 false, .v (.int .i64 s27), .v (.int .i64 s28), .sl 58 s36 false, .v (.int .i64 s37), .v (.int .i64 s38)] [.var 25 [.v (.int .i64 C0), .v (.int .i64 C1), .v (.string C2), .sl 25 C3 false], .var 103 [.v (.string D0), .sl 9 D1 false, .sl 56 D2 false], .row 125 B2 false, .var 125 [.v (.string B3), .rw 4, .nl], .row 58 B4 false]
abbrev xP1 : Type := ((Unit × Unit) × ((List data_variant) × Unit))
def uO5 : Res E (Unit × Unit) ((List data_variant) × Unit) := { rows := [(0, 125)], flat := [], keep := 0, rl := (.cons (Rd.rw 0) .nil), rb := (.cons (.row 125 false) .nil) }
def ug2 : ww8 → Option xP1
 | .start s0_0 s0_1 t1_0 t1_1 t1_2 t1_3 =>
  (uH0 (.start s0_0 s0_1 t1_2)) >>= fun t1 =>
  if (!t1.1.2.1) = true then
   some (((), ()), (([(⟨(⟨#[70, 97, 108, 115, 101]⟩ : ByteArray), [], none⟩ : data_variant), (⟨(⟨#[84, 114, 117, 101]⟩ : ByteArray), [], none⟩ : data_variant)] : List data_variant), ()))
  else
   ug2 (.p500 t1.1.1.2.2.1 (List.length t1.1.1.2.2.1 : Int) (0 : Int) t1_0 t1_1 t1_2 t1_3 t1.1.1.1 t1.1.1.2.1 t1.1.1.2.2.1 ([] : List data_variant))
 | .p500 s26 s27 s28 C0 C1 C2 C3 D0 D1 D2 B2 =>
  if (decide (s28 < s27)) = true then
   (idx s26 s28) >>= fun t1 =>
   ug2 (.p512820 s26 s27 s28 t1.Fields (List.length t1.Fields : Int) (0 : Int) C0 C1 C2 C3 D0 D1 D2 B2 t1.Name ([] : List ua6))
  else
   some (((), ()), (B2, ()))
 | .p512820 s26 s27 s28 s36 s37 s38 C0 C1 C2 C3 D0 D1 D2 B2 B3 B4 =>
  if (decide (s38 < s37)) = true then
   (idx s36 s38) >>= fun t1 =>
   (ue9 (.start t1.Type_.Kind t1.Type_.Value t1.Type_.Name t1.Type_.Parts D1 C3)) >>= fun t2 =>
   if (fits (List.length B4) (List.length ([(⟨t1.Name, (⟨t2.1.1.1, t2.1.1.2.1, t2.1.1.2.2.1, t2.1.1.2.2.2.1⟩ : ua1)⟩ : ua6)] : List ua6)) 72) = true then
    ug2 (.p512820 s26 s27 s28 s36 s37 (IntKind.wrap .i64 (s38 + (1 : Int))) C0 C1 C2 C3 D0 D1 D2 B2 B3 (B4 ++ ([(⟨t1.Name, (⟨t2.1.1.1, t2.1.1.2.1, t2.1.1.2.2.1, t2.1.1.2.2.2.1⟩ : ua1)⟩ : ua6)] : List ua6)))
   else none
  else
   if (fits (List.length B2) (List.length ([(⟨B3, B4, none⟩ : data_variant)] : List data_variant)) 64) = true then
    ug2 (.p500 s26 s27 (IntKind.wrap .i64 (s28 + (1 : Int))) C0 C1 C2 C3 D0 D1 D2 (B2 ++ ([(⟨B3, B4, none⟩ : data_variant)] : List data_variant)))
   else none
 partial_fixpoint
def xh3 : List (Plc E ww8) := [⟨500, [false, false, true, false, true, true, true, true], { slots := [3, 5, 7, 26, 27, 28], rows := [(7, 125)], flat := [], keep := 0 }, _, _, (.cons (Rd.bp 0 0) (.cons (Rd.bp 1 0) (.cons (Rd.rw 2) (.cons (Rd.sl 56 false) (.cons (Rd.int .i64) (.cons (Rd.int .i64) .nil)))))), (.cons (.var 25 (.cons (Rd.int .i64) (.cons (Rd.int .i64) (.cons Rd.str (.cons (Rd.sl 25 false) .nil))))) (.cons (.var 103 (.cons Rd.str (.cons (Rd.sl 9 false) (.cons (Rd.sl 56 false) .nil)))) (.cons (.row 125 false) .nil))), fun a b => .p500 a.2.2.2.1 a.2.2.2.2.1 a.2.2.2.2.2.1 b.1.1 b.1.2.1 b.1.2.2.1 b.1.2.2.2.1 b.2.1.1 b.2.1.2.1 b.2.1.2.2.1 b.2.2.1⟩,
 ⟨512820, [false, false, true, false, true, true, false, false, true, true, false, false, true, false, true, true, true, true], { slots := [3, 5, 7, 10, 26, 27, 28, 36, 37, 38], rows := [], flat := [], keep := 0, up := [(true, 10, 1, 58)] }, _, _, (.cons (Rd.bp 0 0) (.cons (Rd.bp 1 0) (.cons (Rd.rw 2) (.cons (Rd.bp 3 0) (.cons (Rd.sl 56 false) (.cons (Rd.int .i64) (.cons (Rd.int .i64) (.cons (Rd.sl 58 false) (.cons (Rd.int .i64) (.cons (Rd.int .i64) .nil)))))))))), (.cons (.var 25 (.cons (Rd.int .i64) (.cons (Rd.int .i64) (.cons Rd.str (.cons (Rd.sl 25 false) .nil))))) (.cons (.var 103 (.cons Rd.str (.cons (Rd.sl 9 false) (.cons (Rd.sl 56 false) .nil)))) (.cons (.row 125 false) (.cons (.var 125 (.cons Rd.str (.cons (Rd.rw 4) (.cons Rd.nl .nil)))) (.cons (.row 58 false) .nil))))), fun a b => .p512820 a.2.2.2.2.1 a.2.2.2.2.2.1 a.2.2.2.2.2.2.1 a.2.2.2.2.2.2.2.1 a.2.2.2.2.2.2.2.2.1 a.2.2.2.2.2.2.2.2.2.1 b.1.1 b.1.2.1 b.1.2.2.1 b.1.2.2.2.1 b.2.1.1 b.2.1.2.1 b.2.1.2.2.1 b.2.2.1 b.2.2.2.1.1 b.2.2.2.2.1⟩]
theorem wN6 : All (ub7 64 0 u97 xc8) xh3 := ⟨⟨rfl, rfl, fun _ _ => rfl, fun _ _ => rfl⟩, ⟨⟨rfl, rfl, fun _ _ => rfl, fun _ _ => rfl⟩, trivial⟩⟩
def vu0 : Code := Tryz.f142.body.getD .skip
def wn1 : Spec E.S := (Con.add wY5 (Con.add vS0 ub0))
theorem v41 : ua9 E wn1 := (Con.add_ok wB0 (Con.add_ok vm8 ua7))
theorem xv9 : ∀ pt r, ug2 pt = some r → Good E Tryz.f142 vu0 0 (uO5.av r) (uO5.bx r) (u97 pt) (xc8 pt) := by
 refine ug2.partial_correctness (fun pt r => Good E Tryz.f142 vu0 0 (uO5.av r) (uO5.bx r) (u97 pt) (xc8 pt)) ?_
 intro run' ih pt r hr
 cases pt <;> exact ua8 (spec := wn1) (wr := (mkWr [4, 7, 24, 58, 61, 63] [(64103, [10])])) (l := xh3) (z := 64) (p := uO5) E_ok wN6.mem rfl v41 ih (Eq.trans (by kernel_rfl) hr)
def wY6 : Con E := ⟨142, _, _, (.cons (Rw.agg (.cons (Rw.sl 103) (.cons (Rw.sl 9) .nil))) (.cons (Rw.agg (.cons (Rd.int .i64).w (.cons (Rd.int .i64).w (.cons Rd.str.w (.cons (Rw.sl 25) .nil))))) .nil)), .nil, 0, xP1, fun a b => ug2 (.start a.1.1 a.1.2.1 a.2.1.1 a.2.1.2.1 a.2.1.2.2.1 a.2.1.2.2.2.1), uO5.av, uO5.bx⟩
theorem wB1 : wY6.Ok := fun a b r h => ub2 (fn := Tryz.f142) (code := vu0) E_ok (by kernel_rfl) (by kernel_rfl) (by kernel_rfl) (Nat.le_of_ble_eq_true rfl) (xv9 (.start a.1.1 a.1.2.1 a.2.1.1 a.2.1.2.1 a.2.1.2.2.1 a.2.1.2.2.2.1) r h)
inductive vj7 where
 | start (s0_0 : (List ua2)) (s0_1 : (List ByteArray)) (t1_0 : Int) (t1_1 : Int) (t1_2 : ByteArray) (t1_3 : (List ua1)) (deep3 : Int) (B0 : Int)
 | p31 (deep3 : Int) (few11 : Int) (B0 : Int) (D0 : (List ua2)) (D1 : (List ByteArray)) (G0 : Int) (G1 : Int) (G2 : ByteArray) (G3 : (List ua1))
 | p8180 (deep3 : Int) (s76 : Int) (s77 : Int) (B0 : Int) (D0 : (List ua2)) (D1 : (List ByteArray)) (B2 : Int) (B3 : (List data_variant))
 | p4188572 (deep3 : Int) (v15 : Int) (s76 : Int) (s77 : Int) (s89 : (List ua6)) (s90 : Int) (s91 : Int) (B0 : Int) (D0 : (List ua2)) (D1 : (List ByteArray)) (B2 : Int) (B3 : ((List data_variant) × Nat)) (B4 : (List (Option ua5)))
def uF3 : vj7 → List Bool
 | .start .. => []
 | .p31 .. => [true, true, true, true]
 | .p8180 .. => [false, false, true, false, true, true, true, true, true, true, true, true]
 | .p4188572 .. => [false, false, true, true, true, false, false, true, true, false, false, true, false, true, true, true, true, true, true, true, true]
def vO3 : vj7 → St E.S
 | .start s0_0 s0_1 t1_0 t1_1 t1_2 t1_3 deep3 B0 => st0 121 [.agg [.sl 103 s0_0 false, .sl 9 s0_1 false], .agg [.v (.int .i64 t1_0), .v (.int .i64 t1_1), .v (.string t1_2), .sl 25 t1_3 false], .bp 0 0, .v (.int .i64 deep3)] [.var 3 [.v (.int .i64 B0)]]
 | .p31 deep3 few11 B0 D0 D1 G0 G1 G2 G3 => mkSt 121 [2, 3, 4, 5, 11] [.bp 0 0, .v (.int .i64 deep3), .bp 1 0, .bp 2 0, .v (.int .i64 few11)] [.var 3 [.v (.int .i64 B0)], .var 107 [.sl 103 D0 false, .sl 9 D1 false], .var 25 [.v (.int .i64 G0), .v (.int .i64 G1), .v (.string G2), .sl 25 G3 false]]
 | .p8180 deep3 s76 s77 B0 D0 D1 B2 B3 => mkSt 121 [2, 3, 4, 13, 76, 77] [.bp 0 0, .v (.int .i64 deep3), .bp 1 0, .bp 2 0, .v (.int .i64 s76), .v (.int .i64 s77)] [.var 3 [.v (.int .i64 B0)], .var 107 [.sl 103 D0 false, .sl 9 D1 false], .var 128 [.v (.int .i64 B2), .rw 3], .row 125 B3 false]
 | .p4188572 deep3 v15 s76 s77 s89 s90 s91 B0 D0 D1 B2 B3 B4 => mkSt 121 [2, 3, 4, 13, 15, 76, 77, 89, 90, 91] [.bp 0 0, .v (.int .i64 deep3), .bp 1 0, .bp 2 0, .rp 3 125 v15 0, .v (.int .i64 s76), .v (.int .i64 s77), .sl 58 s89 false, .v (.int .i64 s90), .v (.int .i64 s91)] [.var 3 [.v (.int .i64 B0)], .var 107 [.sl 103 D0 false, .sl 9 D1 false], .var 128 [.v (.int .i64 B2), .rw 3], .lk 125 B3.1 B3.2 2 (.rw 4), .row 105 B4 false]
abbrev vB9 : Type := (((Option ua5) × (Int × Unit)) × ((Int × Unit) × Unit))
def uo0 : Res E ((Option ua5) × (Int × Unit)) ((Int × Unit) × Unit) := { rows := [], flat := [], keep := 1, done := [0, 1], ptrs := [(0, 128)], rl := (.cons (Rd.op 128) (.cons (Rd.int .i64) .nil)), rb := (.cons (.var 3 (.cons (Rd.int .i64) .nil)) .nil) }
def uc6 : vj7 → Option vB9
 | .start s0_0 s0_1 t1_0 t1_1 t1_2 t1_3 deep3 B0 =>
  (uG9 (.start t1_0 t1_1 t1_2 t1_3)) >>= fun t1 =>
  if (t1.1.1 != (0 : Int)) = true then
   some ((none, (t1.1.1, ())), ((B0, ()), ()))
  else
   if (decide ((IntKind.wrap .i64 (B0 + (1 : Int))) ≤ (200 : Int))) = true then
    (uc4 (.start (decide (deep3 ≤ (40 : Int))) (8 : Int))) >>= fun t2 =>
    uc6 (.p31 deep3 t2.1.1 (IntKind.wrap .i64 (B0 + (1 : Int))) s0_0 s0_1 t1_0 t1_1 t1_2 t1_3)
   else
    (uc4 (.start false (8 : Int))) >>= fun t3 =>
    uc6 (.p31 deep3 t3.1.1 (IntKind.wrap .i64 (B0 + (1 : Int))) s0_0 s0_1 t1_0 t1_1 t1_2 t1_3)
 | .p31 deep3 few11 B0 D0 D1 G0 G1 G2 G3 =>
  if (G0 == (2 : Int)) = true then
   some ((none, ((26 : Int), ())), ((B0, ()), ()))
  else
   if (seq G2 (⟨#[66, 105, 116]⟩ : ByteArray)) = true then
    (idx G3 (0 : Int)) >>= fun t1 =>
    (uc4 (.start (t1.Kind == (2 : Int)) (26 : Int))) >>= fun t2 =>
    (uk1 (.start t1.Value (1 : Int) (16 : Int))) >>= fun t3 =>
    (uc4 (.start t3.1.1 (25 : Int))) >>= fun t4 =>
    (uc8 (.start ([t2.1.1, t4.1.1, few11] : List Int))) >>= fun t5 =>
    some ((some (⟨t1.Value, none⟩ : ua5), (t5.1.1, ())), ((B0, ()), ()))
   else
    if (few11 != (0 : Int)) = true then
     some ((none, (few11, ())), ((B0, ()), ()))
    else
     (ug2 (.start D0 D1 G0 G1 G2 G3)) >>= fun t6 =>
     uc6 (.p8180 deep3 (List.length t6.2.1 : Int) (0 : Int) B0 D0 D1 (0 : Int) t6.2.1)
 | .p8180 deep3 s76 s77 B0 D0 D1 B2 B3 =>
  if (decide (s77 < s76)) = true then
   if (decide ((0 : Int) ≤ s77) && decide (s77 < (List.length B3 : Int))) = true then
    (idx B3 s77) >>= fun t1 =>
    if (Option.isNone t1.parts) = true then
     (if s77 = (Int.toNat s77 : Int) then B3[Int.toNat s77]? else none) >>= fun t2 =>
     uc6 (.p4188572 deep3 s77 s76 s77 t2.fields (List.length t2.fields : Int) (0 : Int) B0 D0 D1 B2 (B3, Int.toNat s77) ([] : List (Option ua5)))
    else none
   else none
  else
   some ((some (⟨B2, (some B3)⟩ : ua5), ((0 : Int), ())), ((B0, ()), ()))
 | .p4188572 deep3 v15 s76 s77 s89 s90 s91 B0 D0 D1 B2 B3 B4 =>
  if (decide (s91 < s90)) = true then
   (idx s89 s91) >>= fun t1 =>
   (uc6 (.start D0 D1 t1.Type_.Kind t1.Type_.Value t1.Type_.Name t1.Type_.Parts (IntKind.wrap .i64 (deep3 + (1 : Int))) B0)) >>= fun t2 =>
   if (t2.1.2.1 != (0 : Int)) = true then
    some ((none, (t2.1.2.1, ())), ((t2.2.1.1, ()), ()))
   else
    (if v15 = (B3.2 : Int) then B3.1[B3.2]? else none) >>= fun t3 =>
    if (fits (List.length B4) (List.length ([t2.1.1] : List (Option ua5))) 8) = true then
     if v15 = (B3.2 : Int) then
      uc6 (.p4188572 deep3 v15 s76 s77 s89 s90 (IntKind.wrap .i64 (s91 + (1 : Int))) t2.2.1.1 D0 D1 B2 (B3.1, B3.2) (B4 ++ ([t2.1.1] : List (Option ua5))))
     else none
    else none
  else
   uc6 (.p8180 deep3 s76 (IntKind.wrap .i64 (s77 + (1 : Int))) B0 D0 D1 B2 (List.modify B3.1 B3.2 (fun y => (⟨y.name, y.fields, (some B4)⟩ : data_variant))))
 partial_fixpoint
def xh4 : List (Plc E vj7) := [⟨31, [true, true, true, true], { slots := [2, 3, 4, 5, 11], rows := [], flat := [], keep := 1 }, _, _, (.cons (Rd.bp 0 0) (.cons (Rd.int .i64) (.cons (Rd.bp 1 0) (.cons (Rd.bp 2 0) (.cons (Rd.int .i64) .nil))))), (.cons (.var 3 (.cons (Rd.int .i64) .nil)) (.cons (.var 107 (.cons (Rd.sl 103 false) (.cons (Rd.sl 9 false) .nil))) (.cons (.var 25 (.cons (Rd.int .i64) (.cons (Rd.int .i64) (.cons Rd.str (.cons (Rd.sl 25 false) .nil))))) .nil))), fun a b => .p31 a.2.1 a.2.2.2.2.1 b.1.1 b.2.1.1 b.2.1.2.1 b.2.2.1.1 b.2.2.1.2.1 b.2.2.1.2.2.1 b.2.2.1.2.2.2.1⟩,
 ⟨8180, [false, false, true, false, true, true, true, true, true, true, true, true], { slots := [2, 3, 4, 13, 76, 77], rows := [], flat := [], keep := 1, close := [13] }, _, _, (.cons (Rd.bp 0 0) (.cons (Rd.int .i64) (.cons (Rd.bp 1 0) (.cons (Rd.bp 2 0) (.cons (Rd.int .i64) (.cons (Rd.int .i64) .nil)))))), (.cons (.var 3 (.cons (Rd.int .i64) .nil)) (.cons (.var 107 (.cons (Rd.sl 103 false) (.cons (Rd.sl 9 false) .nil))) (.cons (.var 128 (.cons (Rd.int .i64) (.cons (Rd.rw 3) .nil))) (.cons (.row 125 false) .nil)))), fun a b => .p8180 a.2.1 a.2.2.2.2.1 a.2.2.2.2.2.1 b.1.1 b.2.1.1 b.2.1.2.1 b.2.2.1.1 b.2.2.2.1⟩,
 ⟨4188572, [false, false, true, true, true, false, false, true, true, false, false, true, false, true, true, true, true, true, true, true, true], { slots := [2, 3, 4, 13, 15, 76, 77, 89, 90, 91], rows := [], flat := [], keep := 1 }, _, _, (.cons (Rd.bp 0 0) (.cons (Rd.int .i64) (.cons (Rd.bp 1 0) (.cons (Rd.bp 2 0) (.cons (Rd.rp 3 125 0) (.cons (Rd.int .i64) (.cons (Rd.int .i64) (.cons (Rd.sl 58 false) (.cons (Rd.int .i64) (.cons (Rd.int .i64) .nil)))))))))), (.cons (.var 3 (.cons (Rd.int .i64) .nil)) (.cons (.var 107 (.cons (Rd.sl 103 false) (.cons (Rd.sl 9 false) .nil))) (.cons (.var 128 (.cons (Rd.int .i64) (.cons (Rd.rw 3) .nil))) (.cons (RdB.lk 125 2 4) (.cons (.row 105 false) .nil))))), fun a b => .p4188572 a.2.1 a.2.2.2.2.1 a.2.2.2.2.2.1 a.2.2.2.2.2.2.1 a.2.2.2.2.2.2.2.1 a.2.2.2.2.2.2.2.2.1 a.2.2.2.2.2.2.2.2.2.1 b.1.1 b.2.1.1 b.2.1.2.1 b.2.2.1.1 b.2.2.2.1 b.2.2.2.2.1⟩]
theorem wN7 : All (ub7 121 1 uF3 vO3) xh4 := ⟨⟨rfl, rfl, fun _ _ => rfl, fun _ _ => rfl⟩, ⟨⟨rfl, rfl, fun _ _ => rfl, fun _ _ => rfl⟩, ⟨⟨rfl, rfl, fun _ _ => rfl, fun _ _ => rfl⟩, trivial⟩⟩⟩
def uI0 : Code := Tryz.f106.body.getD .skip
def w75 (run' : vj7 → Option vB9) : Con E := ⟨106, (((List ua2) × ((List ByteArray) × Unit)) × ((Int × (Int × (ByteArray × ((List ua1) × Unit)))) × (Unit × (Int × Unit)))), ((Int × Unit) × Unit), (RwL.cons (Rw.agg (RwL.cons (Rw.sl 103) (RwL.cons (Rw.sl 9) RwL.nil))) (RwL.cons (Rw.agg (RwL.cons (Rd.int .i64).w (RwL.cons (Rd.int .i64).w (RwL.cons Rd.str.w (RwL.cons (Rw.sl 25) RwL.nil))))) (RwL.cons (Rd.bp 0 0).w (RwL.cons (Rd.int .i64).w RwL.nil)))), (RdBL.cons (RdB.var 3 (RdL.cons (Rd.int .i64) RdL.nil)) RdBL.nil), 1, vB9, fun a b => run' (.start a.1.1 a.1.2.1 a.2.1.1 a.2.1.2.1 a.2.1.2.2.1 a.2.1.2.2.2.1 a.2.2.2.1 b.1.1), uo0.av, uo0.bx⟩
theorem wH4 {run' : vj7 → Option vB9} (ih : ∀ pt r, run' pt = some r → Good E Tryz.f106 uI0 1 (uo0.av r) (uo0.bx r) (uF3 pt) (vO3 pt)) : (w75 run').Ok := fun a b r h => ub2 (fn := Tryz.f106) (code := uI0) E_ok (by kernel_rfl) (by kernel_rfl) (by kernel_rfl) (Nat.le_of_ble_eq_true rfl) (ih (.start a.1.1 a.1.2.1 a.2.1.1 a.2.1.2.1 a.2.1.2.2.1 a.2.1.2.2.2.1 a.2.2.2.1 b.1.1) r h)
def wn2 (run' : vj7 → Option vB9) : Spec E.S := (Con.add (w75 run') (Con.add wY6 (Con.add uE3 (Con.add uR8 (Con.add uR9 (Con.add vR9 ub0))))))
theorem v42 {run' : vj7 → Option vB9} (ih : ∀ pt r, run' pt = some r → Good E Tryz.f106 uI0 1 (uo0.av r) (uo0.bx r) (uF3 pt) (vO3 pt)) : ua9 E (wn2 run') := (Con.add_ok (wH4 ih) (Con.add_ok wB1 (Con.add_ok un4 (Con.add_ok uq3 (Con.add_ok uq4 (Con.add_ok vm7 ua7))))))
theorem xw0 : ∀ pt r, uc6 pt = some r → Good E Tryz.f106 uI0 1 (uo0.av r) (uo0.bx r) (uF3 pt) (vO3 pt) := by
 refine uc6.partial_correctness (fun pt r => Good E Tryz.f106 uI0 1 (uo0.av r) (uo0.bx r) (uF3 pt) (vO3 pt)) ?_
 intro run' ih pt r hr
 cases pt <;> exact ua8 (spec := (wn2 run')) (wr := (mkWr [8, 13, 15, 17, 50, 51, 52, 69, 70, 71, 72, 73, 74, 75, 80, 81, 82, 83, 85, 86, 87, 88, 89, 93, 94, 97, 98, 108, 109, 110, 111, 112, 115, 116, 117, 120] [] [] [(85, 2)])) (l := xh4) (z := 121) (p := uo0) E_ok wN7.mem rfl (v42 ih) ih (Eq.trans (by kernel_rfl) hr)
def wY7 : Con E := ⟨106, _, _, (.cons (Rw.agg (.cons (Rw.sl 103) (.cons (Rw.sl 9) .nil))) (.cons (Rw.agg (.cons (Rd.int .i64).w (.cons (Rd.int .i64).w (.cons Rd.str.w (.cons (Rw.sl 25) .nil))))) (.cons (Rd.bp 0 0).w (.cons (Rd.int .i64).w .nil)))), (.cons (.var 3 (.cons (Rd.int .i64) .nil)) .nil), 1, vB9, fun a b => uc6 (.start a.1.1 a.1.2.1 a.2.1.1 a.2.1.2.1 a.2.1.2.2.1 a.2.1.2.2.2.1 a.2.2.2.1 b.1.1), uo0.av, uo0.bx⟩
theorem wB2 : wY7.Ok := fun a b r h => ub2 (fn := Tryz.f106) (code := uI0) E_ok (by kernel_rfl) (by kernel_rfl) (by kernel_rfl) (Nat.le_of_ble_eq_true rfl) (xw0 (.start a.1.1 a.1.2.1 a.2.1.1 a.2.1.2.1 a.2.1.2.2.1 a.2.1.2.2.2.1 a.2.2.2.1 b.1.1) r h)
inductive ww9 where
 | start (x0 : (Option ua5))
def vI3 : ww9 → List Bool
 | .start .. => []
def xJ4 : ww9 → St E.S
 | .start x0 => st0 8 [.op 128 x0] []
abbrev xP2 : Type := ((Bool × Unit) × Unit)
def vc6 : Res E (Bool × Unit) Unit := { rows := [], flat := [], keep := 0, done := [0], rl := (.cons Rd.bool .nil), rb := .nil }
def ur3 : ww9 → Option xP2
 | .start x0 =>
  x0 >>= fun t1 =>
  (xX8 t1.constructors) >>= fun t2 =>
  some ((t2, ()), ())
def xh5 : List (Plc E ww9) := []
theorem wN8 : All (ub7 8 0 vI3 xJ4) xh5 := trivial
def wf1 : Code := Tryz.f88.body.getD .skip
def wn3 : Spec E.S := ub0
theorem v43 : ua9 E wn3 := ua7
theorem xw1 : ∀ pt r, ur3 pt = some r → Good E Tryz.f88 wf1 0 (vc6.av r) (vc6.bx r) (vI3 pt) (xJ4 pt) := by
 intro pt r hr
 cases pt <;> exact ua8 (spec := wn3) (wr := (mkWr [] [])) (l := xh5) (z := 8) (p := vc6) (run' := fun _ => none) E_ok wN8.mem rfl v43 (fun _ _ h => by cases h) (Eq.trans (by kernel_rfl) hr)
def uM5 : Con E := ⟨88, _, _, (.cons (Rd.op 128).w .nil), .nil, 0, xP2, fun a b => ur3 (.start a.1), vc6.av, vc6.bx⟩
theorem us7 : uM5.Ok := fun a b r h => ub2 (fn := Tryz.f88) (code := wf1) E_ok (by kernel_rfl) (by kernel_rfl) (by kernel_rfl) (Nat.le_of_ble_eq_true rfl) (xw1 (.start a.1) r h)
inductive wx0 where
 | start (x0 : Int)
 | p7 (x0 : Int) (n2 : Int)
 | p15 (x0 : Int) (n2 : Int)
 | p31 (x0 : Int) (n2 : Int)
def u98 : wx0 → List Bool
 | .start .. => []
 | .p7 .. => [true, true]
 | .p15 .. => [true, true, true]
 | .p31 .. => [true, true, true, true]
def xc9 : wx0 → St E.S
 | .start x0 => st0 25 [.v (.int .u64 x0)] []
 | .p7 x0 n2 => mkSt 25 [0, 2] [.v (.int .u64 x0), .v (.int .i64 n2)] []
 | .p15 x0 n2 => mkSt 25 [0, 2] [.v (.int .u64 x0), .v (.int .i64 n2)] []
 | .p31 x0 n2 => mkSt 25 [0, 2] [.v (.int .u64 x0), .v (.int .i64 n2)] []
abbrev xP3 : Type := ((Int × Unit) × Unit)
def uO6 : Res E (Int × Unit) Unit := { rows := [], flat := [], keep := 0, done := [0], rl := (.cons (Rd.int .i64) .nil), rb := .nil }
def uj5 : wx0 → Option xP3
 | .start x0 =>
  if (decide (x0 ≥ (4294967296 : Int))) = true then
   if (decide ((0 : Int) ≤ (32 : Int))) = true then
    uj5 (.p7 (shr .u64 x0 (32 : Int)) (32 : Int))
   else none
  else
   uj5 (.p7 x0 (0 : Int))
 | .p7 x0 n2 =>
  if (decide (x0 ≥ (65536 : Int))) = true then
   if (decide ((0 : Int) ≤ (16 : Int))) = true then
    uj5 (.p15 (shr .u64 x0 (16 : Int)) (IntKind.wrap .i64 (n2 + (16 : Int))))
   else none
  else
   uj5 (.p15 x0 n2)
 | .p15 x0 n2 =>
  if (decide (x0 ≥ (256 : Int))) = true then
   if (decide ((0 : Int) ≤ (8 : Int))) = true then
    uj5 (.p31 (shr .u64 x0 (8 : Int)) (IntKind.wrap .i64 (n2 + (8 : Int))))
   else none
  else
   uj5 (.p31 x0 n2)
 | .p31 x0 n2 =>
  (sidx (⟨#[0, 1, 2, 2, 3, 3, 3, 3, 4, 4, 4, 4, 4, 4, 4, 4, 5, 5, 5, 5, 5, 5, 5, 5, 5, 5, 5, 5, 5, 5, 5, 5, 6, 6, 6, 6, 6, 6, 6, 6, 6, 6, 6, 6, 6, 6, 6, 6, 6, 6, 6, 6, 6, 6, 6, 6, 6, 6, 6, 6, 6, 6, 6, 6, 7, 7, 7, 7, 7, 7, 7, 7, 7, 7, 7, 7, 7, 7, 7, 7, 7, 7, 7, 7, 7, 7, 7, 7, 7, 7, 7, 7, 7, 7, 7, 7, 7, 7, 7, 7, 7, 7, 7, 7, 7, 7, 7, 7, 7, 7, 7, 7, 7, 7, 7, 7, 7, 7, 7, 7, 7, 7, 7, 7, 7, 7, 7, 7, 8, 8, 8, 8, 8, 8, 8, 8, 8, 8, 8, 8, 8, 8, 8, 8, 8, 8, 8, 8, 8, 8, 8, 8, 8, 8, 8, 8, 8, 8, 8, 8, 8, 8, 8, 8, 8, 8, 8, 8, 8, 8, 8, 8, 8, 8, 8, 8, 8, 8, 8, 8, 8, 8, 8, 8, 8, 8, 8, 8, 8, 8, 8, 8, 8, 8, 8, 8, 8, 8, 8, 8, 8, 8, 8, 8, 8, 8, 8, 8, 8, 8, 8, 8, 8, 8, 8, 8, 8, 8, 8, 8, 8, 8, 8, 8, 8, 8, 8, 8, 8, 8, 8, 8, 8, 8, 8, 8, 8, 8, 8, 8, 8, 8, 8, 8, 8, 8, 8, 8, 8, 8, 8, 8, 8, 8, 8, 8]⟩ : ByteArray) (IntKind.wrap .u8 x0)) >>= fun t1 =>
  some ((IntKind.wrap .i64 (n2 + (IntKind.wrap .i64 t1)), ()), ())
 partial_fixpoint
def xh6 : List (Plc E wx0) := [⟨7, [true, true], { slots := [0, 2], rows := [], flat := [], keep := 0 }, _, _, (.cons (Rd.int .u64) (.cons (Rd.int .i64) .nil)), .nil, fun a b => .p7 a.1 a.2.1⟩,
 ⟨15, [true, true, true], { slots := [0, 2], rows := [], flat := [], keep := 0 }, _, _, (.cons (Rd.int .u64) (.cons (Rd.int .i64) .nil)), .nil, fun a b => .p15 a.1 a.2.1⟩,
 ⟨31, [true, true, true, true], { slots := [0, 2], rows := [], flat := [], keep := 0 }, _, _, (.cons (Rd.int .u64) (.cons (Rd.int .i64) .nil)), .nil, fun a b => .p31 a.1 a.2.1⟩]
theorem wN9 : All (ub7 25 0 u98 xc9) xh6 := ⟨⟨rfl, rfl, fun _ _ => rfl, fun _ _ => rfl⟩, ⟨⟨rfl, rfl, fun _ _ => rfl, fun _ _ => rfl⟩, ⟨⟨rfl, rfl, fun _ _ => rfl, fun _ _ => rfl⟩, trivial⟩⟩⟩
def vu1 : Code := Tryz.f146.body.getD .skip
def wn4 : Spec E.S := ub0
theorem v44 : ua9 E wn4 := ua7
theorem xw2 : ∀ pt r, uj5 pt = some r → Good E Tryz.f146 vu1 0 (uO6.av r) (uO6.bx r) (u98 pt) (xc9 pt) := by
 refine uj5.partial_correctness (fun pt r => Good E Tryz.f146 vu1 0 (uO6.av r) (uO6.bx r) (u98 pt) (xc9 pt)) ?_
 intro run' ih pt r hr
 cases pt <;> exact ua8 (spec := wn4) (wr := (mkWr [] [])) (l := xh6) (z := 25) (p := uO6) E_ok wN9.mem rfl v44 ih (Eq.trans (by kernel_rfl) hr)
def wY8 : Con E := ⟨146, _, _, (.cons (Rd.int .u64).w .nil), .nil, 0, xP3, fun a b => uj5 (.start a.1), uO6.av, uO6.bx⟩
theorem wB3 : wY8.Ok := fun a b r h => ub2 (fn := Tryz.f146) (code := vu1) E_ok (by kernel_rfl) (by kernel_rfl) (by kernel_rfl) (Nat.le_of_ble_eq_true rfl) (xw2 (.start a.1) r h)
inductive wx1 where
 | start (x0 : Int)
def vI4 : wx1 → List Bool
 | .start .. => []
def xJ5 : wx1 → St E.S
 | .start x0 => st0 8 [.v (.int .u64 x0)] []
abbrev xP4 : Type := ((Int × Unit) × Unit)
def vc7 : Res E (Int × Unit) Unit := { rows := [], flat := [], keep := 0, done := [0], rl := (.cons (Rd.int .i64) .nil), rb := .nil }
def uZ9 : wx1 → Option xP4
 | .start x0 =>
  (uj5 (.start x0)) >>= fun t1 =>
  some ((t1.1.1, ()), ())
def xh7 : List (Plc E wx1) := []
theorem wO0 : All (ub7 8 0 vI4 xJ5) xh7 := trivial
def wf2 : Code := Tryz.f124.body.getD .skip
def wn5 : Spec E.S := (Con.add wY8 ub0)
theorem v45 : ua9 E wn5 := (Con.add_ok wB3 ua7)
theorem xw3 : ∀ pt r, uZ9 pt = some r → Good E Tryz.f124 wf2 0 (vc7.av r) (vc7.bx r) (vI4 pt) (xJ5 pt) := by
 intro pt r hr
 cases pt <;> exact ua8 (spec := wn5) (wr := (mkWr [] [])) (l := xh7) (z := 8) (p := vc7) (run' := fun _ => none) E_ok wO0.mem rfl v45 (fun _ _ h => by cases h) (Eq.trans (by kernel_rfl) hr)
def wY9 : Con E := ⟨124, _, _, (.cons (Rd.int .u64).w .nil), .nil, 0, xP4, fun a b => uZ9 (.start a.1), vc7.av, vc7.bx⟩
theorem wB4 : wY9.Ok := fun a b r h => ub2 (fn := Tryz.f124) (code := wf2) E_ok (by kernel_rfl) (by kernel_rfl) (by kernel_rfl) (Nat.le_of_ble_eq_true rfl) (xw3 (.start a.1) r h)
inductive wx2 where
 | start (x0 : (Option ua5))
def vI5 : wx2 → List Bool
 | .start .. => []
def xJ6 : wx2 → St E.S
 | .start x0 => st0 11 [.op 128 x0] []
abbrev xP5 : Type := ((Int × Unit) × Unit)
def vc8 : Res E (Int × Unit) Unit := { rows := [], flat := [], keep := 0, done := [0], rl := (.cons (Rd.int .i64) .nil), rb := .nil }
def uQ2 : wx2 → Option xP5
 | .start x0 =>
  x0 >>= fun t1 =>
  (uZ9 (.start (IntKind.wrap .u64 (IntKind.wrap .i64 ((List.length (Option.getD t1.constructors []) : Int) - (1 : Int)))))) >>= fun t2 =>
  some ((t2.1.1, ()), ())
def xh8 : List (Plc E wx2) := []
theorem wO1 : All (ub7 11 0 vI5 xJ6) xh8 := trivial
def wf3 : Code := Tryz.f91.body.getD .skip
def wn6 : Spec E.S := (Con.add wY9 ub0)
theorem v47 : ua9 E wn6 := (Con.add_ok wB4 ua7)
theorem xw4 : ∀ pt r, uQ2 pt = some r → Good E Tryz.f91 wf3 0 (vc8.av r) (vc8.bx r) (vI5 pt) (xJ6 pt) := by
 intro pt r hr
 cases pt <;> exact ua8 (spec := wn6) (wr := (mkWr [] [])) (l := xh8) (z := 11) (p := vc8) (run' := fun _ => none) E_ok wO1.mem rfl v47 (fun _ _ h => by cases h) (Eq.trans (by kernel_rfl) hr)
def wZ0 : Con E := ⟨91, _, _, (.cons (Rd.op 128).w .nil), .nil, 0, xP5, fun a b => uQ2 (.start a.1), vc8.av, vc8.bx⟩
theorem wB5 : wZ0.Ok := fun a b r h => ub2 (fn := Tryz.f91) (code := wf3) E_ok (by kernel_rfl) (by kernel_rfl) (by kernel_rfl) (Nat.le_of_ble_eq_true rfl) (xw4 (.start a.1) r h)
inductive uV6 where
 | start (v0_0 : ByteArray) (v0_1 : (List ua6)) (v0_2 : (Option (List (Option ua5))))
 | p116 (sum3 : Int) (s7 : (Option (List (Option ua5)))) (s8 : Int) (s9 : Int)
def ut8 : uV6 → List Bool
 | .start .. => []
 | .p116 .. => [false, false, true, false, true, true]
def vi2 : uV6 → St E.S
 | .start v0_0 v0_1 v0_2 => st0 19 [.agg [.v (.string v0_0), .sl 58 v0_1 false, .so 105 v0_2]] []
 | .p116 sum3 s7 s8 s9 => mkSt 19 [3, 7, 8, 9] [.v (.int .i64 sum3), .so 105 s7, .v (.int .i64 s8), .v (.int .i64 s9)] []
abbrev vk7 : Type := ((Int × Unit) × Unit)
def ui6 : Res E (Int × Unit) Unit := { rows := [], flat := [], keep := 0, done := [0], rl := (.cons (Rd.int .i64) .nil), rb := .nil }
inductive u46 where
 | start (x0 : (Option ua5))
def uy8 : u46 → List Bool
 | .start .. => []
def vr5 : u46 → St E.S
 | .start x0 => st0 14 [.op 128 x0] []
abbrev vC0 : Type := ((Int × Unit) × Unit)
def ul0 : Res E (Int × Unit) Unit := { rows := [], flat := [], keep := 0, done := [0], rl := (.cons (Rd.int .i64) .nil), rb := .nil }
inductive uV7 where
 | start (x0 : (Option ua5))
 | p116 (most3 : Int) (s9 : (Option (List data_variant))) (s10 : Int) (s11 : Int)
def ut9 : uV7 → List Bool
 | .start .. => []
 | .p116 .. => [false, false, true, false, true, true]
def vi3 : uV7 → St E.S
 | .start x0 => st0 21 [.op 128 x0] []
 | .p116 most3 s9 s10 s11 => mkSt 21 [3, 9, 10, 11] [.v (.int .i64 most3), .so 125 s9, .v (.int .i64 s10), .v (.int .i64 s11)] []
abbrev vk8 : Type := ((Int × Unit) × Unit)
def ui7 : Res E (Int × Unit) Unit := { rows := [], flat := [], keep := 0, done := [0], rl := (.cons (Rd.int .i64) .nil), rb := .nil }
mutual
def uj6 : uV6 → Option vk7
 | .start v0_0 v0_1 v0_2 =>
  uj6 (.p116 (0 : Int) v0_2 (List.length (Option.getD v0_2 []) : Int) (0 : Int))
 | .p116 sum3 s7 s8 s9 =>
  if (decide (s9 < s8)) = true then
   (idx (Option.getD s7 []) s9) >>= fun t1 =>
   (run_z41 (.start t1)) >>= fun t2 =>
   uj6 (.p116 (IntKind.wrap .i64 (sum3 + t2.1.1)) s7 s8 (IntKind.wrap .i64 (s9 + (1 : Int))))
  else
   some ((sum3, ()), ())
 partial_fixpoint
def run_z41 : u46 → Option vC0
 | .start x0 =>
  (ur3 (.start x0)) >>= fun t1 =>
  if t1.1.1 = true then
   x0 >>= fun t2 =>
   some ((t2.bits, ()), ())
  else
   (uQ2 (.start x0)) >>= fun t3 =>
   (run_z42 (.start x0)) >>= fun t4 =>
   some ((IntKind.wrap .i64 (t3.1.1 + t4.1.1), ()), ())
 partial_fixpoint
def run_z42 : uV7 → Option vk8
 | .start x0 =>
  x0 >>= fun t1 =>
  run_z42 (.p116 (0 : Int) t1.constructors (List.length (Option.getD t1.constructors []) : Int) (0 : Int))
 | .p116 most3 s9 s10 s11 =>
  if (decide (s11 < s10)) = true then
   (idx (Option.getD s9 []) s11) >>= fun t1 =>
   (uj6 (.start t1.name t1.fields t1.parts)) >>= fun t2 =>
   run_z42 (.p116 (if t2.1.1 > most3 then t2.1.1 else most3) s9 s10 (IntKind.wrap .i64 (s11 + (1 : Int))))
  else
   some ((most3, ()), ())
 partial_fixpoint
end
def xi0 : List (Plc E uV6) := [⟨116, [false, false, true, false, true, true], { slots := [3, 7, 8, 9], rows := [], flat := [], keep := 0 }, _, _, (.cons (Rd.int .i64) (.cons (Rd.so 105) (.cons (Rd.int .i64) (.cons (Rd.int .i64) .nil)))), .nil, fun a b => .p116 a.1 a.2.1 a.2.2.1 a.2.2.2.1⟩]
theorem wO2 : All (ub7 19 0 ut8 vi2) xi0 := ⟨⟨rfl, rfl, fun _ _ => rfl, fun _ _ => rfl⟩, trivial⟩
def uv9 : Code := Tryz.f89.body.getD .skip
def vV4 (run' : uV6 → Option vk7) : Con E := ⟨89, ((ByteArray × ((List ua6) × ((Option (List (Option ua5))) × Unit))) × Unit), Unit, (RwL.cons (Rw.agg (RwL.cons Rd.str.w (RwL.cons (Rw.sl 58) (RwL.cons (Rd.so 105).w RwL.nil)))) RwL.nil), RdBL.nil, 0, vk7, fun a b => run' (.start a.1.1 a.1.2.1 a.1.2.2.1), ui6.av, ui6.bx⟩
theorem vp7 {run' : uV6 → Option vk7} (ih : ∀ pt r, run' pt = some r → Good E Tryz.f89 uv9 0 (ui6.av r) (ui6.bx r) (ut8 pt) (vi2 pt)) : (vV4 run').Ok := fun a b r h => ub2 (fn := Tryz.f89) (code := uv9) E_ok (by kernel_rfl) (by kernel_rfl) (by kernel_rfl) (Nat.le_of_ble_eq_true rfl) (ih (.start a.1.1 a.1.2.1 a.1.2.2.1) r h)
def xi1 : List (Plc E u46) := []
theorem wO3 : All (ub7 14 0 uy8 vr5) xi1 := trivial
def uA0 : Code := Tryz.f65.body.getD .skip
def w76 (run' : u46 → Option vC0) : Con E := ⟨65, ((Option ua5) × Unit), Unit, (RwL.cons (Rd.op 128).w RwL.nil), RdBL.nil, 0, vC0, fun a b => run' (.start a.1), ul0.av, ul0.bx⟩
theorem wH5 {run' : u46 → Option vC0} (ih : ∀ pt r, run' pt = some r → Good E Tryz.f65 uA0 0 (ul0.av r) (ul0.bx r) (uy8 pt) (vr5 pt)) : (w76 run').Ok := fun a b r h => ub2 (fn := Tryz.f65) (code := uA0) E_ok (by kernel_rfl) (by kernel_rfl) (by kernel_rfl) (Nat.le_of_ble_eq_true rfl) (ih (.start a.1) r h)
def xi2 : List (Plc E uV7) := [⟨116, [false, false, true, false, true, true], { slots := [3, 9, 10, 11], rows := [], flat := [], keep := 0 }, _, _, (.cons (Rd.int .i64) (.cons (Rd.so 125) (.cons (Rd.int .i64) (.cons (Rd.int .i64) .nil)))), .nil, fun a b => .p116 a.1 a.2.1 a.2.2.1 a.2.2.2.1⟩]
theorem wO4 : All (ub7 21 0 ut9 vi3) xi2 := ⟨⟨rfl, rfl, fun _ _ => rfl, fun _ _ => rfl⟩, trivial⟩
def uw0 : Code := Tryz.f90.body.getD .skip
def vV5 (run' : uV7 → Option vk8) : Con E := ⟨90, ((Option ua5) × Unit), Unit, (RwL.cons (Rd.op 128).w RwL.nil), RdBL.nil, 0, vk8, fun a b => run' (.start a.1), ui7.av, ui7.bx⟩
theorem vp8 {run' : uV7 → Option vk8} (ih : ∀ pt r, run' pt = some r → Good E Tryz.f90 uw0 0 (ui7.av r) (ui7.bx r) (ut9 pt) (vi3 pt)) : (vV5 run').Ok := fun a b r h => ub2 (fn := Tryz.f90) (code := uw0) E_ok (by kernel_rfl) (by kernel_rfl) (by kernel_rfl) (Nat.le_of_ble_eq_true rfl) (ih (.start a.1) r h)
def wn7 (r_z40 : uV6 → Option vk7) (r_z41 : u46 → Option vC0) : Spec E.S := (Con.add (w76 r_z41) (Con.add (vV4 r_z40) ub0))
theorem v48 {r_z40 : uV6 → Option vk7} (h_z40 : ∀ pt r, r_z40 pt = some r → Good E Tryz.f89 uv9 0 (ui6.av r) (ui6.bx r) (ut8 pt) (vi2 pt)) {r_z41 : u46 → Option vC0} (h_z41 : ∀ pt r, r_z41 pt = some r → Good E Tryz.f65 uA0 0 (ul0.av r) (ul0.bx r) (uy8 pt) (vr5 pt)) : ua9 E (wn7 r_z40 r_z41) := (Con.add_ok (wH5 h_z41) (Con.add_ok (vp7 h_z40) ua7))
def wn8 (r_z42 : uV7 → Option vk8) : Spec E.S := (Con.add (vV5 r_z42) (Con.add wZ0 (Con.add uM5 ub0)))
theorem v49 {r_z42 : uV7 → Option vk8} (h_z42 : ∀ pt r, r_z42 pt = some r → Good E Tryz.f90 uw0 0 (ui7.av r) (ui7.bx r) (ut9 pt) (vi3 pt)) : ua9 E (wn8 r_z42) := (Con.add_ok (vp8 h_z42) (Con.add_ok wB5 (Con.add_ok us7 ua7)))
def wn9 (r_z40 : uV6 → Option vk7) (r_z42 : uV7 → Option vk8) : Spec E.S := (Con.add (vV5 r_z42) (Con.add (vV4 r_z40) ub0))
theorem v50 {r_z40 : uV6 → Option vk7} (h_z40 : ∀ pt r, r_z40 pt = some r → Good E Tryz.f89 uv9 0 (ui6.av r) (ui6.bx r) (ut8 pt) (vi2 pt)) {r_z42 : uV7 → Option vk8} (h_z42 : ∀ pt r, r_z42 pt = some r → Good E Tryz.f90 uw0 0 (ui7.av r) (ui7.bx r) (ut9 pt) (vi3 pt)) : ua9 E (wn9 r_z40 r_z42) := (Con.add_ok (vp8 h_z42) (Con.add_ok (vp7 h_z40) ua7))
theorem u73 : (∀ pt r, uj6 pt = some r → Good E Tryz.f89 uv9 0 (ui6.av r) (ui6.bx r) (ut8 pt) (vi2 pt)) ∧ (∀ pt r, run_z41 pt = some r → Good E Tryz.f65 uA0 0 (ul0.av r) (ul0.bx r) (uy8 pt) (vr5 pt)) ∧ (∀ pt r, run_z42 pt = some r → Good E Tryz.f90 uw0 0 (ui7.av r) (ui7.bx r) (ut9 pt) (vi3 pt)) := by
  refine uj6.mutual_partial_correctness (fun pt r => Good E Tryz.f89 uv9 0 (ui6.av r) (ui6.bx r) (ut8 pt) (vi2 pt)) (fun pt r => Good E Tryz.f65 uA0 0 (ul0.av r) (ul0.bx r) (uy8 pt) (vr5 pt)) (fun pt r => Good E Tryz.f90 uw0 0 (ui7.av r) (ui7.bx r) (ut9 pt) (vi3 pt)) ?_ ?_ ?_
  · intro r_z40 r_z41 h_z40 h_z41 pt r hr
    cases pt <;> exact ua8 (spec := (wn7 r_z40 r_z41)) (wr := (mkWr [] [])) (l := xi0) (z := 19) (p := ui6) E_ok wO2.mem rfl (v48 h_z40 h_z41) h_z40 (Eq.trans (by kernel_rfl) hr)
  · intro r_z42 h_z42 pt r hr
    cases pt <;> exact ua8 (spec := (wn8 r_z42)) (wr := (mkWr [] [])) (l := xi1) (z := 14) (p := ul0) (run' := fun _ => none) E_ok wO3.mem rfl (v49 h_z42) (fun _ _ h => by cases h) (Eq.trans (by kernel_rfl) hr)
  · intro r_z40 r_z42 h_z40 h_z42 pt r hr
    cases pt <;> exact ua8 (spec := (wn9 r_z40 r_z42)) (wr := (mkWr [] [])) (l := xi2) (z := 21) (p := ui7) E_ok wO4.mem rfl (v50 h_z40 h_z42) h_z42 (Eq.trans (by kernel_rfl) hr)
theorem xw5 : ∀ pt r, uj6 pt = some r → Good E Tryz.f89 uv9 0 (ui6.av r) (ui6.bx r) (ut8 pt) (vi2 pt) := u73.1
theorem xw6 : ∀ pt r, run_z41 pt = some r → Good E Tryz.f65 uA0 0 (ul0.av r) (ul0.bx r) (uy8 pt) (vr5 pt) := u73.2.1
theorem xw7 : ∀ pt r, run_z42 pt = some r → Good E Tryz.f90 uw0 0 (ui7.av r) (ui7.bx r) (ut9 pt) (vi3 pt) := u73.2.2
def wZ3 : Con E := ⟨89, _, _, (.cons (Rw.agg (.cons Rd.str.w (.cons (Rw.sl 58) (.cons (Rd.so 105).w .nil)))) .nil), .nil, 0, vk7, fun a b => uj6 (.start a.1.1 a.1.2.1 a.1.2.2.1), ui6.av, ui6.bx⟩
theorem wB6 : wZ3.Ok := fun a b r h => ub2 (fn := Tryz.f89) (code := uv9) E_ok (by kernel_rfl) (by kernel_rfl) (by kernel_rfl) (Nat.le_of_ble_eq_true rfl) (xw5 (.start a.1.1 a.1.2.1 a.1.2.2.1) r h)
def uW6 : Con E := ⟨65, _, _, (.cons (Rd.op 128).w .nil), .nil, 0, vC0, fun a b => run_z41 (.start a.1), ul0.av, ul0.bx⟩
theorem uy1 : uW6.Ok := fun a b r h => ub2 (fn := Tryz.f65) (code := uA0) E_ok (by kernel_rfl) (by kernel_rfl) (by kernel_rfl) (Nat.le_of_ble_eq_true rfl) (xw6 (.start a.1) r h)
def vS4 : Con E := ⟨90, _, _, (.cons (Rd.op 128).w .nil), .nil, 0, vk8, fun a b => run_z42 (.start a.1), ui7.av, ui7.bx⟩
theorem vn2 : vS4.Ok := fun a b r h => ub2 (fn := Tryz.f90) (code := uw0) E_ok (by kernel_rfl) (by kernel_rfl) (by kernel_rfl) (Nat.le_of_ble_eq_true rfl) (xw7 (.start a.1) r h)
inductive wx3 where
 | start (l0 : (List ua2)) (t1_0 : Int) (t1_1 : Int) (t1_2 : ByteArray) (t1_3 : (List ua1))
def vI6 : wx3 → List Bool
 | .start .. => []
def xJ7 : wx3 → St E.S
 | .start l0 t1_0 t1_1 t1_2 t1_3 => st0 49 [.sl 103 l0 false, .agg [.v (.int .i64 t1_0), .v (.int .i64 t1_1), .v (.string t1_2), .sl 25 t1_3 false]] []
abbrev xP6 : Type := (((Option ua5) × (((List ua2) × (Unit × Unit)) × (Int × Unit))) × Unit)
def vc9 : Res E ((Option ua5) × (((List ua2) × (Unit × Unit)) × (Int × Unit))) Unit := { rows := [], flat := [], keep := 0, done := [0, 1, 2], ptrs := [(0, 128)], rl := (.cons (Rd.op 128) (.cons (Rd.agg (.cons (Rd.sl 103 false) (.cons Rd.nl .nil))) (.cons (Rd.int .i64) .nil))), rb := .nil }
def ur4 : wx3 → Option xP6
 | .start l0 t1_0 t1_1 t1_2 t1_3 =>
  (uH2 (.start l0)) >>= fun t1 =>
  if (t1.1.2.1 != (0 : Int)) = true then
   some ((none, ((l0, ((), ())), (t1.1.2.1, ()))), ())
  else
   (uH1 (.start l0 ([]) t1_0 t1_1 t1_2 t1_3)) >>= fun t2 =>
   if (t2.1.1 != (0 : Int)) = true then
    some ((none, ((l0, ((), ())), (t2.1.1, ()))), ())
   else
    (uc6 (.start l0 ([]) t1_0 t1_1 t1_2 t1_3 (1 : Int) (0 : Int))) >>= fun t3 =>
    if (t3.1.2.1 == (0 : Int)) = true then
     (run_z41 (.start t3.1.1)) >>= fun t4 =>
     (uk1 (.start t4.1.1 (1 : Int) (16 : Int))) >>= fun t5 =>
     if (!t5.1.1) = true then
      some ((t3.1.1, ((l0, ((), ())), ((25 : Int), ()))), ())
     else
      some ((t3.1.1, ((l0, ((), ())), (t3.1.2.1, ()))), ())
    else
     some ((t3.1.1, ((l0, ((), ())), (t3.1.2.1, ()))), ())
def xi3 : List (Plc E wx3) := []
theorem wO5 : All (ub7 49 0 vI6 xJ7) xi3 := trivial
def wf4 : Code := Tryz.f64.body.getD .skip
def wo0 : Spec E.S := (Con.add uR8 (Con.add uW6 (Con.add wY7 (Con.add vS1 (Con.add vS3 ub0)))))
theorem v52 : ua9 E wo0 := (Con.add_ok uq3 (Con.add_ok uy1 (Con.add_ok wB2 (Con.add_ok vm9 (Con.add_ok vn1 ua7)))))
theorem xw8 : ∀ pt r, ur4 pt = some r → Good E Tryz.f64 wf4 0 (vc9.av r) (vc9.bx r) (vI6 pt) (xJ7 pt) := by
 intro pt r hr
 cases pt <;> exact ua8 (spec := wo0) (wr := (mkWr [] [])) (l := xi3) (z := 49) (p := vc9) (run' := fun _ => none) E_ok wO5.mem rfl v52 (fun _ _ h => by cases h) (Eq.trans (by kernel_rfl) hr)
def uM6 : Con E := ⟨64, _, _, (.cons (Rw.sl 103) (.cons (Rw.agg (.cons (Rd.int .i64).w (.cons (Rd.int .i64).w (.cons Rd.str.w (.cons (Rw.sl 25) .nil))))) .nil)), .nil, 0, xP6, fun a b => ur4 (.start a.1 a.2.1.1 a.2.1.2.1 a.2.1.2.2.1 a.2.1.2.2.2.1), vc9.av, vc9.bx⟩
theorem us8 : uM6.Ok := fun a b r h => ub2 (fn := Tryz.f64) (code := wf4) E_ok (by kernel_rfl) (by kernel_rfl) (by kernel_rfl) (Nat.le_of_ble_eq_true rfl) (xw8 (.start a.1 a.2.1.1 a.2.1.2.1 a.2.1.2.2.1 a.2.1.2.2.2.1) r h)
inductive wx4 where
 | start (l0 : (List ua2)) (t1_0 : Int) (t1_1 : Int) (t1_2 : ByteArray) (t1_3 : (List ua1))
def vI7 : wx4 → List Bool
 | .start .. => []
def xJ8 : wx4 → St E.S
 | .start l0 t1_0 t1_1 t1_2 t1_3 => st0 21 [.sl 103 l0 false, .agg [.v (.int .i64 t1_0), .v (.int .i64 t1_1), .v (.string t1_2), .sl 25 t1_3 false]] []
abbrev xP7 : Type := ((Int × (Int × Unit)) × Unit)
def vd0 : Res E (Int × (Int × Unit)) Unit := { rows := [], flat := [], keep := 0, done := [0, 1], rl := (.cons (Rd.int .i64) (.cons (Rd.int .i64) .nil)), rb := .nil }
def vg5 : wx4 → Option xP7
 | .start l0 t1_0 t1_1 t1_2 t1_3 =>
  (ur4 (.start l0 t1_0 t1_1 t1_2 t1_3)) >>= fun t1 =>
  if (t1.1.2.2.1 != (0 : Int)) = true then
   some (((0 : Int), (t1.1.2.2.1, ())), ())
  else
   (run_z41 (.start t1.1.1)) >>= fun t2 =>
   some ((t2.1.1, ((0 : Int), ())), ())
def xi4 : List (Plc E wx4) := []
theorem wO6 : All (ub7 21 0 vI7 xJ8) xi4 := trivial
def wf5 : Code := Tryz.f14.body.getD .skip
def wo1 : Spec E.S := (Con.add uW6 (Con.add uM6 ub0))
theorem v54 : ua9 E wo1 := (Con.add_ok uy1 (Con.add_ok us8 ua7))
theorem xw9 : ∀ pt r, vg5 pt = some r → Good E Tryz.f14 wf5 0 (vd0.av r) (vd0.bx r) (vI7 pt) (xJ8 pt) := by
 intro pt r hr
 cases pt <;> exact ua8 (spec := wo1) (wr := (mkWr [] [])) (l := xi4) (z := 21) (p := vd0) (run' := fun _ => none) E_ok wO6.mem rfl v54 (fun _ _ h => by cases h) (Eq.trans (by kernel_rfl) hr)
def wZ4 : Con E := ⟨14, _, _, (.cons (Rw.sl 103) (.cons (Rw.agg (.cons (Rd.int .i64).w (.cons (Rd.int .i64).w (.cons Rd.str.w (.cons (Rw.sl 25) .nil))))) .nil)), .nil, 0, xP7, fun a b => vg5 (.start a.1 a.2.1.1 a.2.1.2.1 a.2.1.2.2.1 a.2.1.2.2.2.1), vd0.av, vd0.bx⟩
theorem wB7 : wZ4.Ok := fun a b r h => ub2 (fn := Tryz.f14) (code := wf5) E_ok (by kernel_rfl) (by kernel_rfl) (by kernel_rfl) (Nat.le_of_ble_eq_true rfl) (xw9 (.start a.1 a.2.1.1 a.2.1.2.1 a.2.1.2.2.1 a.2.1.2.2.2.1) r h)
inductive wx5 where
 | start (name0 : ByteArray) (parts1 : (List ua4))
def vI8 : wx5 → List Bool
 | .start .. => []
def xJ9 : wx5 → St E.S
 | .start name0 parts1 => st0 8 [.v (.string name0), .sl 37 parts1 false] []
abbrev xP8 : Type := (((ByteArray × (Int × ((List ua4) × Unit))) × Unit) × Unit)
def vd1 : Res E ((ByteArray × (Int × ((List ua4) × Unit))) × Unit) Unit := { rows := [], flat := [], keep := 0, done := [0], rl := (.cons (Rd.agg (.cons Rd.str (.cons (Rd.int .i64) (.cons (Rd.sl 37 false) .nil)))) .nil), rb := .nil }
def uu7 : wx5 → Option xP8
 | .start name0 parts1 =>
  some (((name0, ((0 : Int), (parts1, ()))), ()), ())
def xi5 : List (Plc E wx5) := []
theorem wO7 : All (ub7 8 0 vI8 xJ9) xi5 := trivial
def wf6 : Code := Tryz.f60.body.getD .skip
def wo2 : Spec E.S := ub0
theorem v55 : ua9 E wo2 := ua7
theorem xx0 : ∀ pt r, uu7 pt = some r → Good E Tryz.f60 wf6 0 (vd1.av r) (vd1.bx r) (vI8 pt) (xJ9 pt) := by
 intro pt r hr
 cases pt <;> exact ua8 (spec := wo2) (wr := (mkWr [] [])) (l := xi5) (z := 8) (p := vd1) (run' := fun _ => none) E_ok wO7.mem rfl v55 (fun _ _ h => by cases h) (Eq.trans (by kernel_rfl) hr)
def wZ5 : Con E := ⟨60, _, _, (.cons Rd.str.w (.cons (Rw.sl 37) .nil)), .nil, 0, xP8, fun a b => uu7 (.start a.1 a.2.1), vd1.av, vd1.bx⟩
theorem wB8 : wZ5.Ok := fun a b r h => ub2 (fn := Tryz.f60) (code := wf6) E_ok (by kernel_rfl) (by kernel_rfl) (by kernel_rfl) (Nat.le_of_ble_eq_true rfl) (xx0 (.start a.1 a.2.1) r h)
inductive wx6 where
 | start (v0_0 : ByteArray) (v0_1 : Int) (v0_2 : (List ua4))
def vI9 : wx6 → List Bool
 | .start .. => []
def xK0 : wx6 → St E.S
 | .start v0_0 v0_1 v0_2 => st0 5 [.agg [.v (.string v0_0), .v (.int .i64 v0_1), .sl 37 v0_2 false]] []
abbrev xP9 : Type := (((List ua4) × Unit) × Unit)
def vd2 : Res E ((List ua4) × Unit) Unit := { rows := [], flat := [], keep := 0, done := [0], rl := (.cons (Rd.sl 37 false) .nil), rb := .nil }
def vg6 : wx6 → Option xP9
 | .start v0_0 v0_1 v0_2 =>
  some ((v0_2, ()), ())
def xi6 : List (Plc E wx6) := []
theorem wO8 : All (ub7 5 0 vI9 xK0) xi6 := trivial
def wf7 : Code := Tryz.f95.body.getD .skip
def wo3 : Spec E.S := ub0
theorem v56 : ua9 E wo3 := ua7
theorem xx1 : ∀ pt r, vg6 pt = some r → Good E Tryz.f95 wf7 0 (vd2.av r) (vd2.bx r) (vI9 pt) (xK0 pt) := by
 intro pt r hr
 cases pt <;> exact ua8 (spec := wo3) (wr := (mkWr [] [])) (l := xi6) (z := 5) (p := vd2) (run' := fun _ => none) E_ok wO8.mem rfl v56 (fun _ _ h => by cases h) (Eq.trans (by kernel_rfl) hr)
def wZ6 : Con E := ⟨95, _, _, (.cons (Rw.agg (.cons Rd.str.w (.cons (Rd.int .i64).w (.cons (Rw.sl 37) .nil)))) .nil), .nil, 0, xP9, fun a b => vg6 (.start a.1.1 a.1.2.1 a.1.2.2.1), vd2.av, vd2.bx⟩
theorem wB9 : wZ6.Ok := fun a b r h => ub2 (fn := Tryz.f95) (code := wf7) E_ok (by kernel_rfl) (by kernel_rfl) (by kernel_rfl) (Nat.le_of_ble_eq_true rfl) (xx1 (.start a.1.1 a.1.2.1 a.1.2.2.1) r h)
inductive vj8 where
 | start (x0_0 : ByteArray) (x0_1 : Int) (x0_2 : (List ua4)) (depth1 : Int) (B0 : Int)
 | p15 (depth1 : Int) (B0 : Int) (H0 : ByteArray) (H1 : Int) (H2 : (List ua4))
 | p244 (depth1 : Int) (s20 : (List ua4)) (s21 : Int) (s22 : Int) (B0 : Int)
def uF4 : vj8 → List Bool
 | .start .. => []
 | .p15 .. => [true, true, true]
 | .p244 .. => [false, false, true, false, true, true, true]
def vO4 : vj8 → St E.S
 | .start x0_0 x0_1 x0_2 depth1 B0 => st0 33 [.agg [.v (.string x0_0), .v (.int .i64 x0_1), .sl 37 x0_2 false], .v (.int .i64 depth1), .bp 0 0, .bp 1 0, .bp 2 0] [.var 3 [.v (.int .i64 B0)], .var 136 [.fn 95 []], .var 173 [.fn 131 [.bp 0 0, .bp 1 0, .bp 2 0]]]
 | .p15 depth1 B0 H0 H1 H2 => mkSt 33 [1, 3, 4, 5] [.v (.int .i64 depth1), .bp 1 0, .bp 2 0, .bp 3 0] [.var 3 [.v (.int .i64 B0)], .var 136 [.fn 95 []], .var 173 [.fn 131 [.bp 0 0, .bp 1 0, .bp 2 0]], .var 37 [.v (.string H0), .v (.int .i64 H1), .sl 37 H2 false]]
 | .p244 depth1 s20 s21 s22 B0 => mkSt 33 [1, 4, 20, 21, 22] [.v (.int .i64 depth1), .bp 2 0, .sl 37 s20 false, .v (.int .i64 s21), .v (.int .i64 s22)] [.var 3 [.v (.int .i64 B0)], .var 136 [.fn 95 []], .var 173 [.fn 131 [.bp 0 0, .bp 1 0, .bp 2 0]]]
abbrev vC1 : Type := ((Bool × Unit) × ((Int × Unit) × ((Unit × Unit) × (((Unit × (Unit × (Unit × Unit))) × Unit) × Unit))))
def uo1 : Res E (Bool × Unit) ((Int × Unit) × ((Unit × Unit) × (((Unit × (Unit × (Unit × Unit))) × Unit) × Unit))) := { rows := [], flat := [], keep := 3, done := [0], rl := (.cons Rd.bool .nil), rb := (.cons (.var 3 (.cons (Rd.int .i64) .nil)) (.cons (.var 136 (.cons (Rd.fn 95 .nil) .nil)) (.cons (.var 173 (.cons (Rd.fn 131 (.cons (Rd.bp 0 0) (.cons (Rd.bp 1 0) (.cons (Rd.bp 2 0) .nil)))) .nil)) .nil))) }
def ux7 : vj8 → Option vC1
 | .start x0_0 x0_1 x0_2 depth1 B0 =>
  if (decide ((IntKind.wrap .i64 (B0 + (1 : Int))) > (200 : Int))) = true then
   some ((false, ()), ((IntKind.wrap .i64 (B0 + (1 : Int)), ()), (((), ()), ((((), ((), ((), ()))), ()), ()))))
  else
   if (decide (depth1 > (40 : Int))) = true then
    some ((false, ()), ((IntKind.wrap .i64 (B0 + (1 : Int)), ()), (((), ()), ((((), ((), ((), ()))), ()), ()))))
   else
    ux7 (.p15 depth1 (IntKind.wrap .i64 (B0 + (1 : Int))) x0_0 x0_1 x0_2)
 | .p15 depth1 B0 H0 H1 H2 =>
  (vg6 (.start H0 H1 H2)) >>= fun t1 =>
  ux7 (.p244 depth1 t1.1.1 (List.length t1.1.1 : Int) (0 : Int) B0)
 | .p244 depth1 s20 s21 s22 B0 =>
  if (decide (s22 < s21)) = true then
   (idx s20 s22) >>= fun t1 =>
   (ux7 (.start t1.Name t1.Number t1.Parts (IntKind.wrap .i64 (depth1 + (1 : Int))) B0)) >>= fun t2 =>
   if (!t2.1.1) = true then
    some ((false, ()), ((t2.2.1.1, ()), (((), ()), ((((), ((), ((), ()))), ()), ()))))
   else
    ux7 (.p244 depth1 s20 s21 (IntKind.wrap .i64 (s22 + (1 : Int))) t2.2.1.1)
  else
   some ((true, ()), ((B0, ()), (((), ()), ((((), ((), ((), ()))), ()), ()))))
 partial_fixpoint
def xi7 : List (Plc E vj8) := [⟨15, [true, true, true], { slots := [1, 3, 4, 5], rows := [], flat := [], keep := 3 }, _, _, (.cons (Rd.int .i64) (.cons (Rd.bp 1 0) (.cons (Rd.bp 2 0) (.cons (Rd.bp 3 0) .nil)))), (.cons (.var 3 (.cons (Rd.int .i64) .nil)) (.cons (.var 136 (.cons (Rd.fn 95 .nil) .nil)) (.cons (.var 173 (.cons (Rd.fn 131 (.cons (Rd.bp 0 0) (.cons (Rd.bp 1 0) (.cons (Rd.bp 2 0) .nil)))) .nil)) (.cons (.var 37 (.cons Rd.str (.cons (Rd.int .i64) (.cons (Rd.sl 37 false) .nil)))) .nil)))), fun a b => .p15 a.1 b.1.1 b.2.2.2.1.1 b.2.2.2.1.2.1 b.2.2.2.1.2.2.1⟩,
 ⟨244, [false, false, true, false, true, true, true], { slots := [1, 4, 20, 21, 22], rows := [], flat := [], keep := 3 }, _, _, (.cons (Rd.int .i64) (.cons (Rd.bp 2 0) (.cons (Rd.sl 37 false) (.cons (Rd.int .i64) (.cons (Rd.int .i64) .nil))))), (.cons (.var 3 (.cons (Rd.int .i64) .nil)) (.cons (.var 136 (.cons (Rd.fn 95 .nil) .nil)) (.cons (.var 173 (.cons (Rd.fn 131 (.cons (Rd.bp 0 0) (.cons (Rd.bp 1 0) (.cons (Rd.bp 2 0) .nil)))) .nil)) .nil))), fun a b => .p244 a.1 a.2.2.1 a.2.2.2.1 a.2.2.2.2.1 b.1.1⟩]
theorem wO9 : All (ub7 33 3 uF4 vO4) xi7 := ⟨⟨rfl, rfl, fun _ _ => rfl, fun _ _ => rfl⟩, ⟨⟨rfl, rfl, fun _ _ => rfl, fun _ _ => rfl⟩, trivial⟩⟩
def uI1 : Code := Tryz.f131.body.getD .skip
def w77 (run' : vj8 → Option vC1) : Con E := ⟨131, ((ByteArray × (Int × ((List ua4) × Unit))) × (Int × (Unit × (Unit × (Unit × Unit))))), ((Int × Unit) × ((Unit × Unit) × (((Unit × (Unit × (Unit × Unit))) × Unit) × Unit))), (RwL.cons (Rw.agg (RwL.cons Rd.str.w (RwL.cons (Rd.int .i64).w (RwL.cons (Rw.sl 37) RwL.nil)))) (RwL.cons (Rd.int .i64).w (RwL.cons (Rd.bp 0 0).w (RwL.cons (Rd.bp 1 0).w (RwL.cons (Rd.bp 2 0).w RwL.nil))))), (RdBL.cons (RdB.var 3 (RdL.cons (Rd.int .i64) RdL.nil)) (RdBL.cons (RdB.var 136 (RdL.cons (Rd.fn 95 RdL.nil) RdL.nil)) (RdBL.cons (RdB.var 173 (RdL.cons (Rd.fn 131 (RdL.cons (Rd.bp 0 0) (RdL.cons (Rd.bp 1 0) (RdL.cons (Rd.bp 2 0) RdL.nil)))) RdL.nil)) RdBL.nil))), 3, vC1, fun a b => run' (.start a.1.1 a.1.2.1 a.1.2.2.1 a.2.1 b.1.1), uo1.av, uo1.bx⟩
theorem wH6 {run' : vj8 → Option vC1} (ih : ∀ pt r, run' pt = some r → Good E Tryz.f131 uI1 3 (uo1.av r) (uo1.bx r) (uF4 pt) (vO4 pt)) : (w77 run').Ok := fun a b r h => ub2 (fn := Tryz.f131) (code := uI1) E_ok (by kernel_rfl) (by kernel_rfl) (by kernel_rfl) (Nat.le_of_ble_eq_true rfl) (ih (.start a.1.1 a.1.2.1 a.1.2.2.1 a.2.1 b.1.1) r h)
def wo4 (run' : vj8 → Option vC1) : Spec E.S := (Con.add (w77 run') (Con.add wZ6 ub0))
theorem v57 {run' : vj8 → Option vC1} (ih : ∀ pt r, run' pt = some r → Good E Tryz.f131 uI1 3 (uo1.av r) (uo1.bx r) (uF4 pt) (vO4 pt)) : ua9 E (wo4 run') := (Con.add_ok (wH6 ih) (Con.add_ok wB9 ua7))
theorem xx2 : ∀ pt r, ux7 pt = some r → Good E Tryz.f131 uI1 3 (uo1.av r) (uo1.bx r) (uF4 pt) (vO4 pt) := by
 refine ux7.partial_correctness (fun pt r => Good E Tryz.f131 uI1 3 (uo1.av r) (uo1.bx r) (uF4 pt) (vO4 pt)) ?_
 intro run' ih pt r hr
 cases pt <;> exact ua8 (spec := (wo4 run')) (wr := (mkWr [] [])) (l := xi7) (z := 33) (p := uo1) E_ok wO9.mem rfl (v57 ih) ih (Eq.trans (by kernel_rfl) hr)
def wZ7 : Con E := ⟨131, _, _, (.cons (Rw.agg (.cons Rd.str.w (.cons (Rd.int .i64).w (.cons (Rw.sl 37) .nil)))) (.cons (Rd.int .i64).w (.cons (Rd.bp 0 0).w (.cons (Rd.bp 1 0).w (.cons (Rd.bp 2 0).w .nil))))), (.cons (.var 3 (.cons (Rd.int .i64) .nil)) (.cons (.var 136 (.cons (Rd.fn 95 .nil) .nil)) (.cons (.var 173 (.cons (Rd.fn 131 (.cons (Rd.bp 0 0) (.cons (Rd.bp 1 0) (.cons (Rd.bp 2 0) .nil)))) .nil)) .nil))), 3, vC1, fun a b => ux7 (.start a.1.1 a.1.2.1 a.1.2.2.1 a.2.1 b.1.1), uo1.av, uo1.bx⟩
theorem wC0 : wZ7.Ok := fun a b r h => ub2 (fn := Tryz.f131) (code := uI1) E_ok (by kernel_rfl) (by kernel_rfl) (by kernel_rfl) (Nat.le_of_ble_eq_true rfl) (xx2 (.start a.1.1 a.1.2.1 a.1.2.2.1 a.2.1 b.1.1) r h)
inductive wx7 where
 | start (root0_0 : ByteArray) (root0_1 : Int) (root0_2 : (List ua4))
def vJ0 : wx7 → List Bool
 | .start .. => []
def xK1 : wx7 → St E.S
 | .start root0_0 root0_1 root0_2 => st0 12 [.agg [.v (.string root0_0), .v (.int .i64 root0_1), .sl 37 root0_2 false], .fn 95 []] []
abbrev xQ0 : Type := ((Int × Unit) × Unit)
def vd3 : Res E (Int × Unit) Unit := { rows := [], flat := [], keep := 0, done := [0], rl := (.cons (Rd.int .i64) .nil), rb := .nil }
def u00 : wx7 → Option xQ0
 | .start root0_0 root0_1 root0_2 =>
  (ux7 (.start root0_0 root0_1 root0_2 (1 : Int) (0 : Int))) >>= fun t1 =>
  (uc4 (.start t1.1.1 (8 : Int))) >>= fun t2 =>
  some ((t2.1.1, ()), ())
def xi8 : List (Plc E wx7) := []
theorem wP0 : All (ub7 12 0 vJ0 xK1) xi8 := trivial
def wf8 : Code := Tryz.f94.body.getD .skip
def wo5 : Spec E.S := (Con.add uR9 (Con.add wZ7 ub0))
theorem v58 : ua9 E wo5 := (Con.add_ok uq4 (Con.add_ok wC0 ua7))
theorem xx3 : ∀ pt r, u00 pt = some r → Good E Tryz.f94 wf8 0 (vd3.av r) (vd3.bx r) (vJ0 pt) (xK1 pt) := by
 intro pt r hr
 cases pt <;> exact ua8 (spec := wo5) (wr := (mkWr [] [])) (l := xi8) (z := 12) (p := vd3) (run' := fun _ => none) E_ok wP0.mem rfl v58 (fun _ _ h => by cases h) (Eq.trans (by kernel_rfl) hr)
def vS5 : Con E := ⟨94, _, _, (.cons (Rw.agg (.cons Rd.str.w (.cons (Rd.int .i64).w (.cons (Rw.sl 37) .nil)))) (.cons (Rd.fn 95 .nil).w .nil)), .nil, 0, xQ0, fun a b => u00 (.start a.1.1 a.1.2.1 a.1.2.2.1), vd3.av, vd3.bx⟩
theorem vn3 : vS5.Ok := fun a b r h => ub2 (fn := Tryz.f94) (code := wf8) E_ok (by kernel_rfl) (by kernel_rfl) (by kernel_rfl) (Nat.le_of_ble_eq_true rfl) (xx3 (.start a.1.1 a.1.2.1 a.1.2.2.1) r h)
inductive wx8 where
 | start (v0_0 : ByteArray) (v0_1 : (List ua6)) (v0_2 : (Option (List (Option ua5)))) (s1 : ByteArray)
def vJ1 : wx8 → List Bool
 | .start .. => []
def xK2 : wx8 → St E.S
 | .start v0_0 v0_1 v0_2 s1 => st0 8 [.agg [.v (.string v0_0), .sl 58 v0_1 false, .so 105 v0_2], .el 9 s1 0] []
abbrev xQ1 : Type := ((Bool × Unit) × Unit)
def vd4 : Res E (Bool × Unit) Unit := { rows := [], flat := [], keep := 0, done := [0], rl := (.cons Rd.bool .nil), rb := .nil }
def u01 : wx8 → Option xQ1
 | .start v0_0 v0_1 v0_2 s1 =>
  some ((seq v0_0 s1, ()), ())
def xi9 : List (Plc E wx8) := []
theorem wP1 : All (ub7 8 0 vJ1 xK2) xi9 := trivial
def wf9 : Code := Tryz.f123.body.getD .skip
def wo6 : Spec E.S := ub0
theorem v59 : ua9 E wo6 := ua7
theorem xx4 : ∀ pt r, u01 pt = some r → Good E Tryz.f123 wf9 0 (vd4.av r) (vd4.bx r) (vJ1 pt) (xK2 pt) := by
 intro pt r hr
 cases pt <;> exact ua8 (spec := wo6) (wr := (mkWr [] [])) (l := xi9) (z := 8) (p := vd4) (run' := fun _ => none) E_ok wP1.mem rfl v59 (fun _ _ h => by cases h) (Eq.trans (by kernel_rfl) hr)
def wZ8 : Con E := ⟨123, _, _, (.cons (Rw.agg (.cons Rd.str.w (.cons (Rw.sl 58) (.cons (Rd.so 105).w .nil)))) (.cons (Rd.el 9 0).w .nil)), .nil, 0, xQ1, fun a b => u01 (.start a.1.1 a.1.2.1 a.1.2.2.1 a.2.1), vd4.av, vd4.bx⟩
theorem wC1 : wZ8.Ok := fun a b r h => ub2 (fn := Tryz.f123) (code := wf9) E_ok (by kernel_rfl) (by kernel_rfl) (by kernel_rfl) (Nat.le_of_ble_eq_true rfl) (xx4 (.start a.1.1 a.1.2.1 a.1.2.2.1 a.2.1) r h)
inductive wx9 where
 | start (s0 : (Option (List data_variant))) (B0 : ByteArray)
 | p52 (s0 : (Option (List data_variant))) (s7 : Int) (s8 : Int) (B0 : ByteArray)
def u99 : wx9 → List Bool
 | .start .. => []
 | .p52 .. => [false, false, true, false, true]
def xd0 : wx9 → St E.S
 | .start s0 B0 => st0 19 [.so 125 s0, .fn 123 [.bp 0 0]] [.var 9 [.v (.string B0)]]
 | .p52 s0 s7 s8 B0 => mkSt 19 [0, 1, 7, 8] [.so 125 s0, .fn 123 [.bp 0 0], .v (.int .i64 s7), .v (.int .i64 s8)] [.var 9 [.v (.string B0)]]
abbrev xQ2 : Type := ((Int × Unit) × ((ByteArray × Unit) × Unit))
def uO7 : Res E (Int × Unit) ((ByteArray × Unit) × Unit) := { rows := [], flat := [], keep := 1, done := [0], rl := (.cons (Rd.int .i64) .nil), rb := (.cons (.var 9 (.cons Rd.str .nil)) .nil) }
def um9 : wx9 → Option xQ2
 | .start s0 B0 =>
  um9 (.p52 s0 (List.length (Option.getD s0 []) : Int) (0 : Int) B0)
 | .p52 s0 s7 s8 B0 =>
  if (decide (s8 < s7)) = true then
   (idx (Option.getD s0 []) s8) >>= fun t1 =>
   (u01 (.start t1.name t1.fields t1.parts B0)) >>= fun t2 =>
   if t2.1.1 = true then
    some ((s8, ()), ((B0, ()), ()))
   else
    um9 (.p52 s0 s7 (IntKind.wrap .i64 (s8 + (1 : Int))) B0)
  else
   some (((-1 : Int), ()), ((B0, ()), ()))
 partial_fixpoint
def xj1 : List (Plc E wx9) := [⟨52, [false, false, true, false, true], { slots := [0, 1, 7, 8], rows := [], flat := [], keep := 1 }, _, _, (.cons (Rd.so 125) (.cons (Rd.fn 123 (.cons (Rd.bp 0 0) .nil)) (.cons (Rd.int .i64) (.cons (Rd.int .i64) .nil)))), (.cons (.var 9 (.cons Rd.str .nil)) .nil), fun a b => .p52 a.1 a.2.2.1 a.2.2.2.1 b.1.1⟩]
theorem wP2 : All (ub7 19 1 u99 xd0) xj1 := ⟨⟨rfl, rfl, fun _ _ => rfl, fun _ _ => rfl⟩, trivial⟩
def vu2 : Code := Tryz.f122.body.getD .skip
def wo7 : Spec E.S := (Con.add wZ8 ub0)
theorem v60 : ua9 E wo7 := (Con.add_ok wC1 ua7)
theorem xx5 : ∀ pt r, um9 pt = some r → Good E Tryz.f122 vu2 1 (uO7.av r) (uO7.bx r) (u99 pt) (xd0 pt) := by
 refine um9.partial_correctness (fun pt r => Good E Tryz.f122 vu2 1 (uO7.av r) (uO7.bx r) (u99 pt) (xd0 pt)) ?_
 intro run' ih pt r hr
 cases pt <;> exact ua8 (spec := wo7) (wr := (mkWr [] [])) (l := xj1) (z := 19) (p := uO7) E_ok wP2.mem rfl v60 ih (Eq.trans (by kernel_rfl) hr)
def wZ9 : Con E := ⟨122, _, _, (.cons (Rd.so 125).w (.cons (Rd.fn 123 (.cons (Rd.bp 0 0) .nil)).w .nil)), (.cons (.var 9 (.cons Rd.str .nil)) .nil), 1, xQ2, fun a b => um9 (.start a.1 b.1.1), uO7.av, uO7.bx⟩
theorem wC2 : wZ9.Ok := fun a b r h => ub2 (fn := Tryz.f122) (code := vu2) E_ok (by kernel_rfl) (by kernel_rfl) (by kernel_rfl) (Nat.le_of_ble_eq_true rfl) (xx5 (.start a.1 b.1.1) r h)
inductive wy0 where
 | start (x0 : (Option ua5)) (name1 : ByteArray)
def vJ2 : wy0 → List Bool
 | .start .. => []
def xK3 : wy0 → St E.S
 | .start x0 name1 => st0 11 [.op 128 x0, .v (.string name1)] []
abbrev xQ3 : Type := ((Int × Unit) × Unit)
def vd5 : Res E (Int × Unit) Unit := { rows := [], flat := [], keep := 0, done := [0], rl := (.cons (Rd.int .i64) .nil), rb := .nil }
def uC8 : wy0 → Option xQ3
 | .start x0 name1 =>
  x0 >>= fun t1 =>
  (um9 (.start t1.constructors name1)) >>= fun t2 =>
  some ((t2.1.1, ()), ())
def xj2 : List (Plc E wy0) := []
theorem wP3 : All (ub7 11 0 vJ2 xK3) xj2 := trivial
def wg0 : Code := Tryz.f80.body.getD .skip
def wo8 : Spec E.S := (Con.add wZ9 ub0)
theorem v61 : ua9 E wo8 := (Con.add_ok wC2 ua7)
theorem xx6 : ∀ pt r, uC8 pt = some r → Good E Tryz.f80 wg0 0 (vd5.av r) (vd5.bx r) (vJ2 pt) (xK3 pt) := by
 intro pt r hr
 cases pt <;> exact ua8 (spec := wo8) (wr := (mkWr [] [])) (l := xj2) (z := 11) (p := vd5) (run' := fun _ => none) E_ok wP3.mem rfl v61 (fun _ _ h => by cases h) (Eq.trans (by kernel_rfl) hr)
def vv8 : Con E := ⟨80, _, _, (.cons (Rd.op 128).w (.cons Rd.str.w .nil)), .nil, 0, xQ3, fun a b => uC8 (.start a.1 a.2.1), vd5.av, vd5.bx⟩
theorem uW7 : vv8.Ok := fun a b r h => ub2 (fn := Tryz.f80) (code := wg0) E_ok (by kernel_rfl) (by kernel_rfl) (by kernel_rfl) (Nat.le_of_ble_eq_true rfl) (xx6 (.start a.1 a.2.1) r h)
inductive u47 where
 | start (i0 : Int) (part1_0 : ByteArray) (part1_1 : Int) (part1_2 : (List ua4)) (C0 : ByteArray) (C1 : (List ua6)) (C2 : (Option (List (Option ua5))))
def uy9 : u47 → List Bool
 | .start .. => []
def vr6 : u47 → St E.S
 | .start i0 part1_0 part1_1 part1_2 C0 C1 C2 => st0 13 [.v (.int .i64 i0), .agg [.v (.string part1_0), .v (.int .i64 part1_1), .sl 37 part1_2 false], .bp 0 0] [.var 125 [.v (.string C0), .sl 58 C1 false, .so 105 C2]]
abbrev vC2 : Type := ((Int × Unit) × ((ByteArray × ((List ua6) × ((Option (List (Option ua5))) × Unit))) × Unit))
def ul1 : Res E (Int × Unit) ((ByteArray × ((List ua6) × ((Option (List (Option ua5))) × Unit))) × Unit) := { rows := [], flat := [], keep := 1, done := [0], rl := (.cons (Rd.int .i64) .nil), rb := (.cons (.var 125 (.cons Rd.str (.cons (Rd.sl 58 false) (.cons (Rd.so 105) .nil)))) .nil) }
inductive u48 where
 | start (x0 : (Option ua5)) (v1_0 : ByteArray) (v1_1 : Int) (v1_2 : (List ua4))
def uz0 : u48 → List Bool
 | .start .. => []
def vr7 : u48 → St E.S
 | .start x0 v1_0 v1_1 v1_2 => st0 72 [.op 128 x0, .agg [.v (.string v1_0), .v (.int .i64 v1_1), .sl 37 v1_2 false]] []
abbrev vC3 : Type := ((Int × Unit) × Unit)
def ul2 : Res E (Int × Unit) Unit := { rows := [], flat := [], keep := 0, done := [0], rl := (.cons (Rd.int .i64) .nil), rb := .nil }
inductive uV8 where
 | start (l0 : (List ua4)) (C0 : ByteArray) (C1 : (List ua6)) (C2 : (Option (List (Option ua5))))
 | p52 (s9 : (List ua4)) (s10 : Int) (s11 : Int) (C0 : ByteArray) (C1 : (List ua6)) (C2 : (Option (List (Option ua5))))
def uu0 : uV8 → List Bool
 | .start .. => []
 | .p52 .. => [false, false, true, false, true]
def vi4 : uV8 → St E.S
 | .start l0 C0 C1 C2 => st0 25 [.sl 37 l0 false, .fn 143 [.bp 0 0]] [.var 125 [.v (.string C0), .sl 58 C1 false, .so 105 C2]]
 | .p52 s9 s10 s11 C0 C1 C2 => mkSt 25 [1, 9, 10, 11] [.fn 143 [.bp 0 0], .sl 37 s9 false, .v (.int .i64 s10), .v (.int .i64 s11)] [.var 125 [.v (.string C0), .sl 58 C1 false, .so 105 C2]]
abbrev vk9 : Type := ((Int × (Int × Unit)) × ((ByteArray × ((List ua6) × ((Option (List (Option ua5))) × Unit))) × Unit))
def ui8 : Res E (Int × (Int × Unit)) ((ByteArray × ((List ua6) × ((Option (List (Option ua5))) × Unit))) × Unit) := { rows := [], flat := [], keep := 1, done := [0, 1], rl := (.cons (Rd.int .i64) (.cons (Rd.int .i64) .nil)), rb := (.cons (.var 125 (.cons Rd.str (.cons (Rd.sl 58 false) (.cons (Rd.so 105) .nil)))) .nil) }
mutual
def uH3 : u47 → Option vC2
 | .start i0 part1_0 part1_1 part1_2 C0 C1 C2 =>
  (idx (Option.getD C2 []) i0) >>= fun t1 =>
  (run_z53 (.start t1 part1_0 part1_1 part1_2)) >>= fun t2 =>
  some ((t2.1.1, ()), ((C0, (C1, (C2, ()))), ()))
 partial_fixpoint
def run_z53 : u48 → Option vC3
 | .start x0 v1_0 v1_1 v1_2 =>
  (ur3 (.start x0)) >>= fun t1 =>
  if t1.1.1 = true then
   if (seq v1_0 (⟨#[]⟩ : ByteArray)) = true then
    (uc4 (.start ((List.length v1_2 : Int) == (0 : Int)) (3 : Int))) >>= fun t2 =>
    x0 >>= fun t3 =>
    if (decide ((0 : Int) ≤ t3.bits)) = true then
     (uk1 (.start v1_1 (0 : Int) (IntKind.wrap .i64 ((shl .i64 (1 : Int) t3.bits) - (1 : Int))))) >>= fun t4 =>
     (uc4 (.start t4.1.1 (2 : Int))) >>= fun t5 =>
     (uc8 (.start ([t2.1.1, t5.1.1] : List Int))) >>= fun t6 =>
     some ((t6.1.1, ()), ())
    else none
   else
    (uc4 (.start false (3 : Int))) >>= fun t7 =>
    x0 >>= fun t8 =>
    if (decide ((0 : Int) ≤ t8.bits)) = true then
     (uk1 (.start v1_1 (0 : Int) (IntKind.wrap .i64 ((shl .i64 (1 : Int) t8.bits) - (1 : Int))))) >>= fun t9 =>
     (uc4 (.start t9.1.1 (2 : Int))) >>= fun t10 =>
     (uc8 (.start ([t7.1.1, t10.1.1] : List Int))) >>= fun t11 =>
     some ((t11.1.1, ()), ())
    else none
  else
   (uC8 (.start x0 v1_0)) >>= fun t12 =>
   if (decide (t12.1.1 < (0 : Int))) = true then
    some (((6 : Int), ()), ())
   else
    x0 >>= fun t13 =>
    (idx (Option.getD t13.constructors []) t12.1.1) >>= fun t14 =>
    (uc4 (.start (v1_1 == (0 : Int)) (3 : Int))) >>= fun t15 =>
    (uc4 (.start ((List.length v1_2 : Int) == (List.length (Option.getD t14.parts []) : Int)) (10 : Int))) >>= fun t16 =>
    (uc8 (.start ([t15.1.1, t16.1.1] : List Int))) >>= fun t17 =>
    if (t17.1.1 != (0 : Int)) = true then
     some ((t17.1.1, ()), ())
    else
     (run_z54 (.start v1_2 t14.name t14.fields t14.parts)) >>= fun t18 =>
     some ((t18.1.2.1, ()), ())
 partial_fixpoint
def run_z54 : uV8 → Option vk9
 | .start l0 C0 C1 C2 =>
  run_z54 (.p52 l0 (List.length l0 : Int) (0 : Int) C0 C1 C2)
 | .p52 s9 s10 s11 C0 C1 C2 =>
  if (decide (s11 < s10)) = true then
   (idx s9 s11) >>= fun t1 =>
   (uH3 (.start s11 t1.Name t1.Number t1.Parts C0 C1 C2)) >>= fun t2 =>
   if (t2.1.1 != (0 : Int)) = true then
    some ((s11, (t2.1.1, ())), ((t2.2.1.1, (t2.2.1.2.1, (t2.2.1.2.2.1, ()))), ()))
   else
    run_z54 (.p52 s9 s10 (IntKind.wrap .i64 (s11 + (1 : Int))) t2.2.1.1 t2.2.1.2.1 t2.2.1.2.2.1)
  else
   some (((0 : Int), ((0 : Int), ())), ((C0, (C1, (C2, ()))), ()))
 partial_fixpoint
end
def xj3 : List (Plc E u47) := []
theorem wP4 : All (ub7 13 1 uy9 vr6) xj3 := trivial
def uA1 : Code := Tryz.f143.body.getD .skip
def w78 (run' : u47 → Option vC2) : Con E := ⟨143, (Int × ((ByteArray × (Int × ((List ua4) × Unit))) × (Unit × Unit))), ((ByteArray × ((List ua6) × ((Option (List (Option ua5))) × Unit))) × Unit), (RwL.cons (Rd.int .i64).w (RwL.cons (Rw.agg (RwL.cons Rd.str.w (RwL.cons (Rd.int .i64).w (RwL.cons (Rw.sl 37) RwL.nil)))) (RwL.cons (Rd.bp 0 0).w RwL.nil))), (RdBL.cons (RdB.var 125 (RdL.cons Rd.str (RdL.cons (Rd.sl 58 false) (RdL.cons (Rd.so 105) RdL.nil)))) RdBL.nil), 1, vC2, fun a b => run' (.start a.1 a.2.1.1 a.2.1.2.1 a.2.1.2.2.1 b.1.1 b.1.2.1 b.1.2.2.1), ul1.av, ul1.bx⟩
theorem wH7 {run' : u47 → Option vC2} (ih : ∀ pt r, run' pt = some r → Good E Tryz.f143 uA1 1 (ul1.av r) (ul1.bx r) (uy9 pt) (vr6 pt)) : (w78 run').Ok := fun a b r h => ub2 (fn := Tryz.f143) (code := uA1) E_ok (by kernel_rfl) (by kernel_rfl) (by kernel_rfl) (Nat.le_of_ble_eq_true rfl) (ih (.start a.1 a.2.1.1 a.2.1.2.1 a.2.1.2.2.1 b.1.1 b.1.2.1 b.1.2.2.1) r h)
def xj4 : List (Plc E u48) := []
theorem wP5 : All (ub7 72 0 uz0 vr7) xj4 := trivial
def uA2 : Code := Tryz.f109.body.getD .skip
def w79 (run' : u48 → Option vC3) : Con E := ⟨109, ((Option ua5) × ((ByteArray × (Int × ((List ua4) × Unit))) × Unit)), Unit, (RwL.cons (Rd.op 128).w (RwL.cons (Rw.agg (RwL.cons Rd.str.w (RwL.cons (Rd.int .i64).w (RwL.cons (Rw.sl 37) RwL.nil)))) RwL.nil)), RdBL.nil, 0, vC3, fun a b => run' (.start a.1 a.2.1.1 a.2.1.2.1 a.2.1.2.2.1), ul2.av, ul2.bx⟩
theorem wH8 {run' : u48 → Option vC3} (ih : ∀ pt r, run' pt = some r → Good E Tryz.f109 uA2 0 (ul2.av r) (ul2.bx r) (uz0 pt) (vr7 pt)) : (w79 run').Ok := fun a b r h => ub2 (fn := Tryz.f109) (code := uA2) E_ok (by kernel_rfl) (by kernel_rfl) (by kernel_rfl) (Nat.le_of_ble_eq_true rfl) (ih (.start a.1 a.2.1.1 a.2.1.2.1 a.2.1.2.2.1) r h)
def xj5 : List (Plc E uV8) := [⟨52, [false, false, true, false, true], { slots := [1, 9, 10, 11], rows := [], flat := [], keep := 1 }, _, _, (.cons (Rd.fn 143 (.cons (Rd.bp 0 0) .nil)) (.cons (Rd.sl 37 false) (.cons (Rd.int .i64) (.cons (Rd.int .i64) .nil)))), (.cons (.var 125 (.cons Rd.str (.cons (Rd.sl 58 false) (.cons (Rd.so 105) .nil)))) .nil), fun a b => .p52 a.2.1 a.2.2.1 a.2.2.2.1 b.1.1 b.1.2.1 b.1.2.2.1⟩]
theorem wP6 : All (ub7 25 1 uu0 vi4) xj5 := ⟨⟨rfl, rfl, fun _ _ => rfl, fun _ _ => rfl⟩, trivial⟩
def uw1 : Code := Tryz.f134.body.getD .skip
def vV6 (run' : uV8 → Option vk9) : Con E := ⟨134, ((List ua4) × ((Unit × Unit) × Unit)), ((ByteArray × ((List ua6) × ((Option (List (Option ua5))) × Unit))) × Unit), (RwL.cons (Rw.sl 37) (RwL.cons (Rd.fn 143 (RdL.cons (Rd.bp 0 0) RdL.nil)).w RwL.nil)), (RdBL.cons (RdB.var 125 (RdL.cons Rd.str (RdL.cons (Rd.sl 58 false) (RdL.cons (Rd.so 105) RdL.nil)))) RdBL.nil), 1, vk9, fun a b => run' (.start a.1 b.1.1 b.1.2.1 b.1.2.2.1), ui8.av, ui8.bx⟩
theorem vp9 {run' : uV8 → Option vk9} (ih : ∀ pt r, run' pt = some r → Good E Tryz.f134 uw1 1 (ui8.av r) (ui8.bx r) (uu0 pt) (vi4 pt)) : (vV6 run').Ok := fun a b r h => ub2 (fn := Tryz.f134) (code := uw1) E_ok (by kernel_rfl) (by kernel_rfl) (by kernel_rfl) (Nat.le_of_ble_eq_true rfl) (ih (.start a.1 b.1.1 b.1.2.1 b.1.2.2.1) r h)
def wo9 (r_z53 : u48 → Option vC3) : Spec E.S := (Con.add (w79 r_z53) ub0)
theorem v62 {r_z53 : u48 → Option vC3} (h_z53 : ∀ pt r, r_z53 pt = some r → Good E Tryz.f109 uA2 0 (ul2.av r) (ul2.bx r) (uz0 pt) (vr7 pt)) : ua9 E (wo9 r_z53) := (Con.add_ok (wH8 h_z53) ua7)
def wp0 (r_z54 : uV8 → Option vk9) : Spec E.S := (Con.add (vV6 r_z54) (Con.add vv8 (Con.add uE3 (Con.add uR8 (Con.add uR9 (Con.add uM5 ub0))))))
theorem v63 {r_z54 : uV8 → Option vk9} (h_z54 : ∀ pt r, r_z54 pt = some r → Good E Tryz.f134 uw1 1 (ui8.av r) (ui8.bx r) (uu0 pt) (vi4 pt)) : ua9 E (wp0 r_z54) := (Con.add_ok (vp9 h_z54) (Con.add_ok uW7 (Con.add_ok un4 (Con.add_ok uq3 (Con.add_ok uq4 (Con.add_ok us7 ua7))))))
def wp1 (r_z52 : u47 → Option vC2) (r_z54 : uV8 → Option vk9) : Spec E.S := (Con.add (vV6 r_z54) (Con.add (w78 r_z52) ub0))
theorem v64 {r_z52 : u47 → Option vC2} (h_z52 : ∀ pt r, r_z52 pt = some r → Good E Tryz.f143 uA1 1 (ul1.av r) (ul1.bx r) (uy9 pt) (vr6 pt)) {r_z54 : uV8 → Option vk9} (h_z54 : ∀ pt r, r_z54 pt = some r → Good E Tryz.f134 uw1 1 (ui8.av r) (ui8.bx r) (uu0 pt) (vi4 pt)) : ua9 E (wp1 r_z52 r_z54) := (Con.add_ok (vp9 h_z54) (Con.add_ok (wH7 h_z52) ua7))
theorem u74 : (∀ pt r, uH3 pt = some r → Good E Tryz.f143 uA1 1 (ul1.av r) (ul1.bx r) (uy9 pt) (vr6 pt)) ∧ (∀ pt r, run_z53 pt = some r → Good E Tryz.f109 uA2 0 (ul2.av r) (ul2.bx r) (uz0 pt) (vr7 pt)) ∧ (∀ pt r, run_z54 pt = some r → Good E Tryz.f134 uw1 1 (ui8.av r) (ui8.bx r) (uu0 pt) (vi4 pt)) := by
  refine uH3.mutual_partial_correctness (fun pt r => Good E Tryz.f143 uA1 1 (ul1.av r) (ul1.bx r) (uy9 pt) (vr6 pt)) (fun pt r => Good E Tryz.f109 uA2 0 (ul2.av r) (ul2.bx r) (uz0 pt) (vr7 pt)) (fun pt r => Good E Tryz.f134 uw1 1 (ui8.av r) (ui8.bx r) (uu0 pt) (vi4 pt)) ?_ ?_ ?_
  · intro r_z53 h_z53 pt r hr
    cases pt <;> exact ua8 (spec := (wo9 r_z53)) (wr := (mkWr [] [])) (l := xj3) (z := 13) (p := ul1) (run' := fun _ => none) E_ok wP4.mem rfl (v62 h_z53) (fun _ _ h => by cases h) (Eq.trans (by kernel_rfl) hr)
  · intro r_z54 h_z54 pt r hr
    cases pt <;> exact ua8 (spec := (wp0 r_z54)) (wr := (mkWr [] [])) (l := xj4) (z := 72) (p := ul2) (run' := fun _ => none) E_ok wP5.mem rfl (v63 h_z54) (fun _ _ h => by cases h) (Eq.trans (by kernel_rfl) hr)
  · intro r_z52 r_z54 h_z52 h_z54 pt r hr
    cases pt <;> exact ua8 (spec := (wp1 r_z52 r_z54)) (wr := (mkWr [] [])) (l := xj5) (z := 25) (p := ui8) E_ok wP6.mem rfl (v64 h_z52 h_z54) h_z54 (Eq.trans (by kernel_rfl) hr)
theorem xx7 : ∀ pt r, uH3 pt = some r → Good E Tryz.f143 uA1 1 (ul1.av r) (ul1.bx r) (uy9 pt) (vr6 pt) := u74.1
theorem xx8 : ∀ pt r, run_z53 pt = some r → Good E Tryz.f109 uA2 0 (ul2.av r) (ul2.bx r) (uz0 pt) (vr7 pt) := u74.2.1
theorem xx9 : ∀ pt r, run_z54 pt = some r → Good E Tryz.f134 uw1 1 (ui8.av r) (ui8.bx r) (uu0 pt) (vi4 pt) := u74.2.2
def xR9 : Con E := ⟨143, _, _, (.cons (Rd.int .i64).w (.cons (Rw.agg (.cons Rd.str.w (.cons (Rd.int .i64).w (.cons (Rw.sl 37) .nil)))) (.cons (Rd.bp 0 0).w .nil))), (.cons (.var 125 (.cons Rd.str (.cons (Rd.sl 58 false) (.cons (Rd.so 105) .nil)))) .nil), 1, vC2, fun a b => uH3 (.start a.1 a.2.1.1 a.2.1.2.1 a.2.1.2.2.1 b.1.1 b.1.2.1 b.1.2.2.1), ul1.av, ul1.bx⟩
theorem xY9 : xR9.Ok := fun a b r h => ub2 (fn := Tryz.f143) (code := uA1) E_ok (by kernel_rfl) (by kernel_rfl) (by kernel_rfl) (Nat.le_of_ble_eq_true rfl) (xx7 (.start a.1 a.2.1.1 a.2.1.2.1 a.2.1.2.2.1 b.1.1 b.1.2.1 b.1.2.2.1) r h)
def w00 : Con E := ⟨109, _, _, (.cons (Rd.op 128).w (.cons (Rw.agg (.cons Rd.str.w (.cons (Rd.int .i64).w (.cons (Rw.sl 37) .nil)))) .nil)), .nil, 0, vC3, fun a b => run_z53 (.start a.1 a.2.1.1 a.2.1.2.1 a.2.1.2.2.1), ul2.av, ul2.bx⟩
theorem wC3 : w00.Ok := fun a b r h => ub2 (fn := Tryz.f109) (code := uA2) E_ok (by kernel_rfl) (by kernel_rfl) (by kernel_rfl) (Nat.le_of_ble_eq_true rfl) (xx8 (.start a.1 a.2.1.1 a.2.1.2.1 a.2.1.2.2.1) r h)
def xS0 : Con E := ⟨134, _, _, (.cons (Rw.sl 37) (.cons (Rd.fn 143 (.cons (Rd.bp 0 0) .nil)).w .nil)), (.cons (.var 125 (.cons Rd.str (.cons (Rd.sl 58 false) (.cons (Rd.so 105) .nil)))) .nil), 1, vk9, fun a b => run_z54 (.start a.1 b.1.1 b.1.2.1 b.1.2.2.1), ui8.av, ui8.bx⟩
theorem xZ0 : xS0.Ok := fun a b r h => ub2 (fn := Tryz.f134) (code := uw1) E_ok (by kernel_rfl) (by kernel_rfl) (by kernel_rfl) (Nat.le_of_ble_eq_true rfl) (xx9 (.start a.1 b.1.1 b.1.2.1 b.1.2.2.1) r h)
end
end Go.Proofs.YtaennkkcnhfglaaGreatDoor.Ev.F
